import Derived.OwnWalkIn
import Derived.TacticsInMore
import Derived.LoopNIn
import Derived.LoopIn
import Derived.Shelf.Abstract
import Derived.Test.YtmejngojpffcgaaSeq
import Derived.Test.YtmejngojpffcgaaScan
import Derived.Test.YtmejngojpffcgaaAtb
namespace Go.Ls
open Go.RowKit
section
variable {F : Fence} {n : Nat} {P : Program} {ops : Array Oper} {rest : List Oper} {o : Oper} {a : Act} {w : World} {Q : Exit → Act → World → Prop}
theorem storeIn_row (hgd : o.guard = none) (ty : TypeId) (x y : Operand) (ho : o.op = .store ty x y)
    (g : Nat) (cells : Array Value) (hx : a.eval x = .pointer (some ⟨g, 0, none⟩)) (hy : a.eval y = .agg cells)
    (t : TypeId) (old : Array Value) (hg : Blk w g t old) (hi : (P.info? ty).map (·.size) = some cells.size)
    (hold : old.size = cells.size) (h1 : cells.all (·.oneCell') = true)
    (h : wpListIn F n P ops Q rest (a.put o.dst undef) (w.setRow g cells)) : wpListIn F n P ops Q (o :: rest) a w :=
  wpListIn_plain hgd fun K hK => by
    unfold Oper.wpIn
    refine ⟨by simp [Oper.about, ho], ?_⟩
    rw [Oper.semAt_plain F _ _ (by rw [ho]; intro c hc'; cases hc')]
    unfold execOp
    simp only [ho, hx, hy, Instr.storeAt, Instr.sureAddr, Sem.run_bind, Sem.run_pure, Result.andThen_ok, run_storeVar_row w g t ty old cells hg hi hold h1]
    exact hK _ _ h
theorem loadIn_row (hgd : o.guard = none) (ty : TypeId) (x : Operand) (ho : o.op = .load ty x)
    (g : Nat) (hx : a.eval x = .pointer (some ⟨g, 0, none⟩)) (t : TypeId) (cs : Array Value) (d : TypeDesc) (hg : Blk w g t cs)
    (hu : P.underlying ty = some d) (hd : (match d with | .struct _ | .array _ _ => true | _ => false) = true) (hi : (P.info? ty).map (·.size) = some cs.size)
    (h : wpListIn F n P ops Q rest (a.put o.dst (.agg cs)) w) : wpListIn F n P ops Q (o :: rest) a w :=
  wpListIn_plain hgd fun K hK => by
    unfold Oper.wpIn
    refine ⟨by simp [Oper.about, ho], ?_⟩
    rw [Oper.semAt_plain F _ _ (by rw [ho]; intro c hc'; cases hc')]
    unfold execOp
    simp only [ho, hx, Instr.loadAt, Instr.sureAddr, Sem.run_bind, Sem.run_pure, Result.andThen_ok, run_loadVar_row w g t ty cs (0, 0) d hg hu hd hi]
    exact hK _ _ h
end
end Go.Ls
namespace Go.Proofs.Ytmejngojpffcgaa
open Go.RowKit Go.Ls
attribute [local go_sem] Oper.semAt_some

/-- The types of bytes and of slices of bytes: whoever goes over records turns no block of these. -/
def byteTypes (t : TypeId) : Prop := t = 5 ∨ t = 27
/-- The value of a record. -/
def recV (x : Value × Rec) : Value := .agg #[.int .i64 x.2.place, .int .i64 x.2.size, .int .u8 (b8 x.2.kind), x.1]
def RecX (b : List UInt8) (B : Nat) (pre : List (Value × Rec)) (x : Value × Rec) (A : World) : Prop :=
  Pay (From B) A x.1 x.2.payload ∧ pre.length < b.length ∧ x.2.place + x.2.size ≤ b.length ∧ ∃ k, k < b.length ∧ x.2 = recOf b k ∧ pre.map (·.2) ++ x.2 :: scanAt b (k + x.2.size) = recScan b
def RecS (b : List UInt8) (B : Nat) (xs : List (Value × Rec)) (A : World) : Prop :=
  xs.map (·.2) = recScan b ∧ ∀ x ∈ xs, Pay (From B) A x.1 x.2.payload
theorem RecX.put {b : List UInt8} {B : Nat} {pre : List (Value × Rec)} {x : Value × Rec} {A : World} {l : Nat} {o o' : Obj} (h : RecX b B pre x A) (hl : A.heap[l]? = some o) (ho : o.isCells = false) : RecX b B pre x (A.putObj l o') :=
  ⟨h.1.keep fun b cs _ hb => (World.putObj_heap_other (fun e => by subst e; rw [show A.heap[b]? = _ from hb] at hl; cases hl; cases ho)).trans hb, h.2⟩
theorem RecS.put {b : List UInt8} {B : Nat} {xs : List (Value × Rec)} {A : World} {l : Nat} {o o' : Obj} (h : RecS b B xs A) (hl : A.heap[l]? = some o) (ho : o.isCells = false) : RecS b B xs (A.putObj l o') :=
  ⟨h.1, fun x hx => (h.2 x hx).keep fun b cs _ hb => (World.putObj_heap_other (fun e => by subst e; rw [show A.heap[b]? = _ from hb] at hl; cases hl; cases ho)).trans hb⟩

set_option maxRecDepth 100000 in
set_option maxHeartbeats 1000000 in
theorem each1 {Sb : Nat → Prop} (m : Nat) (Bs : Nat) (v : Value) (b : List UInt8) (B : Nat) (w : World) (hl : Sl8 Sb w v b) (hSb : ∀ k, Sb k → k < B) (hn : b.length ≤ 140737488355328) (hB : B ≤ w.heap.size)
    (hbox : Blk w Bs 27 #[v]) :
    Seq Fence.wide m Try.prog 100 #[.pointer (some ⟨Bs, 0, none⟩)] (fun x : Value × Rec => #[recV x]) byteTypes B (RecX b B) (RecS b B) w := by
  intro l J W hW hJb hY h0
  have hl1 : Sl8 Sb W v b := Sl.below hl hW
  have hbox1 : Blk W Bs 27 #[v] := hbox.below hW hbox.lt
  have hsz := hW.size
  obtain ⟨A, c, rfl, hc, hr⟩ := hl1
  refine callsIn_of_wp Try.func100 rfl trivial ?_ rfl
  simp only [Try.ntmps100, List.size_toArray, List.length_cons, List.length_nil, Nat.reduceAdd, Nat.reduceSub, Array.replicate_succ, Array.replicate_zero, List.push_toArray, List.append_toArray, List.nil_append, List.cons_append]
  gi_wp2
  gi_loopw [3] (fun i wr => ∃ (k : Nat) (pre : List (Value × Rec)), i = .int .i64 k ∧ k ≤ b.length ∧ pre.length ≤ k ∧ pre.map (·.2) ++ scanAt b k = recScan b ∧ J pre wr ∧ Below B W wr ∧ Blk wr Bs 27 #[.slice A b.length c] ∧ (∀ x ∈ pre, Pay (From B) wr x.1 x.2.payload))
    (fun i _ => b.length - (intOf i).toNat)
  case atStart => exact ⟨0, [], rfl, Nat.zero_le _, Nat.zero_le _, by simp [recScan], h0, Below.refl _ _, hbox1, by simp⟩
  case round =>
    obtain ⟨k, pre, rfl, hk, hpk, hsc, hJs, hbe, hboxr, hpay⟩ := hrel
    by_cases hlt : k < b.length
    · have hr' : Row Sb wr A (u8s b) := hr.keep fun j _ hj => hbe.block j (hSb j hj)
      have hboxc := hboxr.cellv (j := 0) rfl
      obtain ⟨ba, o, rfl, _, _⟩ := hr' (by rw [u8s_length]; omega)
      have HD := Lib.hid (show Sl8 Sb wr (.slice (some ⟨ba, o + k, none⟩) (b.length - k) (c - k)) (b.drop k) from ⟨_, c - k, by rw [List.length_drop], by rw [List.length_drop]; omega, by
        have := hr'.drop k
        rw [show (u8s b).drop k = u8s (b.drop k) by simp [u8s, List.map_drop]] at this
        rwa [show (some (⟨ba, o, none⟩ : Addr)).map (·.add k) = some ⟨ba, o + k, none⟩ by simp [addr_add]] at this⟩)
      have hsl : ∀ W, (Instr.slice 27 (.slice (some ⟨ba, o, none⟩) b.length c) (some (.int .i64 (k : Int))) none none).run Try.prog W = .ok (.slice (some ⟨ba, o + k, none⟩) (b.length - k) (c - k)) W := fun W => by
        rw [run_slice_l W 27 _ _ _ Try.underlying27 .i64 (k : Int) (by omega) (by omega)]
        have h1 : ¬ c = k := by omega
        simp [sliced, Result.andThen, Program.elem, Try.underlying27, Try.sizeOf5, addr_add, h1]
      have Hr := Lib.hid hr'
      clear hr' hr hl hbox hbox1
      have Hpay := Lib.hid hpay; clear hpay
      have Hbe := Lib.hid hbe; clear hbe
      have Hz := Lib.hid zeroRec
      gi_wp2_with fail
      refine ⟨trivial, fun h => (by cases h), ?_⟩
      refine (callsIn_wide.2 (record_at _ (b.drop k) wr HD.out (by rw [List.length_drop]; omega))).mono ?_
      rintro e w2 ⟨pv, rfl, hpv, hb2⟩
      have hof : recOf b k = { recAt (b.drop k) with place := k } := rfl
      generalize recAt (b.drop k) = r at hof hpv
      obtain ⟨rp, rs, rk, rl⟩ := r
      have HP := Lib.hid hpv
      obtain ⟨A2, c2, rfl, hc2, _⟩ := hpv
      have HB2 := Lib.hid hb2
      have HZ := Lib.hid (Blk.new w2 86 #[.int .i64 0, .int .i64 0, .int .u8 0, .slice none 0 0])
      have hboxc2 : w2.cell? ⟨Bs, 0, none⟩ = _ := hb2.cell (p := ⟨Bs, 0, none⟩) (hboxr.lt) |>.trans hboxc
      clear hb2
      gi_wp2_with (refine storeIn_row rfl 86 _ _ rfl w2.heap.size #[.int .i64 rp, .int .i64 rs, .int .u8 (b8 rk), .slice A2 rl.length c2] rfl rfl 86 _ HZ.out Hz.out rfl (by simp [Value.oneCell']) ?_; refine stop_here ?_)
      have hrow := HZ.out.row #[.int .i64 rp, .int .i64 rs, .int .u8 (b8 rk), .slice A2 rl.length c2]
      have hb3 : Below w2.heap.size w2 _ := below_setRow ((Below.refl _ w2).alloc (Nat.le_refl _) (.cells #[.int .i64 0, .int .i64 0, .int .u8 0, .slice none 0 0] 86)) (Nat.le_refl _) #[.int .i64 rp, .int .i64 rs, .int .u8 (b8 rk), .slice A2 rl.length c2]
      obtain ⟨w3, hw3⟩ : ∃ w3, ((w2.alloc (.cells #[.int .i64 0, .int .i64 0, .int .u8 0, .slice none 0 0] 86)).setRow w2.heap.size #[.int .i64 rp, .int .i64 rs, .int .u8 (b8 rk), .slice A2 rl.length c2]) = w3 := ⟨_, rfl⟩
      rw [hw3] at hrow hb3 ⊢
      clear hw3
      have hr0 := hrow.cellv (j := 0) rfl
      have hf0 := hrow.frozen 0
      have hrow4 := hrow.set 0 (.int .i64 k)
      have hr2 := hrow4.cellv (j := 2) rfl
      have hr1 := hrow.cellv (j := 1) rfl
      have hr2' := hrow.cellv (j := 2) rfl
      have hr3 := hrow.cellv (j := 3) rfl
      simp only [List.getElem_toArray, List.getElem_cons_zero, List.getElem_cons_succ, List.setIfInBounds_toArray, List.set_cons_zero] at hr0 hr1 hr2 hr2' hr3
      have hboxb : Blk (w3.setCell ⟨w2.heap.size, 0, none⟩ (.int .i64 k)) Bs 27 #[.slice (some ⟨ba, o, none⟩) b.length c] := ((hboxr.below HB2.out hboxr.lt).below hb3 (by have := HB2.out.size; have := hboxr.lt; omega)).far (by have := HB2.out.size; have := hboxr.lt; show Bs ≠ w2.heap.size; omega) (p := ⟨w2.heap.size, 0, none⟩) _
      have hboxc3 := hboxb.cellv (j := 0) rfl
      have Hboxb := Lib.hid hboxb; clear hboxb
      have HB3 := Lib.hid (show Below wr.heap.size wr (w3.setCell ⟨w2.heap.size, 0, none⟩ (.int .i64 k)) from (below_next HB2.out hb3).setCell (p := ⟨w2.heap.size, 0, none⟩) HB2.out.size _)
      have HP3 := Lib.hid ((HP.out.below hb3).keep (w' := w3.setCell ⟨w2.heap.size, 0, none⟩ (.int .i64 k)) fun j cs _ hj => hj.far (fun e => by have e' : j = w2.heap.size := e; subst e'; have := hj.symm.trans hrow; simp at this) _)
      have Hrow4 := Lib.hid hrow4
      clear hrow4 hb3
      by_cases hk0 : b8 rk = 0
      · have hkind : (recOf b k).kind = 0 := by rw [hof]; exact b8_inj hk0
        have Hfin := Lib.hid (show RecS b B pre (w3.setCell ⟨w2.heap.size, 0, none⟩ (.int .i64 k)) from ⟨by rw [← hsc, scanAt_blank hkind, List.append_nil], fun x hx => (Hpay.out x hx).below HB3.out⟩)
        have HJ := Lib.hid (hJb _ _ _ hJs HB3.out)
        refine go_on ?_
        gi_wp2_with fail
        refine ⟨fun _ h => (by cases h), ?_⟩
        gi_wp2_with fail
        refine bodyPost_ret (results_none rfl _ _ _) rfl ?_
        exact ⟨⟨_, rfl⟩, pre, Hfin.out, HJ.out⟩
      · have hkind : (recOf b k).kind ≠ 0 := by rw [hof]; exact fun e => hk0 (by rw [show rk = 0 from e]; rfl)
        have hsize := recOf_size b k
        rw [hof] at hsize
        have hs1 := hsize.1 hlt
        have hs2 := hsize.2
        simp only at hs1 hs2
        have hsc2 : (pre ++ [((Value.slice A2 rl.length c2, (⟨k, rs, rk, rl⟩ : Rec)) : Value × Rec)]).map (·.2) ++ scanAt b (k + rs) = recScan b := by
          rw [← hsc, scanAt_more hlt hkind, hof]; simp
        have hB5 : B ≤ wr.heap.size := by have := Hbe.out.size; omega
        have hX : RecX b B pre (.slice A2 rl.length c2, ⟨k, rs, rk, rl⟩) (w3.setCell ⟨w2.heap.size, 0, none⟩ (.int .i64 k)) := by
          refine ⟨HP3.out.mono fun j hj => Nat.le_trans hB5 hj, by omega, ?_, k, hlt, hof.symm, ?_⟩
          · show k + rs ≤ b.length; omega
          · rw [← hsc2]; simp
        obtain ⟨fn, tmps, assign, body, hy, hR⟩ := hY pre _ wr _ hX hJs HB3.out
        simp only [recV] at hy
        refine go_on ?_
        gi_wp2_with fail
        refine ⟨fun h => (by cases h), hR.mono ?_⟩
        rintro e w5 ⟨rfl, hJ5, hk5, hm5⟩
        have hrow5 : Blk w5 w2.heap.size 86 _ := (hm5 w2.heap.size HB2.out.size Hrow4.out.lt).trans Hrow4.out
        have hsz5 := hrow5.cellv (j := 1) rfl
        simp only [List.getElem_toArray, List.getElem_cons_zero, List.getElem_cons_succ, List.setIfInBounds_toArray, List.set_cons_zero] at hsz5
        have Hpay5 := Lib.hid (show ∀ x ∈ pre ++ [((Value.slice A2 rl.length c2, (⟨k, rs, rk, rl⟩ : Rec)) : Value × Rec)], Pay (From B) w5 x.1 x.2.payload from fun x hx => by
          rcases List.mem_append.1 hx with h | h
          · exact ((Hpay.out x h).below HB3.out).keep fun j cs _ hj => hk5.blk _ j cs (.inl rfl) hj
          · obtain rfl : x = _ := by simpa using h
            exact (HP3.out.mono fun j hj => Nat.le_trans hB5 hj).keep fun j cs _ hj => hk5.blk _ j cs (.inl rfl) hj)
        have Hbox5 := Lib.hid (hk5.blk _ _ _ (.inr rfl) Hboxb.out)
        have HB5 := Lib.hid (show Below B W w5 from (Hbe.out.trans (HB3.out.mono hB5)).trans hk5.below)
        have Hsc2 := Lib.hid hsc2
        have HJ5 := Lib.hid hJ5
        clear hsc2 hJ5 hk5 hm5 hR hy hX hJs hsc hrow5 hboxc3 hr0 hr1 hr2 hr2' hr3 hf0 hrow
        gi_wp2_with fail
        go_roundw
        case rel =>
          refine ⟨k + rs, _, ?_, by omega, ?_, Hsc2.out, HJ5.out, HB5.out, Hbox5.out, Hpay5.out⟩
          · go_simp
          · simp; omega
        case measure => simp [intOf]; omega
    · obtain rfl : k = b.length := by omega
      have hboxc := hboxr.cellv (j := 0) rfl
      gi_wp2
      go_end0
      refine ⟨⟨_, rfl⟩, pre, ⟨?_, hpay⟩, hJs⟩
      rw [← hsc, scanAt_end (Nat.le_refl _), List.append_nil]
end Go.Proofs.Ytmejngojpffcgaa

import Derived.Deep.RegionLaw
import Derived.ArgAppend
import Derived.Test.YtmejngojpffcgaaChk
namespace Go.Ls
open Go.RowKit
def withP (l : List Wd) (x : Wd) : Bool := decide (l.length < 2048) && checkZ (l ++ [x]) == -1
/-- Words, and the blocks in which all of them may lie: those of a row that was, and new ones. -/
def Or (S : Nat → Prop) (B : Nat) : Nat → Prop := fun b => S b ∨ B ≤ b
section
variable {P : Program}
/-- An append whose run is known, as one step of a region that draws. -/
theorem step_append_eq {ops : Array Oper} {o : Oper} {a : Act} {w : World} {K : Act → World → Prop} {Q : Exit → Act → World → Prop} {E : Prop}
    (hg : o.guard = none) (s x : Operand) (t t' : TypeId) (hop : o.op = Op.call { callee := Callee.builtin Builtin.append, args := #[s, x], argTypes := #[t, t'] }) (v u : Value) (hs : a.eval s = v) (hx : a.eval x = u)
    {v' : Value} {w' : World} (hr : (Builtin.append_ #[t, t'] o.type #[v, u]).run P w = .ok v' w') (hK : K (a.put o.dst v') w') :
    if Region.wanted o (yielded ops a.tmps) = true then Oper.wp P o a w K Q else E := by
  have hw : Region.wanted o (yielded ops a.tmps) = true := by simp [Region.wanted, hg]
  rw [if_pos hw]
  unfold Oper.wp execOp
  simp only [hop, resolve, invoke, builtin, Sem.run_bind, Sem.run_pure, Result.andThen_ok, List.map_toArray, List.map_cons, List.map_nil, hs, hx, hr]
  exact hK
/-- Append to a row that is full: a new row. -/
theorem run_append_full (w : World) (t ty e : TypeId) (i : TypeInfo) (z : Value) (size bytes : Nat) (h1 : P.underlying t = some (.slice e)) (h2 : P.info? e = some i) (h3 : i.zero = some z) (h4 : i.size = size) (h5 : i.bytes = bytes) (h6 : z.cells.size = size) (h7 : 0 < size)
    (ao : Option Addr) (n cap : Nat) (olds : List Value) (hnone : ao = none → n = 0 ∧ cap = 0) (hlo : olds.length = n * size) (holds : ∀ b, ao = some b → ∀ j u, olds[j]? = some u → w.cell? (b.add j) = some u)
    (ad : Addr) (m c : Nat) (news : List Value) (hn : news.length = m * size) (hc : ∀ j u, news[j]? = some u → w.cell? (ad.add j) = some u) (h1c : ∀ u ∈ news, u.oneCell' = true)
    (hfull : cap < n + m) (b1 : n + m ≤ maxLen) (b2 : (n + m) * bytes ≤ 140737488355328) :
    ∃ v' w', (Builtin.append_ #[t, t] ty #[.slice ao n cap, .slice (some ad) m c]).run P w = .ok v' w' ∧ w'.ownsRow w.heap.size e size v' (n + m) (olds ++ news) ∧ w.grownBy w' none := by
  cases ao with
  | some b => exact run_append_arg_grows (P := P) w t ty e i z size bytes h1 h2 h3 h4 h5 h6 h7 b n cap olds hlo (holds b rfl) ad m c news hn hc hfull b1 b2
  | none =>
    obtain ⟨rfl, rfl⟩ := hnone rfl
    obtain rfl : olds = [] := List.eq_nil_of_length_eq_zero (by simpa using hlo)
    obtain ⟨v', w', hrun, r1, r2, _⟩ := run_append_own (P := P) w w.heap.size t ty e i z size bytes h1 h2 h3 h4 h5 h6 h7 (.slice none 0 0) 0 [] (World.ownsRow_nil w _ e size) ad m c news hn hc h1c b1 b2 (Nat.le_refl _)
    exact ⟨v', w', hrun, r1, r2⟩
end
end Go.Ls
namespace Go.Proofs.Ytmejngojpffcgaa
open Go.RowKit Go.Ls
theorem infoWord : (Try.prog.info? 25).map (fun i => (i.zero, i.size, i.bytes)) = some (some (.agg #[.string ⟨#[]⟩, .int .u8 0, .slice none 0 0]), 3, 48) := by kernel_rfl
theorem own_row {w : World} {base : Nat} {e : TypeId} {size n : Nat} {v : Value} {xs : List Value} (h : w.ownsRow base e size v n xs) : ∃ A c, v = .slice A n c ∧ n ≤ c ∧ Row (fun b => base ≤ b) w A xs := by
  rcases h.2 with ⟨rfl, rfl⟩ | ⟨g, cap, cur, rfl, hb, hg, hc, hm, hs, ht⟩
  · have : xs = [] := List.eq_nil_of_length_eq_zero (by simpa using h.1)
    subst this
    exact ⟨_, _, rfl, Nat.le_refl _, Row.none_ _ _ _⟩
  · exact ⟨_, _, rfl, hc, Row.blk (S := fun b => base ≤ b) hg hb ht.symm⟩
set_option maxRecDepth 100000 in
set_option maxHeartbeats 2000000 in
theorem dict_with {S : Nat → Prop} (v xv : Value) (l : List Wd) (x : Wd) (w : World) (hl : WordsAt S w v l) (hx : WdAt S w xv x) (hn : l.length ≤ 100000) (hc : ∀ y ∈ l ++ [x], y.code.length ≤ 1099511627776) :
    Calls Try.prog 43 #[v, xv] w fun e w' => (∃ v', e = .returned (.tuple #[v', .bool (withP l x)]) ∧ WordsAt (Or S w.heap.size) w' v' (l ++ [x])) ∧ Below w.heap.size w w' := by
  obtain ⟨i0, hi, hz0, hz1, hz2⟩ := info_parts infoWord
  obtain ⟨ps, hps, ⟨A, c, rfl, hcc, hr⟩, hcodes⟩ := hl
  obtain ⟨cv, rfl, hxc⟩ := hx
  have hpl : ps.length = l.length := by rw [← hps]; simp
  have hcode : ∃ Ac cc, cv = .slice Ac x.code.length cc := by obtain ⟨Ac, cc, e, _⟩ := hxc; exact ⟨Ac, cc, e⟩
  have Hps := Lib.hid hps; clear hps
  have Hcodes := Lib.hid hcodes; clear hcodes
  have Hxc := Lib.hid hxc; clear hxc
  have Hr := Lib.hid hr; clear hr
  have Hc := Lib.hid hc; clear hc
  obtain ⟨n, hnl⟩ : ∃ n, n = l.length := ⟨_, rfl⟩
  rw [← hnl] at hpl hcc hn ⊢
  have hres : withP l x = (decide ((n : Int) < 2048) && checkZ (l ++ [x]) == -1) := by
    unfold withP; rw [← hnl]; congr 1; exact decide_eq_decide.2 (by omega)
  rw [hres]
  have hA : 0 < n → ∃ b o, A = some ⟨b, o, none⟩ := fun h => by
    obtain ⟨b, o, e, _⟩ := Hr.out (by rw [wcells_length]; omega)
    exact ⟨b, o, e⟩
  have hslh : ∀ W, (Instr.slice 29 (.slice A n c) none (some (.int .i64 n)) (some (.int .i64 n))).run Try.prog W = .ok (.slice A n n) W := fun W => by
    rw [run_slice_hm W 29 A n c Try.underlying29 .i64 .i64 n n (by omega) (by omega) (by omega)]
    by_cases h0 : n = 0
    · subst h0; simp [sliced, Result.andThen, Program.elem, Try.underlying29, Try.sizeOf25]
    · obtain ⟨b, o, rfl⟩ := hA (by omega)
      have h1 : ¬ n = 0 := h0
      simp [sliced, Result.andThen, Program.elem, Try.underlying29, Try.sizeOf25, h1, addr_add]
  obtain ⟨Ac, cc, rfl⟩ := hcode
  obtain ⟨name, flags, code⟩ := x
  simp only [wdV] at *
  have hB := Blk.new w 25 #[str name, .int .u8 (b8 flags), .slice Ac code.length cc]
  have hone : ∀ (ps : List Value), ps = [str name, .int .u8 (b8 flags), .slice Ac code.length cc] → ∀ u ∈ ps, u.oneCell' = true := fun ps e u hu => by
    subst e
    simp only [List.mem_cons, List.not_mem_nil, or_false] at hu
    rcases hu with rfl | rfl | rfl <;> simp [str, Value.oneCell']
  have Hcell : ∀ p : Wd × Value, p = (⟨name, flags, code⟩, .slice Ac code.length cc) → wcells p = [str name, .int .u8 (b8 flags), .slice Ac code.length cc] := fun p e => by subst e; rfl
  have Hcell := Lib.hid Hcell
  generalize hsv : str name = sv at *
  have Hone := Lib.hid (hone _ rfl); clear hone
  have hbe0 : Below w.heap.size w (w.alloc (.cells #[sv, .int .u8 (b8 flags), .slice Ac code.length cc] 25)) := (Below.refl _ w).alloc (Nat.le_refl _) _
  have Hbe0 := Lib.hid hbe0
  have Hnl := Lib.hid hnl; clear hnl
  have Hrow1 := Lib.hid (Hr.out.below hbe0)
  have Hcod1 := Lib.hid (fun p hp => Sl.below (Hcodes.out p hp) hbe0)
  have Hxc1 := Lib.hid (Sl.below Hxc.out hbe0)
  clear hbe0 hres
  go_enter Try.func43, Try.ntmps43
  go_wp2_with fail
  generalize hw1 : (w.alloc (.cells #[sv, .int .u8 (b8 flags), .slice Ac code.length cc] 25)) = w1 at *
  have hw1s : w1.heap.size = w.heap.size + 1 := by rw [← hw1]; simp
  clear hw1
  have hB2 : Blk w1.drew w.heap.size 25 #[sv, .int .u8 (b8 flags), .slice Ac code.length cc] := hB
  have g0 := hB2.cellv (j := 0) rfl
  have g1 := hB2.cellv (j := 1) rfl
  have g2 := hB2.cellv (j := 2) rfl
  simp only [List.getElem_toArray, List.getElem_cons_zero, List.getElem_cons_succ] at g0 g1 g2
  have Hrow2 := Lib.hid (show Row S w1.drew A _ from Hrow1.out.keep fun _ _ _ => rfl)
  have Hcod2 := Lib.hid (fun p hp => (show Sl32 S w1.drew _ _ from Sl.keep (Hcod1.out p hp) fun _ _ _ => rfl))
  have Hxc2 := Lib.hid (show Sl32 S w1.drew _ _ from Sl.keep Hxc1.out fun _ _ _ => rfl)
  have Hbe2 := Lib.hid (show Below w.heap.size w w1.drew from ⟨Hbe0.out.os, Hbe0.out.tape, Hbe0.out.output, Hbe0.out.size, Hbe0.out.block⟩)
  have hs2 : w1.drew.heap.size = w.heap.size + 1 := hw1s
  obtain ⟨w2, hw2⟩ : ∃ w2, w2 = w1.drew := ⟨_, rfl⟩
  rw [← hw2] at Hrow2 Hcod2 Hxc2 Hbe2 hs2
  have hnone : A = none → n = 0 ∧ n = 0 := fun e => by
    by_cases h0 : n = 0
    · exact ⟨h0, h0⟩
    · obtain ⟨b, o, h⟩ := hA (by omega)
      rw [e] at h; cases h
  have hlo : (ps.flatMap wcells).length = n * 3 := by rw [wcells_length, hpl]
  have holds : ∀ W, Below w2.heap.size w2 W → ∀ b, A = some b → ∀ j u, (ps.flatMap wcells)[j]? = some u → W.cell? (b.add j) = some u := fun W hW b hb j u hu => by
    obtain ⟨b', o', e, _, h⟩ := (Hrow2.out.below hW).at_ hu
    rw [e] at hb
    cases hb
    rw [addr_add]
    exact h
  have hnews : ∀ W : World, ∀ j u, ([sv, .int .u8 (b8 flags), .slice Ac code.length cc] : List Value)[j]? = some u → (W.alloc (.cells #[sv, .int .u8 (b8 flags), .slice Ac code.length cc] 25)).cell? ((⟨W.heap.size, 0, none⟩ : Addr).add j) = some u := fun W j u hu => by
    rw [addr_add, Nat.zero_add]
    exact (Blk.new W 25 #[sv, .int .u8 (b8 flags), .slice Ac code.length cc]).cellv (by simpa using hu)
  obtain ⟨v', w3, hrun, hown, hgrow⟩ := run_append_full (P := Try.prog) (w2.alloc (.cells #[sv, .int .u8 (b8 flags), .slice Ac code.length cc] 25)) 29 29 25 i0 _ 3 48 Try.underlying29 hi hz0 hz1 hz2 rfl (by decide) A n n (ps.flatMap wcells) hnone hlo (holds _ ((Below.refl _ _).alloc (Nat.le_refl _) _))
    ⟨w2.heap.size, 0, none⟩ 1 1 [sv, .int .u8 (b8 flags), .slice Ac code.length cc] rfl (hnews _) Hone.out (by omega) (by simp only [maxLen]; omega) (by omega)
  rw [hw2] at hrun
  have Hrun := Lib.hid hrun
  clear hrun hnone hlo holds hnews hA
  have Hs2 := Lib.hid hs2; clear hs2
  have HB3 := Lib.hid (show Below w.heap.size w w3 from below_grown (Hbe2.out.alloc (by have := Hs2.out; omega) _) hgrow (by have := Hs2.out; simp; omega) (fun z hz => by cases hz))
  have HB23 : Below w2.heap.size w2 w3 := below_grown ((Below.refl _ w2).alloc (Nat.le_refl _) _) hgrow (by simp) (fun z hz => by cases hz)
  clear hB
  have HW := Lib.hid (show WordsAt (Or S w.heap.size) w3 v' (l ++ [⟨name, flags, code⟩]) from by
    obtain ⟨A3, c3, rfl, hc3, hr3⟩ := own_row hown
    refine ⟨ps ++ [(⟨name, flags, code⟩, .slice Ac code.length cc)], by rw [List.map_append, Hps.out]; rfl, ⟨A3, c3, by rw [List.length_append, ← Hnl.out]; rfl, by rw [List.length_append, ← Hnl.out]; exact hc3, ?_⟩, fun p hp => ?_⟩
    · rw [List.flatMap_append, List.flatMap_singleton, Hcell.out _ rfl]
      refine hr3.mono fun b hb => .inr ?_
      have := Hs2.out
      simp at hb
      omega
    · rcases List.mem_append.1 hp with h | h
      · exact Sl.mono (Sl.below (Hcod2.out p h) HB23) fun b hb => .inl hb
      · obtain rfl : p = _ := by simpa using h
        exact Sl.mono (Sl.below Hxc2.out HB23) fun b hb => .inl hb)
  have hform : ∃ A4 c4, v' = .slice A4 (n + 1) c4 := by obtain ⟨A3, c3, e, _⟩ := own_form hown; exact ⟨A3, c3, e⟩
  obtain ⟨A4, c4, rfl⟩ := hform
  have CK := prim_check _ _ w3 HW.out (by rw [List.length_append, ← Hnl.out]; simp; omega) Hc.out
  obtain ⟨z, hz⟩ : ∃ z, z = checkZ (l ++ [⟨name, flags, code⟩]) := ⟨_, rfl⟩
  rw [← hz] at CK
  have Hz := Lib.hid hz; clear hz HB23 hown hgrow
  have Hw2 := Lib.hid hw2; clear hw2
  have Hcell2 := Hcell
  clear Hcell
  by_cases c1 : (n : Int) < 2048
  · have hres : (decide ((n : Int) < 2048) && checkZ (l ++ [⟨name, flags, code⟩]) == -1) = (z == -1) := by rw [← Hz.out]; simp [c1]
    have Hres := Lib.hid hres; clear hres
    go_region_law (refine step_append_eq rfl (.tmp 12) (.tmp 14) 29 29 rfl _ _ (by simp [Act.eval]) (by simp [Act.eval]) Hrun.out ?_)
    go_wp2_with fail
    refine CK.mono ?_
    rintro e w4 ⟨rfl, hb4⟩
    have HB4 := Lib.hid (below_then HB3.out HB3.out.size hb4)
    have HW4 := Lib.hid (HW.out.below hb4); clear hb4
    go_wp2_with fail
    go_ret2
    rw [Hres.out]
    exact ⟨⟨_, rfl, HW4.out⟩, HB4.out⟩
  · have hres : (decide ((n : Int) < 2048) && checkZ (l ++ [⟨name, flags, code⟩]) == -1) = false := by simp [c1]
    have Hres := Lib.hid hres; clear hres
    go_region_law (refine step_append_eq rfl (.tmp 12) (.tmp 14) 29 29 rfl _ _ (by simp [Act.eval]) (by simp [Act.eval]) Hrun.out ?_)
    go_wp2_with fail
    go_ret2
    rw [Hres.out]
    exact ⟨⟨_, rfl, HW.out⟩, HB3.out⟩
end Go.Proofs.Ytmejngojpffcgaa

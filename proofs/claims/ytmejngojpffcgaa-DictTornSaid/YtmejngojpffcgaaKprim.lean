/- Contracts of prim.spot, Get, jumps, long and starts. No condition beyond those each theorem names. -/
import Derived.Test.YtmejngojpffcgaaKtab
import Derived.Test.YtmejngojpffcgaaKbase
import Derived.Carry
import Derived.RangeFuncRecord
section
namespace Go.Ls
def spotN (n : UInt32) : Option Nat := if 1 ≤ n ∧ n ≤ 73 then some (n.toNat - 1) else if 101 ≤ n ∧ n < 141 then some (n.toNat - 28) else none
def spotZ (n : UInt32) : Int := match spotN n with
  | some i => i
  | none => -1
theorem find_of_idx {α : Type} (p : α → Bool) : ∀ l : List α, l.find? p = (l.findIdx? p).bind (l[·]?)
  | [] => rfl
  | a :: l => by
    rw [List.find?_cons, List.findIdx?_cons]
    cases p a with
    | true => rfl
    | false =>
      rw [find_of_idx p l]
      simp only [Bool.false_eq_true, if_false]
      cases l.findIdx? p <;> rfl
theorem spots : (List.range 256).all (fun k => prims.findIdx? (fun p => p.number == UInt32.ofNat k) == spotN (UInt32.ofNat k)) = true := by kernel_rfl
theorem spot_idx (n : UInt32) : prims.findIdx? (fun p => p.number == n) = spotN n := by
  by_cases h : n < 256
  · have hn : n.toNat < 256 := by simpa [UInt32.lt_iff_toNat_lt] using h
    have := List.all_eq_true.1 spots n.toNat (List.mem_range.2 hn)
    rw [UInt32.ofNat_toNat] at this
    simpa using this
  · have hn : 256 ≤ n.toNat := by
      have h' : ¬ n.toNat < 256 := by simpa [UInt32.lt_iff_toNat_lt] using h
      omega
    have h1 : prims.findIdx? (fun p => p.number == n) = none := by
      rw [List.findIdx?_eq_none_iff]
      intro p hp
      have := List.all_eq_true.1 prims_sound p hp
      simp only [Bool.and_eq_true, decide_eq_true_eq] at this
      have h2 := this.2
      rw [beq_eq_false_iff_ne]
      rintro rfl
      exact h h2
    rw [h1]
    unfold spotN
    rw [if_neg, if_neg]
    · rintro ⟨_, h3⟩
      have : n.toNat < 141 := by simpa [UInt32.lt_iff_toNat_lt] using h3
      omega
    · rintro ⟨_, h3⟩
      have : n.toNat ≤ 73 := by simpa [UInt32.le_iff_toNat_le] using h3
      omega
theorem primAt_spot (n : UInt32) : primAt n = (spotN n).bind (prims[·]?) := by
  unfold primAt
  rw [find_of_idx, spot_idx]
theorem spotN_lt {n : UInt32} {i : Nat} (h : spotN n = some i) : i < 113 := by
  unfold spotN at h
  split at h
  · rename_i h1
    have : n.toNat ≤ 73 := by simpa [UInt32.le_iff_toNat_le] using h1.2
    cases h; omega
  · split at h
    · rename_i _ h1
      have : n.toNat < 141 := by simpa [UInt32.lt_iff_toNat_lt] using h1.2
      cases h; omega
    · cases h
theorem prims_length : prims.length = 113 := by kernel_rfl
theorem extract_flat {α : Type} (f : α → List Value) (k : Nat) : ∀ (l : List α) (i : Nat) (x : α), (∀ y ∈ l, (f y).length = k) → l[i]? = some x → ((l.flatMap f).drop (i * k)).take k = f x
  | [], i, x, _, h => by simp at h
  | y :: l, 0, x, hf, h => by
    obtain rfl : y = x := by simpa using h
    rw [Nat.zero_mul, List.drop_zero, List.flatMap_cons, ← hf y (by simp), List.take_left]
  | y :: l, i + 1, x, hf, h => by
    rw [List.flatMap_cons, show (i + 1) * k = (f y).length + i * k by rw [hf y (by simp), Nat.add_mul]; omega, List.drop_append, List.drop_of_length_le (by omega), List.nil_append, show (f y).length + i * k - (f y).length = i * k by omega]
    exact extract_flat f k l i x (fun z hz => hf z (by simp [hz])) (by simpa using h)
def primV (o : Option Prm) : Value := match o with
  | some p => .agg p.cells.toArray
  | none => .agg #[.int .u32 0, .string ⟨#[]⟩, .int .i64 0, .int .i64 0, .int .i64 0, .bool false, .bool false]
end Go.Ls
namespace Go.Proofs.Ytmejngojpffcgaa
open Go.RowKit Go.Ls
set_option maxRecDepth 100000 in
theorem prim_spot (n : UInt32) (w : World) : Calls Try.prog 110 #[.int .u32 (w32 n)] w fun e w' => e = .returned (.int .i64 (spotZ n)) ∧ Below w.heap.size w w' := by
  have hr := w32_range n
  by_cases c1 : 1 ≤ w32 n ∧ w32 n ≤ 73
  · have hz : spotZ n = w32 n - 1 := by
      unfold spotZ spotN
      rw [if_pos ⟨by rw [UInt32.le_iff_toNat_le]; unfold w32 at c1; simp; omega, by rw [UInt32.le_iff_toNat_le]; unfold w32 at c1; simp; omega⟩]
      unfold w32 at *
      simp only
      omega
    rw [hz]
    obtain ⟨c1, c2⟩ := c1
    go_enter Try.func110, Try.ntmps110
    go_wp2_with fail
    go_ret
    exact ⟨rfl, Below.refl _ _⟩
  · have c1' : ¬ (1 ≤ n ∧ n ≤ 73) := fun h => c1 ⟨by have := UInt32.le_iff_toNat_le.1 h.1; unfold w32; simp at this; omega, by have := UInt32.le_iff_toNat_le.1 h.2; unfold w32; simp at this; omega⟩
    by_cases c2 : 101 ≤ w32 n
    · have T := prim_table w
      by_cases c3 : w32 n < 141
      · have hz : spotZ n = w32 n - 101 + 73 := by
          unfold spotZ spotN
          rw [if_neg c1', if_pos ⟨by rw [UInt32.le_iff_toNat_le]; unfold w32 at c2; simp; omega, by rw [UInt32.lt_iff_toNat_lt]; unfold w32 at c3; simp; omega⟩]
          unfold w32 at *
          simp only
          omega
        rw [hz]
        have c4 : ¬ w32 n ≤ 73 := by omega
        have c5 : 1 ≤ w32 n := by omega
        clear c1 c1' hz
        go_enter Try.func110, Try.ntmps110
        go_wp2_with fail
        refine T.mono ?_
        rintro e w2 ⟨rfl, hb⟩
        go_wp2_with fail
        go_ret
        exact ⟨rfl, hb⟩
      · have hz : spotZ n = -1 := by
          unfold spotZ spotN
          rw [if_neg c1', if_neg]
          intro h
          have := UInt32.lt_iff_toNat_lt.1 h.2
          unfold w32 at c3
          simp at this
          omega
        rw [hz]
        have c4 : ¬ w32 n ≤ 73 := by omega
        have c5 : 1 ≤ w32 n := by omega
        clear c1 c1' hz
        go_enter Try.func110, Try.ntmps110
        go_wp2_with fail
        refine T.mono ?_
        rintro e w2 ⟨rfl, hb⟩
        go_wp2_with fail
        go_ret
        exact ⟨rfl, hb⟩
    · have hz : spotZ n = -1 := by
        unfold spotZ spotN
        rw [if_neg c1', if_neg]
        intro h
        have := UInt32.le_iff_toNat_le.1 h.1
        unfold w32 at c2
        simp at this
        omega
      rw [hz]
      have hc : (1 ≤ w32 n ∧ ¬ w32 n ≤ 73) ∨ ¬ 1 ≤ w32 n := by omega
      clear c1 c1' hz
      rcases hc with ⟨c4, c5⟩ | c4
      · go_enter Try.func110, Try.ntmps110
        go_wp2_with fail
        go_ret
        exact ⟨rfl, Below.refl _ _⟩
      · go_enter Try.func110, Try.ntmps110
        go_wp2_with fail
        go_ret
        exact ⟨rfl, Below.refl _ _⟩
theorem prim_index (i : Nat) (p : Prm) (hi : i < 113) (hp : prims[i]? = some p) (W : World) : (Instr.index 174 (.agg primCells) (.int .i64 i)).run Try.prog W = .ok (primV (some p)) W := by
  have hu : Try.prog.underlying 174 = some (.array 113 173) := by kernel_rfl
  have hu2 : (Try.prog.underlying 173).map (fun d => match d with | .struct _ | .array _ _ => true | _ => false) = some true := by kernel_rfl
  have hs : (Try.prog.info? 173).map (·.size) = some 7 := by kernel_rfl
  obtain ⟨d, hd, hda⟩ := Option.map_eq_some_iff.1 hu2
  obtain ⟨i0, hi0, hs0⟩ := Option.map_eq_some_iff.1 hs
  have he : (primCells.extract (i * 7) (i * 7 + 7)) = p.cells.toArray := by
    have := extract_flat Prm.cells 7 prims i p (fun y _ => rfl) hp
    rw [← this]
    apply Array.toList_inj.1
    simp [primCells, List.extract_eq_take_drop]
  simp [Instr.index, asIntOf, run_underlying hu, hi, part, isAgg, run_underlying hd, sizeOf, typeInfo, hi0, hs0, he, primV]
  cases d <;> simp_all [Result.andThen]
end Go.Proofs.Ytmejngojpffcgaa
end

section
namespace Go.Ls
open Go.RowKit
variable {P : Program}
theorem results_row_tmp {fn : Func} {p q : Tmp} {ty : TypeId} (h : fn.results = #[.cell p ty, .tmp q]) (tmps : Array Value) (w : World) (g : Nat) (t : TypeId) (cs : Array Value) (fr : Nat × Nat) (d : TypeDesc) (v : Value)
    (hp : tmps.getD p undef = .pointer (some ⟨g, 0, none⟩)) (hq : tmps.getD q undef = v) (hg : w.heap[g]? = some (.cells cs t fr))
    (hu : P.underlying ty = some d) (hd : (match d with | .struct _ | .array _ _ => true | _ => false) = true) (hi : (P.info? ty).map (·.size) = some cs.size) :
    (results fn tmps).run P w = .ok (.tuple #[.agg cs, v]) w := by
  have hp' : tmps[p]?.getD undef = .pointer (some ⟨g, 0, none⟩) := by simpa using hp
  have hq' : tmps[q]?.getD undef = v := by simpa using hq
  simp [results, h, hp', hq', asAddr, run_loadVar_row w g t ty cs fr d hg hu hd hi]
def primCs (o : Option Prm) : Array Value := match o with
  | some p => p.cells.toArray
  | none => #[.int .u32 0, .string ⟨#[]⟩, .int .i64 0, .int .i64 0, .int .i64 0, .bool false, .bool false]
theorem primV_cs (o : Option Prm) : primV o = .agg (primCs o) := by cases o <;> rfl
theorem primCs_size (o : Option Prm) : (primCs o).size = 7 := by cases o <;> rfl
theorem primCs_one (o : Option Prm) : (primCs o).all (·.oneCell') = true := by cases o <;> simp [primCs, Prm.cells, Value.oneCell', str]
end Go.Ls
namespace Go.Proofs.Ytmejngojpffcgaa
open Go.RowKit Go.Ls
theorem zeroPrim : (Try.prog.info? 146).map (·.size) = some 7 := by kernel_rfl
set_option maxRecDepth 100000 in
theorem prim_get (n : UInt32) (w : World) : Calls Try.prog 92 #[.int .u32 (w32 n)] w fun e w' => e = .returned (.tuple #[primV (primAt n), .bool (primAt n).isSome]) ∧ Below w.heap.size w w' := by
  have Hs := Lib.hid zeroPrim
  have HZ := Lib.hid (Blk.new w 146 (primCs none))
  have hb0 : Below w.heap.size w (w.alloc (.cells (primCs none) 146)) := (Below.refl _ w).alloc (Nat.le_refl _) _
  have HB0 := Lib.hid hb0; clear hb0
  have Hnone := Lib.hid (primCs_one none)
  have hsp := primAt_spot n
  have S := prim_spot n (w.alloc (.cells (primCs none) 146))
  unfold spotZ at S
  cases hn : spotN n with
  | none =>
    rw [hn] at S hsp
    have hpa : primAt n = none := hsp
    clear hsp hn
    simp only at S
    rw [hpa]
    go_enter Try.func92, Try.ntmps92
    go_wp2_with fail
    refine S.mono ?_
    rintro e w2 ⟨rfl, hb⟩
    have HZ2 := Lib.hid (HZ.out.below hb HZ.out.lt)
    have HB2 := Lib.hid (below_next HB0.out hb); clear hb
    go_wp2_with (refine wpList_store_row rfl 146 _ _ rfl w.heap.size (primCs none) rfl rfl 146 _ HZ2.out Hs.out rfl Hnone.out ?_)
    refine bodyPost_ret (results_row_tmp rfl _ _ w.heap.size 146 (primCs none) (0, 0) _ (.bool false) rfl rfl (HZ2.out.row _) Try.underlying146 rfl Hs.out) rfl ?_
    exact ⟨rfl, below_setRow HB2.out (Nat.le_refl _) _⟩
  | some i =>
    rw [hn] at S hsp
    have hi := spotN_lt hn
    have hp : prims[i]? = some (prims[i]'(by rw [prims_length]; exact hi)) := List.getElem?_eq_getElem _
    generalize prims[i]'(by rw [prims_length]; exact hi) = p at hp
    have hpa : primAt n = some p := by rw [hsp]; exact hp
    have Hx := Lib.hid (prim_index i p hi hp)
    clear hsp hn hp
    simp only at S
    rw [hpa]
    have Hone := Lib.hid (primCs_one (some p))
    have hx := Hx.out
    generalize hpr : primCells = pc at *
    go_enter Try.func92, Try.ntmps92
    go_wp2_with fail
    refine S.mono ?_
    rintro e w2 ⟨rfl, hb⟩
    have HZ2 := Lib.hid (HZ.out.below hb HZ.out.lt)
    have HB2 := Lib.hid (below_next HB0.out hb); clear hb
    have T := prim_table w2
    rw [hpr] at T
    go_wp2_with fail
    refine T.mono ?_
    rintro e w3 ⟨rfl, hb⟩
    have HZ3 := Lib.hid (HZ2.out.below hb HZ2.out.lt)
    have HB3 := Lib.hid (below_next HB2.out hb); clear hb
    go_wp2_with (refine wpList_store_row rfl 146 _ _ rfl w.heap.size (primCs (some p)) rfl rfl 146 _ HZ3.out Hs.out rfl Hone.out ?_)
    refine bodyPost_ret (results_row_tmp rfl _ _ w.heap.size 146 (primCs (some p)) (0, 0) _ (.bool true) rfl rfl (HZ3.out.row _) Try.underlying146 rfl Hs.out) rfl ?_
    exact ⟨rfl, below_setRow HB3.out (Nat.le_refl _) _⟩
set_option maxRecDepth 100000 in
theorem prim_jumps (n : UInt32) (w : World) : Calls Try.prog 62 #[.int .u32 (w32 n)] w fun e w' => e = .returned (.bool (jumpsP n)) ∧ Below w.heap.size w w' := by
  have Hs := Lib.hid zeroPrim
  go_enter Try.func62, Try.ntmps62
  go_wp2_with fail
  refine (prim_get n w).mono ?_
  rintro e w2 ⟨rfl, hb⟩
  rw [primV_cs]
  have Hone := Lib.hid (primCs_one (primAt n))
  have HZ := Lib.hid (Blk.new w2 146 (primCs none))
  have hB := HZ.out.row (primCs (primAt n))
  have hb2 : Below w.heap.size w ((w2.alloc (.cells (primCs none) 146)).setRow w2.heap.size (primCs (primAt n))) := below_setRow (hb.alloc hb.size _) hb.size _
  have hj : (primCs (primAt n))[6]? = some (.bool (jumpsP n)) := by unfold jumpsP; cases primAt n <;> rfl
  have hc := hB.cellv (j := 6) hj
  have hsz := primCs_size (primAt n)
  generalize primCs (primAt n) = pcs at *
  have Hb2 := Lib.hid hb2; clear hb2
  have Hsz : Hid ((Try.prog.info? 146).map (·.size) = some pcs.size) := Lib.hid (by rw [hsz]; exact Hs.out)
  have Hold : Hid ((primCs none).size = pcs.size) := Lib.hid (by rw [hsz]; rfl)
  clear hsz hj
  rw [show primCs none = #[.int .u32 0, .string ⟨#[]⟩, .int .i64 0, .int .i64 0, .int .i64 0, .bool false, .bool false] from rfl] at hc
  go_wp2_with (refine wpList_store_row rfl 146 _ _ rfl w2.heap.size pcs rfl rfl 146 _ HZ.out Hsz.out Hold.out Hone.out ?_)
  go_ret
  exact ⟨rfl, Hb2.out⟩
end Go.Proofs.Ytmejngojpffcgaa
end

section
namespace Go.Proofs.Ytmejngojpffcgaa
open Go.RowKit Go.Ls
def zeroPr : Array Value := #[.int .u32 0, .string ⟨#[]⟩, .int .i64 0, .int .i64 0, .int .i64 0, .bool false, .bool false]
set_option maxRecDepth 100000 in
set_option maxHeartbeats 1000000 in
theorem prim_long {S : Nat → Prop} (v : Value) (code : List UInt32) (i : Nat) (w : World) (hv : Sl32 S w v code) (hn : code.length ≤ 140737488355328) (hi : i ≤ code.length) :
    Calls Try.prog 90 #[v, .int .i64 i] w fun e w' => e = .returned (.int .i64 (longP code i)) ∧ Below w.heap.size w w' := by
  obtain ⟨A, c, rfl, hc, hr⟩ := hv
  by_cases hlt : i < code.length
  · have hx : code[i]? = some code[i] := List.getElem?_eq_getElem hlt
    obtain ⟨b, o, rfl, hb, hc0⟩ := hr.at_ (u32s_get hlt)
    generalize code[i] = x at hx hc0
    have hxr := w32_range x
    by_cases c1 : 256 ≤ w32 x
    · have hz : longP code i = 1 := by
        unfold longP
        rw [hx]
        simp only
        rw [if_pos]
        rw [UInt32.le_iff_toNat_le]; unfold w32 at c1; simp; omega
      rw [hz]
      clear hr
      go_enter Try.func90, Try.ntmps90
      go_wp2_with fail
      go_ret
      exact ⟨rfl, Below.refl _ _⟩
    · have c1' : ¬ 256 ≤ x := fun h => c1 (by have := UInt32.le_iff_toNat_le.1 h; unfold w32; simp at this; omega)
      have G := prim_get x w
      rw [primV_cs] at G
      have Hr := Lib.hid hr; clear hr
      have Hs := Lib.hid zeroPrim
      obtain ⟨k, hk⟩ : ∃ k : Nat, k = (match primAt x with | some p => p.operands | none => 0) := ⟨_, rfl⟩
      obtain ⟨t, ht⟩ : ∃ t : Bool, t = (match primAt x with | some p => p.text | none => false) := ⟨_, rfl⟩
      obtain ⟨s, hs⟩ : ∃ s : Bool, s = (primAt x).isSome := ⟨_, rfl⟩
      have hk2 : k ≤ 2 := by rw [hk]; cases hp : primAt x with | none => simp | some p => exact (primAt_sound hp).1
      have ht1 : t = true → k = 1 := by rw [hk, ht]; cases hp : primAt x with | none => simp | some p => exact (primAt_sound hp).2.1
      have hz : longP code i = if s = false ∨ code.length - i < 1 + k then 0 else if t then match code[i+1]? with
          | some t => if 1000 < t then 0 else if code.length - i < 1 + k + (t.toNat + 3) / 4 then 0 else 1 + k + (t.toNat + 3) / 4
          | none => 0
        else 1 + k := by
        unfold longP
        rw [hx, hk, ht, hs]
        simp only
        rw [if_neg c1']
        cases primAt x with
        | none => simp
        | some p => simp; rfl
      obtain ⟨res, hres⟩ : ∃ res, res = longP code i := ⟨_, rfl⟩
      rw [← hres]
      rw [← hres] at hz
      clear hres
      have Hz := Lib.hid hz
      have hp4 : (primCs (primAt x))[4]? = some (.int .i64 k) := by rw [hk]; cases primAt x <;> rfl
      have hp5 : (primCs (primAt x))[5]? = some (.bool t) := by rw [ht]; cases primAt x <;> rfl
      have hp7 := primCs_size (primAt x)
      have Hone := Lib.hid (primCs_one (primAt x))
      rw [← hs] at G
      generalize primCs (primAt x) = pcs at *
      clear hz hk ht hs c1'
      have Hsz : Hid ((Try.prog.info? 146).map (·.size) = some pcs.size) := Lib.hid (by rw [hp7]; exact Hs.out)
      have Hold : Hid (zeroPr.size = pcs.size) := Lib.hid (by rw [hp7]; rfl)
      clear hp7
      go_enter Try.func90, Try.ntmps90
      go_wp2_with fail
      refine G.mono ?_
      rintro e w2 ⟨rfl, hb2⟩
      have HZ := Lib.hid (Blk.new w2 146 zeroPr)
      have hB := HZ.out.row pcs
      have hbe : Below w.heap.size w ((w2.alloc (.cells zeroPr 146)).setRow w2.heap.size pcs) := below_setRow (hb2.alloc hb2.size _) hb2.size _
      have hc4 := hB.cellv hp4
      have hc5 := hB.cellv hp5
      clear hb2 hB hp4 hp5
      unfold zeroPr at hc4 hc5 hbe
      go_wp2_with (refine wpList_store_row rfl 146 _ _ rfl w2.heap.size pcs rfl rfl 146 _ HZ.out Hsz.out Hold.out Hone.out ?_; refine stop_here ?_)
      generalize hw3 : ((w2.alloc (.cells #[.int .u32 0, .string ⟨#[]⟩, .int .i64 0, .int .i64 0, .int .i64 0, .bool false, .bool false] 146)).setRow w2.heap.size pcs) = w3 at *
      clear hw3 HZ Hsz Hold Hone
      have hcx : w3.cell? ⟨b, o + i, none⟩ = some (.int .u32 (w32 x)) := by
        have := (Hr.out.below hbe).at_ (u32s_get hlt)
        obtain ⟨b', o', e, _, h⟩ := this
        cases e
        rw [h]
        have hx' := (List.getElem?_eq_some_iff.1 hx).2
        rw [hx']
      have Hr3 := Lib.hid (Hr.out.below hbe)
      clear Hr hc0 hcx
      have Hbe := Lib.hid hbe; clear hbe
      clear hx hb
      by_cases c2 : s = false
      · obtain rfl : res = 0 := by rw [Hz.out, if_pos (.inl c2)]
        subst c2
        refine go_on ?_
        go_wp2_with fail
        go_ret
        exact ⟨rfl, Hbe.out⟩
      · have c2 : s = true := by simpa using c2
        subst c2
        by_cases c3 : code.length - i < 1 + k
        · obtain rfl : res = 0 := by rw [Hz.out, if_pos (.inr c3)]
          have c3' : ¬ (1 + k : Int) ≤ code.length - i := by omega
          refine go_on ?_
          go_wp2_with fail
          go_ret
          exact ⟨rfl, Hbe.out⟩
        · have hz2 := Hz.out
          rw [if_neg (by simp; omega)] at hz2
          clear Hz
          have Hz := Lib.hid hz2; clear hz2
          have c3' : (1 + k : Int) ≤ code.length - i := by omega
          cases t with
          | false =>
            obtain rfl : res = 1 + k := by rw [Hz.out, if_neg (by simp)]
            refine go_on ?_
            go_wp2_with fail
            go_ret
            exact ⟨ret_int (by omega), Hbe.out⟩
          | true =>
            obtain rfl := ht1 rfl
            have hlt2 : i + 1 < code.length := by omega
            have hy : code[i + 1]? = some code[i + 1] := List.getElem?_eq_getElem hlt2
            have hcy := Hr3.out.at_ (u32s_get hlt2)
            obtain ⟨b', o', e, _, hcy⟩ := hcy
            cases e
            generalize code[i + 1] = y at *
            have hz2 := Hz.out
            rw [if_pos rfl, hy] at hz2
            simp only at hz2
            clear Hz
            have Hz := Lib.hid hz2; clear hz2
            have hyr := w32_range y
            by_cases c4 : w32 y ≤ 1000
            · have hz2 := Hz.out
              rw [if_neg (by rw [UInt32.lt_iff_toNat_lt]; unfold w32 at c4; simp; omega)] at hz2
              clear Hz
              have Hz := Lib.hid hz2; clear hz2
              obtain ⟨q, hqd⟩ : ∃ q, q = (y.toNat + 3) / 4 := ⟨_, rfl⟩
              have hqb : q ≤ 251 := by unfold w32 at c4; omega
              have hq : Int.tdiv (w32 y + 4 - 1) 4 = (q : Int) := by
                rw [Int.tdiv_eq_ediv_of_nonneg (by omega), hqd]
                unfold w32; omega
              rw [← hqd] at Hz
              clear hqd
              by_cases c5 : code.length - i < 1 + 1 + q
              · obtain rfl : res = 0 := by rw [Hz.out, if_pos c5]
                have c5' : ¬ ((1 : Int) + 1 + (q : Nat) ≤ code.length - i) := by omega
                refine go_on ?_
                go_wp2_with fail
                go_ret
                exact ⟨rfl, Hbe.out⟩
              · obtain rfl : res = _ := Eq.trans Hz.out (if_neg c5)
                have c5' : ((1 : Int) + 1 + (q : Nat) ≤ code.length - i) := by omega
                refine go_on ?_
                go_wp2_with fail
                go_ret
                exact ⟨ret_int (by omega), Hbe.out⟩
            · obtain rfl : res = 0 := by rw [Hz.out, if_pos (by rw [UInt32.lt_iff_toNat_lt]; unfold w32 at c4; simp; omega)]
              refine go_on ?_
              go_wp2_with fail
              go_ret
              exact ⟨rfl, Hbe.out⟩
  · have : code[i]? = none := List.getElem?_eq_none (by omega)
    have hz : longP code i = 0 := by unfold longP; rw [this]
    rw [hz]
    clear hr
    go_enter Try.func90, Try.ntmps90
    go_wp2_with fail
    go_ret
    exact ⟨rfl, Below.refl _ _⟩
end Go.Proofs.Ytmejngojpffcgaa
end

section
namespace Go.Ls
def nats (l : List Nat) : List Value := l.map fun n : Nat => Value.int .i64 (n : Int)
theorem nats_append (l m : List Nat) : nats (l ++ m) = nats l ++ nats m := List.map_append ..
theorem nats_length (l : List Nat) : (nats l).length = l.length := List.length_map ..
theorem nats_get {l : List Nat} {j : Nat} (h : j < l.length) : (nats l)[j]? = some (.int .i64 l[j]) := by simp [nats, h]
theorem oneNats (l : List Nat) : ∀ u ∈ nats l, u.oneCell' = true := fun u hu => by
  simp only [nats, List.mem_map] at hu; obtain ⟨x, _, rfl⟩ := hu; rfl
end Go.Ls
namespace Go.Proofs.Ytmejngojpffcgaa
open Go.RowKit Go.Ls
theorem elemInt : ElemOK Try.prog 53 3 (.int .i64 0) 1 8 := ⟨Try.underlying53, by kernel_rfl, rfl, by omega⟩
def RetStarts (w : World) (r : Option (List Nat)) (e : Ending) (w' : World) : Prop :=
  Below w.heap.size w w' ∧ match r with
  | none => e = .returned (.tuple #[.slice none 0 0, .bool false])
  | some l => ∃ v, e = .returned (.tuple #[v, .bool true]) ∧ w'.ownsRow w.heap.size 3 1 v l.length (nats l)
set_option maxRecDepth 100000 in
set_option maxHeartbeats 1000000 in
theorem prim_starts {S : Nat → Prop} (v : Value) (code : List UInt32) (w : World) (hv : Sl32 S w v code) (hn : code.length ≤ 1099511627776) :
    Calls Try.prog 60 #[v] w (RetStarts w (startsP code)) := by
  have Hv := Lib.hid (Sl.bound hv)
  obtain ⟨A, c, rfl, hc, hr⟩ := hv
  obtain ⟨res, hres⟩ : ∃ r, r = startsP code := ⟨_, rfl⟩
  rw [← hres]
  have Hres := Lib.hid hres
  clear hres hr
  go_enter Try.func60, Try.ntmps60
  go_wp2_with fail
  go_loopw [4, 5] (fun out i wr => ∃ (k m : Nat) (acc : List Nat) (A' : Option Addr) (c' : Nat), k ≤ code.length ∧ i = .int .i64 k ∧ out = .slice A' m c' ∧ m ≤ k ∧ Hid (m = acc.length) ∧
      Hid (wr.ownsRow w.heap.size 3 1 (.slice A' m c') m (nats acc)) ∧ Hid (res = (startsAt code k).map (acc ++ ·)) ∧ Hid (Below w.heap.size w wr))
    (fun _ i _ => code.length - (intOf i).toNat)
  case atStart => exact ⟨0, 0, [], none, 0, Nat.zero_le _, rfl, rfl, Nat.zero_le _, rfl, World.ownsRow_nil _ _ _ _, (show _ = _ from by rw [Hres.out]; show startsAt code 0 = _; cases startsAt code 0 <;> rfl), Below.refl _ _⟩
  case round =>
    obtain ⟨k, m, acc, A', c', hk, rfl, rfl, hm, hml, hown, hst, hbe⟩ := hrel
    by_cases hlt : k < code.length
    · have Hl := Lib.hid (show Sl32 (fun b => S b ∧ b < w.heap.size) wr (.slice A code.length c) code from Sl.keep Hv.out fun b _ hs => hbe.out.block b hs.2)
      have L := prim_long _ code k wr Hl.out (by omega) hk
      obtain ⟨q, hq⟩ : ∃ q, q = longP code k := ⟨_, rfl⟩
      rw [← hq] at L
      have hqb := longP_le code k hlt
      rw [← hq] at hqb
      have Hq := Lib.hid hq; clear hq
      by_cases h0 : q = 0
      · have h0' : ((q : Int) == 0) = true := by simp; exact h0
        have h0i : (q : Int) = 0 := by omega
        have Hq0 := Lib.hid h0; clear h0
        go_wp2_with fail
        refine L.mono ?_
        rintro e w2 ⟨rfl, hb2⟩
        have HB2 := Lib.hid (below_then hbe.out hbe.out.size hb2); clear hb2
        go_wp2_with fail
        go_ret2
        refine ⟨HB2.out, ?_⟩
        rw [show res = none by rw [hst.out, startsAt_bad hlt (by rw [← Hq.out]; exact Hq0.out)]; rfl]
        rfl
      · have h0' : ((q : Int) == 0) = false := by simp; exact h0
        have h0i : ¬ (q : Int) = 0 := by omega
        go_wp2_with fail
        refine L.mono ?_
        rintro e w2 ⟨rfl, hb2⟩
        have HB2 := Lib.hid (below_then hbe.out hbe.out.size hb2)
        have HO2 := Lib.hid (own_below hown.out hb2); clear hb2
        have hsz2 := HB2.out.size
        go_wp2_with (at_builtin; go_must (refine wpList_app elemInt rfl _ _ rfl w.heap.size (.slice A' m c') m (nats acc) rfl (own_below HO2.out ((Below.refl _ _).alloc (Nat.le_refl _) _)) _ 1 1 (nats [k]) rfl (Row.blk (S := fun _ => True) (t := 3) (cs := (nats [k]).toArray) (heap_alloc_new _ _) trivial (n := 1) rfl) rfl (oneNats _) (m + 1) rfl (nats (acc ++ [k])) (nats_append _ _) (by omega) (by omega) (by simp; omega) ?_); intro A3 c3 w3 ho3 hg3 _; refine stop_here ?_)
        have hlt3 : ∀ z, (Value.slice A' m c').ownBlock = some z → w.heap.size ≤ z := fun z hz => (HO2.out.lt z hz).1
        have HB3 := Lib.hid (show Below w.heap.size w w3 from below_grown (HB2.out.alloc hsz2 _) hg3.out (by simp; omega) hlt3)
        have Hml := Lib.hid (show m + 1 = (acc ++ [k]).length by rw [List.length_append, ← hml.out]; rfl)
        have Hst := Lib.hid (show res = (startsAt code (k + q)).map (acc ++ [k] ++ ·) by rw [hst.out, startsAt_more hlt (by rw [← Hq.out]; exact h0), ← Hq.out]; cases startsAt code (k + q) <;> simp)
        clear hg3
        refine go_on ?_
        go_wp2_with fail
        go_roundw
        case rel => exact ⟨k + q, m + 1, acc ++ [k], A3, c3, by omega, by go_num, rfl, by omega, Hml, ho3, Hst, HB3⟩
        case measure => simp [intOf]; omega
    · obtain rfl : k = code.length := by omega
      go_wp2_with fail
      go_ret2
      refine ⟨hbe.out, ?_⟩
      rw [show res = some acc by rw [hst.out, startsAt_end (Nat.le_refl _)]; simp]
      refine ⟨_, rfl, ?_⟩
      rw [← hml.out]
      exact hown.out
end Go.Proofs.Ytmejngojpffcgaa
end

section
/- A map keyed by places (pairs of 32-bit numbers) that the call has made, and to which keys are added. -/
namespace Go.Ls
open Go.RowKit
abbrev Pl := UInt32 × UInt32
def plV (p : Pl) : Value := .agg #[.int .u32 (w32 p.1), .int .u32 (w32 p.2)]
def entAt (n : Nat) : List (Pl × Int) → List MapEntry
  | [] => []
  | p :: L => ⟨plV p.1, .int .i64 p.2, n⟩ :: entAt (n + 1) L
def mapObj (L : List (Pl × Int)) : Obj := .map (entAt 0 L).toArray L.length
def MapAt (w : World) (b : Nat) (L : List (Pl × Int)) : Prop := w.heap[b]? = some (mapObj L)
theorem entAt_snoc (L : List (Pl × Int)) (p : Pl × Int) : ∀ n, entAt n (L ++ [p]) = entAt n L ++ [⟨plV p.1, .int .i64 p.2, n + L.length⟩] := by
  induction L with
  | nil => intro n; rfl
  | cons q L ih => intro n; simp only [List.cons_append, entAt, ih, List.length_cons]; congr 4; omega
theorem entAt_length (L : List (Pl × Int)) : ∀ n, (entAt n L).length = L.length := by
  induction L with
  | nil => intro n; rfl
  | cons q L ih => intro n; simp [entAt, ih]
theorem entAt_born (L : List (Pl × Int)) : ∀ n, ∀ e ∈ entAt n L, e.born < n + L.length := by
  induction L with
  | nil => intro n e h; cases h
  | cons q L ih =>
    intro n e h
    rcases List.mem_cons.1 h with rfl | h
    · simp
    · have := ih (n + 1) e h
      simp only [List.length_cons]; omega
theorem modify_snoc {α : Type} (f : α → α) (l : List α) (a : α) : (l ++ [a]).modify l.length f = l ++ [f a] := by
  induction l with
  | nil => rfl
  | cons x l ih => simp only [List.cons_append, List.length_cons, List.modify_succ_cons, ih]
/-- How often a place was counted. -/
def cnt : List (Pl × Int) → Pl → Int
  | [], _ => 0
  | q :: L, p => if q.1 = p then q.2 else cnt L p
theorem cnt_snoc {L : List (Pl × Int)} {p : Pl} {c : Int} (h : ∀ q ∈ L, q.1 ≠ p) : cnt (L ++ [(p, c)]) p = c := by
  induction L with
  | nil => simp [cnt]
  | cons q L ih =>
    simp only [List.cons_append, cnt]
    rw [if_neg (h q (by simp))]
    exact ih fun q hq => h q (by simp [hq])
def ones (S : List Pl) : List (Pl × Int) := S.map fun p => (p, 1)
theorem cnt_ones (S : List Pl) (p : Pl) : cnt (ones S) p = if S.contains p then 1 else 0 := by
  induction S with
  | nil => rfl
  | cons q S ih =>
    simp only [ones, List.map_cons, cnt]
    by_cases h : q = p
    · subst h; simp
    · rw [if_neg h]
      have h' : (p == q) = false := by simpa using fun e => h e.symm
      rw [List.contains_cons, h', Bool.false_or]
      exact ih
end Go.Ls
namespace Go.Proofs.Ytmejngojpffcgaa
open Go.RowKit Go.Ls
theorem pl_check (em : Bool) (p : Pl) (W : World) : (Instr.checkKey em 10000 105 (plV p)).run Try.prog W = .ok () W := by
  have h : ∀ a b, (Instr.checkKey em 10000 105 (.agg #[.int .u32 a, .int .u32 b])).run Try.prog W = .ok () W := fun a b => by kernel_rfl
  exact h _ _
theorem pl_u32 : Try.prog.underlying 51 = some (.int .u32) := by kernel_rfl
theorem pl_size : (Try.prog.info? 51).map (·.size) = some 1 := by kernel_rfl
theorem pl_held : Try.prog.stoodInHeld 105 = false := by kernel_rfl
theorem pl_eq1 (n : Nat) (a c : Int) (W : World) : (Op.equalIn (n + 1) 51 (.int .u32 a) (.int .u32 c)).run Try.prog W = .ok (a == c) W := by
  rw [Op.equalIn]
  simp [run_underlying pl_u32, Result.andThen]
theorem pl_eq2 (n : Nat) (a b c d : Int) (W : World) : (Op.equalIn (n + 1 + 1) 105 (.agg #[.int .u32 a, .int .u32 b]) (.agg #[.int .u32 c, .int .u32 d])).run Try.prog W = .ok (a == c && b == d) W := by
  obtain ⟨i0, hi0, hs0⟩ := Option.map_eq_some_iff.1 pl_size
  have hu := Try.underlying105
  rw [Op.equalIn]
  by_cases h1 : a = c <;> by_cases h2 : b = d <;>
  simp [run_underlying hu, part, isAgg, run_underlying pl_u32, pl_eq1, Result.andThen, h1, h2]
theorem pl_equal (p q : Pl) (W : World) : (Op.equal 105 (plV p) (plV q)).run Try.prog W = .ok (p == q) W := by
  have := pl_eq2 9998 (w32 p.1) (w32 p.2) (w32 q.1) (w32 q.2) W
  rw [show (p == q) = (w32 p.1 == w32 q.1 && w32 p.2 == w32 q.2) from ?_]
  · exact this
  · obtain ⟨a, b⟩ := p
    obtain ⟨c, d⟩ := q
    rw [Bool.eq_iff_iff]
    simp only [beq_iff_eq, Prod.mk.injEq, Bool.and_eq_true]
    exact ⟨fun ⟨e, f⟩ => ⟨by rw [e], by rw [f]⟩, fun ⟨e, f⟩ => ⟨w32_inj e, w32_inj f⟩⟩
theorem pl_ask (p : Pl) (W : World) : ∀ (L : List (Pl × Int)) (n i : Nat), (Instr.findAsking 105 (plV p) (entAt n L) i).run Try.prog W = .ok (match L.findIdx? (fun q => q.1 = p) with | some j => some (i + j, .int .i64 (cnt L p)) | none => none) W
  | [], n, i => rfl
  | q :: L, n, i => by
    simp only [entAt, Instr.findAsking, Sem.run_bind, pl_equal, Result.andThen_ok, List.findIdx?_cons, cnt]
    by_cases h : q.1 = p
    · rw [if_pos (by simpa using h.symm)]
      simp [h]
    · rw [if_neg (by simpa using fun e => h e.symm), pl_ask p W L (n + 1) (i + 1)]
      simp only [h, decide_false, if_false, Bool.false_eq_true]
      cases L.findIdx? (fun q => q.1 = p) <;> simp <;> omega
theorem pl_find (p : Pl) (W : World) (L : List (Pl × Int)) : (Instr.findKey 105 (plV p) (entAt 0 L)).run Try.prog W = .ok (match L.findIdx? (fun q => q.1 = p) with | some j => some (j, .int .i64 (cnt L p)) | none => none) W := by
  have hu := Try.underlying105
  cases L with
  | nil => simp [Instr.findKey, run_underlying hu, entAt, Instr.findNow]
  | cons q L =>
    have := pl_ask p W (q :: L) 0 0
    simp only [Instr.findKey, Sem.run_bind, run_underlying hu, Result.andThen_ok, entAt, Instr.findNow, Instr.sameNow]
    simp only [entAt] at this
    rw [this]
    cases (q :: L).findIdx? (fun q => q.1 = p) <;> simp
theorem idx_none {L : List (Pl × Int)} {p : Pl} (h : ∀ q ∈ L, q.1 ≠ p) : L.findIdx? (fun q => q.1 = p) = none := by
  rw [List.findIdx?_eq_none_iff]
  intro q hq
  simpa using h q hq
theorem cnt_none (L : List (Pl × Int)) (p : Pl) (h : L.findIdx? (fun q => q.1 = p) = none) : cnt L p = 0 := by
  induction L with
  | nil => rfl
  | cons q L ih =>
    rw [List.findIdx?_cons] at h
    by_cases e : q.1 = p
    · simp [e] at h
    · simp only [e, decide_false, if_false, Bool.false_eq_true] at h
      rw [cnt, if_neg e]
      exact ih (by simpa using h)
theorem map_lookup {W : World} {b : Nat} {L : List (Pl × Int)} (h : MapAt W b L) (p : Pl) : (Instr.lookup 100 (.map (some b)) (plV p) false).run Try.prog W = .ok (.int .i64 (cnt L p)) W := by
  have hu := Try.underlying100
  have hz : (zeroValue 3).run Try.prog W = .ok (.int .i64 0) W := by kernel_rfl
  have hf := pl_find p W L
  have hc := cnt_none L p
  unfold MapAt mapObj at h
  simp [Instr.lookup, run_underlying hu, MapKept.run_getObj_map h, pl_check, hf, Result.andThen]
  cases hi : L.findIdx? (fun q => q.1 = p) with
  | none => simp [hz, hc hi]
  | some j => simp
theorem map_entry {W : World} {b : Nat} {L : List (Pl × Int)} (h : MapAt W b L) (p : Pl) (hn : ∀ q ∈ L, q.1 ≠ p) : (Instr.mapEntry 100 (.map (some b)) (plV p)).run Try.prog W = .ok (.tuple #[.int .i64 0, .int .i64 L.length]) (W.putObj b (mapObj (L ++ [(p, 0)]))) := by
  have hu := Try.underlying100
  have hz : (zeroValue 3).run Try.prog W = .ok (.int .i64 0) W := by kernel_rfl
  have hf := pl_find p W L
  rw [idx_none hn] at hf
  unfold MapAt mapObj at h
  simp [Instr.mapEntry, run_underlying hu, MapKept.run_getObj_map h, pl_check, hf, hz, MapKept.run_setObj_map _ h, Result.andThen, goInt, World.putObj, mapObj, entAt_snoc]
theorem map_store {W : World} {b : Nat} {L : List (Pl × Int)} (p : Pl) (c : Int) (h : MapAt W b (L ++ [(p, 0)])) : (Instr.entryStore 100 (.map (some b)) (.int .i64 L.length) (.int .i64 c)).run Try.prog W = .ok () (W.putObj b (mapObj (L ++ [(p, c)]))) := by
  have hi : (entAt 0 (L ++ [(p, 0)])).findIdx? (fun e => (e.born : Int) == L.length) = some L.length := by
    rw [entAt_snoc, List.findIdx?_append, List.findIdx?_eq_none_iff.2]
    · simp [entAt_length, List.findIdx?_cons]
    · intro e he
      have := entAt_born L 0 e he
      simp; omega
  have hm : (entAt 0 (L ++ [(p, 0)])).modify L.length (fun e => { e with val := Value.int .i64 c }) = entAt 0 (L ++ [(p, c)]) := by
    have := modify_snoc (fun e : MapEntry => { e with val := Value.int .i64 c }) (entAt 0 L) ⟨plV p, .int .i64 0, 0 + L.length⟩
    rw [entAt_length] at this
    rw [entAt_snoc, entAt_snoc, this]
  unfold MapAt mapObj at h
  simp [Instr.entryStore, MapKept.run_getObj_map h, asInt, asIntOf, MapKept.run_setObj_map _ h, Result.andThen, World.putObj, mapObj, hi, hm]
end Go.Proofs.Ytmejngojpffcgaa
end

section
namespace Go.Ls
theorem startsFrom_ge (code : List UInt32) : ∀ (f i : Nat) (l : List Nat), startsFrom code f i = some l → (∀ j ∈ l, i ≤ j) ∧ l.Pairwise (· < ·) := by
  intro f
  induction f with
  | zero => intro i l h; cases h; simp
  | succ f ih =>
    intro i l h
    rw [startsFrom] at h
    split at h
    · split at h
      · cases h
      · rename_i h1 h2
        cases hs : startsFrom code f (i + longP code i) with
        | none => rw [hs] at h; cases h
        | some m =>
          rw [hs] at h
          cases h
          obtain ⟨a, b⟩ := ih _ _ hs
          refine ⟨fun j hj => ?_, List.pairwise_cons.2 ⟨fun j hj => ?_, b⟩⟩
          · rcases List.mem_cons.1 hj with rfl | hj
            · omega
            · have := a j hj; omega
          · have := a j hj; omega
    · cases h; simp
theorem startsP_sorted {code : List UInt32} {l : List Nat} (h : startsP code = some l) : l.Pairwise (· < ·) := (startsFrom_ge code _ _ l h).2
theorem long_next {code : List UInt32} {i : Nat} {x : UInt32} (hx : code[i]? = some x) (h : longP code i ≠ 0) (hlt : ¬ 256 ≤ x) : ∃ p, primAt x = some p ∧ i + p.operands < code.length := by
  have hi := (List.getElem?_eq_some_iff.1 hx).1
  unfold longP at h
  rw [hx] at h
  simp only at h
  rw [if_neg hlt] at h
  cases hp : primAt x with
  | none => rw [hp] at h; exact absurd rfl h
  | some p =>
    rw [hp] at h
    simp only at h
    refine ⟨p, rfl, ?_⟩
    by_cases c : code.length - i < 1 + p.operands
    · rw [if_pos c] at h; exact absurd rfl h
    · omega
theorem jumps_next {code : List UInt32} {i : Nat} {x : UInt32} (hx : code[i]? = some x) (h : longP code i ≠ 0) (hlt : ¬ 256 ≤ x) (hj : jumpsP x = true) : i + 1 < code.length ∧ x ≠ 139 := by
  obtain ⟨p, hp, hl⟩ := long_next hx h hlt
  have hs := primAt_sound hp
  unfold jumpsP at hj
  rw [hp] at hj
  have := hs.2.2.1 hj
  refine ⟨by omega, fun e => ?_⟩
  have := (hs.2.2.2.1 e).1
  omega
theorem away_next {code : List UInt32} {i : Nat} (hx : code[i]? = some 139) (h : longP code i ≠ 0) : i + 2 < code.length := by
  obtain ⟨p, hp, hl⟩ := long_next hx h (by decide)
  have := ((primAt_sound hp).2.2.2.1 rfl).1
  omega
theorem jumps_away : jumpsP 139 = false := by decide
theorem jumps_big {x : UInt32} (h : 256 ≤ x) : jumpsP x = false := by
  unfold jumpsP
  cases hp : primAt x with
  | none => rfl
  | some p =>
    have := (primAt_sound hp).2.2.2.2
    rw [UInt32.lt_iff_toNat_lt] at this
    rw [UInt32.le_iff_toNat_le] at h
    omega
theorem ones_snoc (S : List Pl) (p : Pl) : ones (S ++ [p]) = ones S ++ [(p, 1)] := by simp [ones]
theorem places_take {k j : Nat} {l : List Nat} {a : Nat} (h : l[j]? = some a) : placesOf k (l.take (j + 1)) = placesOf k (l.take j) ++ [(UInt32.ofNat k, UInt32.ofNat a)] := by
  rw [List.take_add_one, h]; simp [placesOf]
theorem places_new {k j : Nat} {l : List Nat} {a : Nat} {P : List Pl} (hl : l.Pairwise (· < ·)) (hb : ∀ x ∈ l, x < 4294967296) (h : l[j]? = some a) (hk : k < 4294967296) (hP : ∀ q ∈ P, q.1.toNat < k) :
    ∀ q ∈ ones (P ++ placesOf k (l.take j)), q.1 ≠ ((UInt32.ofNat k, UInt32.ofNat a) : Pl) := by
  intro q hq e
  simp only [ones, List.mem_map] at hq
  obtain ⟨p, hp, rfl⟩ := hq
  simp only at e
  subst e
  rcases List.mem_append.1 hp with h1 | h1
  · have := hP _ h1
    simp only [UInt32.toNat_ofNat'] at this
    omega
  · simp only [placesOf, List.mem_map, Prod.mk.injEq] at h1
    obtain ⟨x, hx, _, e2⟩ := h1
    obtain ⟨i, hi, rfl⟩ := List.mem_take_iff_getElem.1 hx
    have hjl := (List.getElem?_eq_some_iff.1 h).1
    have hlt := List.pairwise_iff_getElem.1 hl i j (by omega) hjl (by omega)
    have ha : l[j] = a := (List.getElem?_eq_some_iff.1 h).2
    have b1 := hb _ (List.getElem_mem (show i < l.length by omega))
    have b2 := hb _ (List.getElem_mem hjl)
    have := congrArg UInt32.toNat e2
    simp only [UInt32.toNat_ofNat'] at this
    omega
theorem places_lt {k : Nat} {l : List Nat} {P : List Pl} (hk : k < 4294967295) (hP : ∀ q ∈ P, q.1.toNat < k) : ∀ q ∈ P ++ placesOf k l, q.1.toNat < k + 1 := by
  intro q hq
  rcases List.mem_append.1 hq with h | h
  · have := hP _ h; omega
  · simp only [placesOf, List.mem_map] at h
    obtain ⟨a, _, rfl⟩ := h
    simp only [UInt32.toNat_ofNat']
    omega
end Go.Ls
end

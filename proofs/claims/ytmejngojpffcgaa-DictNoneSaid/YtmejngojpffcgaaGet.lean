import Derived.Test.YtmejngojpffcgaaSpot
namespace Go.Ls
open Go.RowKit
variable {P : Program}
theorem results_row_tmp {fn : Func} {p q : Tmp} {ty : TypeId} (h : fn.results = #[.cell p ty, .tmp q]) (tmps : Array Value) (w : World) (g : Nat) (t : TypeId) (cs : Array Value) (fr : Nat × Nat) (d : TypeDesc) (v : Value)
    (hp : tmps.getD p undef = .pointer (some ⟨g, 0, none⟩)) (hq : tmps.getD q undef = v) (hg : w.heap[g]? = some (.cells cs t fr))
    (hu : P.underlying ty = some d) (hd : (match d with | .struct _ | .array _ _ => true | _ => false) = true) (hi : (P.info? ty).map (·.size) = some cs.size) :
    (results fn tmps).run P w = .ok (.tuple #[.agg cs, v]) w := by
  have hp' : tmps[p]?.getD undef = .pointer (some ⟨g, 0, none⟩) := by simpa using hp
  have hq' : tmps[q]?.getD undef = v := by simpa using hq
  simp [results, h, hp', hq', asAddr, run_loadVar_row w g t ty cs fr d hg hu hd hi]
def primCs (o : Option Prm) : Array Value := match o with
  | some p => p.cells.toArray
  | none => #[.int .u32 0, .string ⟨#[]⟩, .int .i64 0, .int .i64 0, .int .i64 0, .bool false, .bool false]
theorem primV_cs (o : Option Prm) : primV o = .agg (primCs o) := by cases o <;> rfl
theorem primCs_size (o : Option Prm) : (primCs o).size = 7 := by cases o <;> rfl
theorem primCs_one (o : Option Prm) : (primCs o).all (·.oneCell') = true := by cases o <;> simp [primCs, Prm.cells, Value.oneCell', str]
end Go.Ls
namespace Go.Proofs.Ytmejngojpffcgaa
open Go.RowKit Go.Ls
theorem zeroPrim : (Try.prog.info? 146).map (·.size) = some 7 := by kernel_rfl
set_option maxRecDepth 100000 in
theorem prim_get (n : UInt32) (w : World) : Calls Try.prog 92 #[.int .u32 (w32 n)] w fun e w' => e = .returned (.tuple #[primV (primAt n), .bool (primAt n).isSome]) ∧ Below w.heap.size w w' := by
  have Hs := Lib.hid zeroPrim
  have HZ := Lib.hid (Blk.new w 146 (primCs none))
  have hb0 : Below w.heap.size w (w.alloc (.cells (primCs none) 146)) := (Below.refl _ w).alloc (Nat.le_refl _) _
  have HB0 := Lib.hid hb0; clear hb0
  have Hnone := Lib.hid (primCs_one none)
  have hsp := primAt_spot n
  have S := prim_spot n (w.alloc (.cells (primCs none) 146))
  unfold spotZ at S
  cases hn : spotN n with
  | none =>
    rw [hn] at S hsp
    have hpa : primAt n = none := hsp
    clear hsp hn
    simp only at S
    rw [hpa]
    go_enter Try.func92, Try.ntmps92
    go_wp2_with fail
    refine S.mono ?_
    rintro e w2 ⟨rfl, hb⟩
    have HZ2 := Lib.hid (HZ.out.below hb HZ.out.lt)
    have HB2 := Lib.hid (below_next HB0.out hb); clear hb
    go_wp2_with (refine wpList_store_row rfl 146 _ _ rfl w.heap.size (primCs none) rfl rfl 146 _ HZ2.out Hs.out rfl Hnone.out ?_)
    refine bodyPost_ret (results_row_tmp rfl _ _ w.heap.size 146 (primCs none) (0, 0) _ (.bool false) rfl rfl (HZ2.out.row _) Try.underlying146 rfl Hs.out) rfl ?_
    exact ⟨rfl, below_setRow HB2.out (Nat.le_refl _) _⟩
  | some i =>
    rw [hn] at S hsp
    have hi := spotN_lt hn
    have hp : prims[i]? = some (prims[i]'(by rw [prims_length]; exact hi)) := List.getElem?_eq_getElem _
    generalize prims[i]'(by rw [prims_length]; exact hi) = p at hp
    have hpa : primAt n = some p := by rw [hsp]; exact hp
    have Hx := Lib.hid (prim_index i p hi hp)
    clear hsp hn hp
    simp only at S
    rw [hpa]
    have Hone := Lib.hid (primCs_one (some p))
    have hx := Hx.out
    generalize hpr : primCells = pc at *
    go_enter Try.func92, Try.ntmps92
    go_wp2_with fail
    refine S.mono ?_
    rintro e w2 ⟨rfl, hb⟩
    have HZ2 := Lib.hid (HZ.out.below hb HZ.out.lt)
    have HB2 := Lib.hid (below_next HB0.out hb); clear hb
    have T := prim_table w2
    rw [hpr] at T
    go_wp2_with fail
    refine T.mono ?_
    rintro e w3 ⟨rfl, hb⟩
    have HZ3 := Lib.hid (HZ2.out.below hb HZ2.out.lt)
    have HB3 := Lib.hid (below_next HB2.out hb); clear hb
    go_wp2_with (refine wpList_store_row rfl 146 _ _ rfl w.heap.size (primCs (some p)) rfl rfl 146 _ HZ3.out Hs.out rfl Hone.out ?_)
    refine bodyPost_ret (results_row_tmp rfl _ _ w.heap.size 146 (primCs (some p)) (0, 0) _ (.bool true) rfl rfl (HZ3.out.row _) Try.underlying146 rfl Hs.out) rfl ?_
    exact ⟨rfl, below_setRow HB3.out (Nat.le_refl _) _⟩
set_option maxRecDepth 100000 in
theorem prim_jumps (n : UInt32) (w : World) : Calls Try.prog 62 #[.int .u32 (w32 n)] w fun e w' => e = .returned (.bool (jumpsP n)) ∧ Below w.heap.size w w' := by
  have Hs := Lib.hid zeroPrim
  go_enter Try.func62, Try.ntmps62
  go_wp2_with fail
  refine (prim_get n w).mono ?_
  rintro e w2 ⟨rfl, hb⟩
  rw [primV_cs]
  have Hone := Lib.hid (primCs_one (primAt n))
  have HZ := Lib.hid (Blk.new w2 146 (primCs none))
  have hB := HZ.out.row (primCs (primAt n))
  have hb2 : Below w.heap.size w ((w2.alloc (.cells (primCs none) 146)).setRow w2.heap.size (primCs (primAt n))) := below_setRow (hb.alloc hb.size _) hb.size _
  have hj : (primCs (primAt n))[6]? = some (.bool (jumpsP n)) := by unfold jumpsP; cases primAt n <;> rfl
  have hc := hB.cellv (j := 6) hj
  have hsz := primCs_size (primAt n)
  generalize primCs (primAt n) = pcs at *
  have Hb2 := Lib.hid hb2; clear hb2
  have Hsz : Hid ((Try.prog.info? 146).map (·.size) = some pcs.size) := Lib.hid (by rw [hsz]; exact Hs.out)
  have Hold : Hid ((primCs none).size = pcs.size) := Lib.hid (by rw [hsz]; rfl)
  clear hsz hj
  rw [show primCs none = #[.int .u32 0, .string ⟨#[]⟩, .int .i64 0, .int .i64 0, .int .i64 0, .bool false, .bool false] from rfl] at hc
  go_wp2_with (refine wpList_store_row rfl 146 _ _ rfl w2.heap.size pcs rfl rfl 146 _ HZ.out Hsz.out Hold.out Hone.out ?_)
  go_ret
  exact ⟨rfl, Hb2.out⟩
end Go.Proofs.Ytmejngojpffcgaa

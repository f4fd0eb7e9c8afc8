import Derived.Test.YtmejngojpffcgaaFlash
namespace Go.Proofs.Ytmejngojpffcgaa
open Go.RowKit Go.Ls

/-- What lies outside D lies as it lay. -/
structure Only (D : Nat → Prop) (w w' : World) : Prop where
  os : w'.os = w.os
  tape : w'.tape = w.tape
  output : w'.output = w.output
  size : w.heap.size ≤ w'.heap.size
  block : ∀ j, j < w.heap.size → ¬ D j → w'.heap[j]? = w.heap[j]?
theorem Only.refl (D : Nat → Prop) (w : World) : Only D w w := ⟨rfl, rfl, rfl, Nat.le_refl _, fun _ _ _ => rfl⟩
theorem Only.trans {D : Nat → Prop} {u v w : World} (h : Only D u v) (k : Only D v w) : Only D u w :=
  ⟨k.os.trans h.os, k.tape.trans h.tape, k.output.trans h.output, Nat.le_trans h.size k.size, fun j hj hd => (k.block j (Nat.lt_of_lt_of_le hj h.size) hd).trans (h.block j hj hd)⟩
theorem Only.of_below {D : Nat → Prop} {w w' : World} (h : Below w.heap.size w w') : Only D w w' := ⟨h.os, h.tape, h.output, h.size, fun j hj _ => h.block j hj⟩
theorem Only.mono {D D' : Nat → Prop} {w w' : World} (h : Only D w w') (hd : ∀ j, j < w.heap.size → D j → D' j) : Only D' w w' := ⟨h.os, h.tape, h.output, h.size, fun j hj hn => h.block j hj fun hx => hn (hd j hj hx)⟩
theorem Only.setCell {D : Nat → Prop} (w : World) (p : Addr) (v : Value) (hp : D p.block) : Only D w (w.setCell p v) :=
  ⟨rfl, rfl, rfl, by simp, fun j _ hd => heap_setCell_other w p j v (fun e => hd (by rw [e]; exact hp))⟩

/-- A function value that tells a byte anew, whatever of D has turned. -/
def Fun2 (w : World) (D : Nat → Prop) (fv : Value) (n : Nat) (g : Nat → UInt8 → UInt8) : Prop :=
  ∃ fid cap, fv = .func (.func fid) #[] cap ∧ (∀ args W, (callFunc fid args).run Try.prog W = .ok (.enter fid args) W) ∧
    ∀ W, Only D w W → ∀ i, i < n → ∀ x : UInt8, Calls Try.prog fid (#[.int .i64 i, .int .u8 (b8 x)] ++ cap) W fun e w' => e = .returned (.int .u8 (b8 (g i x))) ∧ W = w'
def Fun3 (w : World) (D : Nat → Prop) (fv : Value) (n : Nat) (g : Nat → UInt8 → UInt8 → UInt8) : Prop :=
  ∃ fid cap, fv = .func (.func fid) #[] cap ∧ (∀ args W, (callFunc fid args).run Try.prog W = .ok (.enter fid args) W) ∧
    ∀ W, Only D w W → ∀ i, i < n → ∀ x m : UInt8, Calls Try.prog fid (#[.int .i64 i, .int .u8 (b8 x), .int .u8 (b8 m)] ++ cap) W fun e w' => e = .returned (.int .u8 (b8 (g i x m))) ∧ W = w'
theorem mapIdx_take_succ {α : Type} (l : List α) (g : Nat → α → α) (j : Nat) (x : α) (h : l[j]? = some x) : (l.take (j + 1)).mapIdx g = (l.take j).mapIdx g ++ [g j x] := by
  obtain ⟨hj, hx⟩ := List.getElem?_eq_some_iff.1 h
  rw [List.take_add_one, h, Option.toList_some, List.mapIdx_append]
  simp [List.length_take, Nat.min_eq_left (Nat.le_of_lt hj)]

theorem FlashAt.patched {w w' : World} {D : Nat → Prop} {b bc o : Nat} {f : Fl} (h : FlashAt w D b bc o f) (hon : Only (fun x => x = bc) w w') {l : List UInt8} (hl : l.length = f.cells.length) (hc : Cells w' bc o l) : FlashAt w' D b bc o { f with cells := l } := by
  have hlt := h.lt
  obtain ⟨h1, h2, ⟨c, A, cw, pv, h3, h4, h5⟩, h6, h7, h8, h9⟩ := h
  refine ⟨h1, h2, ⟨c, A, cw, pv, ?_, ?_, ?_⟩, hc, ?_, ?_, h9⟩
  · show Blk w' b _ #[.slice (some ⟨bc, o, none⟩) l.length c, _, _, _]
    rw [hl]
    exact (hon.block b hlt.1 h1).trans h3
  · show l.length ≤ c; omega
  · exact h5.keep fun j hj _ _ hne => hon.block j hj hne
  · show 0 < l.length; omega
  · show l.length ≤ 65536; omega

set_option maxRecDepth 100000 in
set_option maxHeartbeats 800000 in
theorem change_plain {D : Nat → Prop} (w : World) (b bc o : Nat) (f : Fl) (h : FlashAt w D b bc o f) (k n c : Nat) (hin : k + n ≤ f.cells.length) (h0 : 0 < n) (hc : n ≤ c) (fw ft : Value) (g : Nat → UInt8 → UInt8) (hw : Fun2 w D fw n g) (hpw : f.power = none) :
    Calls Try.prog 52 #[.pointer (some ⟨b, 0, none⟩), .slice (some ⟨bc, o + k, none⟩) n c, fw, ft] w
      fun e w' => e = .returned (.int .i64 0) ∧ FlashAt w' D b bc o { f with cells := patch f.cells k ((f.seg k n).mapIdx g) } ∧ Only D w w' := by
  have hF := h
  obtain ⟨hne, ⟨hDb, hDc⟩, ⟨c0, A, cw, pv, hb, hc0, hp⟩, hcells, hpos, hsmall, hs⟩ := h
  rw [hpw] at hp
  obtain rfl : pv = .pointer none := hp
  have hcell2 := hb.cellv (j := 2) rfl
  simp only [List.getElem_toArray, List.getElem_cons_zero, List.getElem_cons_succ] at hcell2
  obtain ⟨fid, cap, rfl, hen, hcall⟩ := hw
  have hlen : (f.seg k n).length = n := f.seg_length k n hin
  have Hcall := Lib.hid hcall; clear hcall
  have Hcells := Lib.hid hcells; clear hcells
  have Hb := Lib.hid hb; clear hb
  have HF := Lib.hid hF; clear hF
  go_enter Try.func52, Try.ntmps52
  go_wp2_with fail
  go_loopw [75] (fun i wr => ∃ j : Nat, j ≤ n ∧ i = .int .i64 j ∧ Hid (Cells wr bc o (patch f.cells k (((f.seg k n).take j).mapIdx g))) ∧ Hid (Only (fun x => x = bc) w wr))
    (fun i _ => n - (intOf i).toNat)
  case atStart => exact ⟨0, Nat.zero_le _, rfl, by rw [List.take_zero, List.mapIdx_nil, patch_nil]; exact Hcells.out, Only.refl _ _⟩
  case round =>
    obtain ⟨j, hj, rfl, hcs, hon⟩ := hrel
    by_cases hlt : j < n
    · have hx : (f.seg k n)[j]? = some (f.seg k n)[j] := List.getElem?_eq_getElem (by omega)
      have hold : (patch f.cells k (((f.seg k n).take j).mapIdx g))[k + j]? = some (f.seg k n)[j] := by
        rw [patch_get _ _ _ (by simp; omega), if_neg (by simp; omega), ← f.seg_get k n hlt, hx]
      obtain ⟨hv, hfz⟩ := hcs.out.at_ hold
      rw [← Nat.add_assoc] at hv hfz
      have HX := Hcall.out wr (hon.out.mono fun x _ e => by subst e; exact hDc) j hlt (f.seg k n)[j]
      have Hset := Lib.hid (show Cells (wr.setCell ⟨bc, o + k + j, none⟩ (.int .u8 (b8 (g j (f.seg k n)[j])))) bc o (patch f.cells k (((f.seg k n).take (j + 1)).mapIdx g)) from by
        rw [mapIdx_take_succ _ _ _ _ hx, patch_snoc _ _ _ _ (by simp; omega)]
        have := hcs.out.set (k + j) (g j (f.seg k n)[j])
        rw [Nat.add_assoc]
        simpa [hlen, Nat.min_eq_left (Nat.le_of_lt hlt)] using this)
      have Hon := Lib.hid (hon.out.trans (Only.setCell wr ⟨bc, o + k + j, none⟩ (.int .u8 (b8 (g j (f.seg k n)[j]))) rfl))
      generalize (f.seg k n)[j] = x at *
      clear hx hold
      go_wp2_with (first | (refine HX.mono ?_; rintro e w' ⟨rfl, rfl⟩))
      go_roundw
      case rel => exact ⟨j + 1, by omega, by go_num, Hset, Hon⟩
      case measure => simp [intOf]; omega
    · obtain rfl : j = n := by omega
      rw [List.take_of_length_le (by omega)] at hcs
      go_wp2_with fail
      go_ret
      exact ⟨rfl, HF.out.patched hon.out (patch_length _ _ _ (by simp; omega)) hcs.out, hon.out.mono fun x _ e => by subst e; exact hDc⟩
end Go.Proofs.Ytmejngojpffcgaa

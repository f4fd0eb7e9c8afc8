/- Contracts of the flash's power: Arm, Down, Up. No condition beyond those each theorem names. -/
import Derived.Test.YtmejngojpffcgaaKdict
namespace Go.Proofs.Ytmejngojpffcgaa
open Go.RowKit Go.Ls
attribute [local irreducible] wpQuiet wpList Code.wp
theorem FlashAt.within {w : World} {D : Nat → Prop} {b bc o : Nat} {f : Fl} (h : FlashAt w D b bc o f) : FlashAt w (fun j => D j ∧ j < w.heap.size) b bc o f := by
  have hlt := h.lt
  obtain ⟨h1, h2, ⟨c, A, cw, pv, h3, h4, h5⟩, h6, h7, h8, h9⟩ := h
  refine ⟨h1, ⟨⟨h2.1, hlt.1⟩, ⟨h2.2, hlt.2⟩⟩, ⟨c, A, cw, pv, h3, h4, ?_⟩, h6, h7, h8, h9⟩
  cases hp : f.power with
  | none => rw [hp] at h5; exact h5
  | some q =>
    obtain ⟨left, mask⟩ := q
    rw [hp] at h5
    obtain ⟨pb, mv, e, hb, hd, k1, k2, hs, k3, k4⟩ := h5
    exact ⟨pb, mv, e, hb, ⟨hd, hb.lt⟩, k1, k2, (Sl.bound hs).mono fun z hz => ⟨⟨hz.1.1, hz.2⟩, hz.1.2⟩, k3, k4⟩
set_option maxRecDepth 100000 in
set_option maxHeartbeats 1000000 in
theorem flash_arm {D S : Nat → Prop} (w : World) (b bc o : Nat) (f : Fl) (h : FlashAt w D b bc o f) (hdn : f.down = false) (n : Nat) (hn : n < 2147483648) (v : Value) (l : List UInt8) (hv : Sl8 S w v l) (hl : l.length ≤ 140737488355328) (hDw : ∀ j, D j → j < w.heap.size) :
    Calls Try.prog 33 #[.pointer (some ⟨b, 0, none⟩), .int .i64 n, v] w
      fun e w' => e = .returned (.int .i64 0) ∧ FlashAt w' (fun j => D j ∨ w.heap.size ≤ j) b bc o { f with power := some (n, l) } ∧ Only D w w' := by
  have HF := Lib.hid h
  have hltF := h.lt
  obtain ⟨hne, hown, ⟨c0, A0, cw, pv, hb, hc0, hp⟩, hcells, hpos, hsmall, hs1, hs2⟩ := h
  have hmay := may_at _ b f.sectors cw _ _ _ _ hb
  have hm : (mayOf f.sectors f.down : Int) = 0 := by unfold mayOf; rw [if_neg (by omega), hdn]; rfl
  rw [hm] at hmay
  have CL := clone8 v l w hv hl
  clear hb hp hcells
  go_enter Try.func33, Try.ntmps33
  go_wp2_with fail
  refine hmay.mono ?_
  rintro e w' ⟨rfl, rfl⟩
  go_wp2_with fail
  refine CL.mono ?_
  clear CL
  rintro e w1 ⟨⟨v1, rfl, hv1⟩, hb1⟩
  have hF1 := HF.out.below hb1
  obtain ⟨A1, c1, rfl, hc1, hr1⟩ := own_row hv1
  obtain ⟨_, _, ⟨c0', A0', cw', pv', hbk, hc0', hp'⟩, hcells', _⟩ := hF1
  have f2 := Blk.frozen (hbk.alloc (.cells #[.int .i64 n, .slice A1 l.length c1] 113)) 2
  have s2 := Blk.cellv (j := 2) (hbk.alloc (.cells #[.int .i64 n, .slice A1 l.length c1] 113)) rfl
  simp only [List.getElem_toArray, List.getElem_cons_zero, List.getElem_cons_succ] at s2
  have Hbk := Lib.hid hbk
  have Hcells := Lib.hid hcells'
  have Hr1 := Lib.hid hr1
  have Hb1 := Lib.hid hb1
  have hsz := hb1.size
  have hb0 := hDw b hown.1
  have hbc0 := hDw bc hown.2
  clear hbk hcells' hp' hr1 hv1 hb1 hmay hm
  go_wp2_with fail
  go_ret
  have hnew : Blk (w1.alloc (.cells #[.int .i64 n, .slice A1 l.length c1] 113)) w1.heap.size 113 #[.int .i64 n, .slice A1 l.length c1] := Blk.new w1 _ _
  have hal : Below w1.heap.size w1 (w1.alloc (.cells #[.int .i64 n, .slice A1 l.length c1] 113)) := (Below.refl _ w1).alloc (Nat.le_refl _) _
  have hbk2 := Hbk.out.below hal Hbk.out.lt
  have hcl2 := Hcells.out.keep (hal.block bc (by omega))
  have hrow2 := (Hr1.out.bound.mono fun z hz => (hz : w.heap.size ≤ z ∧ z < w1.heap.size)).below hal
  generalize (w1.alloc (.cells #[.int .i64 n, .slice A1 l.length c1] 113)) = w2 at *
  have hbk3 : Blk (w2.setCell ⟨b, 2, none⟩ (.pointer (some ⟨w1.heap.size, 0, none⟩))) b 56 #[.slice (some ⟨bc, o, none⟩) f.cells.length c0', .slice A0' f.sectors cw', .pointer (some ⟨w1.heap.size, 0, none⟩), .bool f.down] := hbk2.set 2 _
  have hother : ∀ z, z ≠ b → (w2.setCell ⟨b, 2, none⟩ (.pointer (some ⟨w1.heap.size, 0, none⟩))).heap[z]? = w2.heap[z]? := fun z hz => heap_setCell_other w2 _ z _ hz
  refine ⟨rfl, ⟨hne, ⟨.inl hown.1, .inl hown.2⟩, ⟨c0', A0', cw', _, hbk3, hc0', ⟨w1.heap.size, _, rfl, (hother _ (by omega)).trans hnew, .inr hsz, by omega, by omega, ⟨A1, c1, rfl, hc1, hrow2.keep (fun z _ hz => hother z (by omega)) |>.mono fun z hz => ⟨.inr hz.1, by omega, by omega, by omega⟩⟩, hn, hl⟩⟩, hcl2.keep (hother bc (Ne.symm hne)), hpos, hsmall, hs1, hs2⟩, ?_⟩
  refine (Only.of_below (below_then Hb1.out hsz hal)).trans (Only.setCell w2 ⟨b, 2, none⟩ _ hown.1)
theorem flash_down {D : Nat → Prop} (w : World) (b bc o : Nat) (f : Fl) (h : FlashAt w D b bc o f) :
    Calls Try.prog 34 #[.pointer (some ⟨b, 0, none⟩)] w fun e w' => e = .returned (.bool f.down) ∧ w = w' := by
  obtain ⟨hne, hown, ⟨c0, A0, cw, pv, hb, hc0, hp⟩, hcells, hpos, hsmall, hs1, hs2⟩ := h
  have s3 := Blk.cellv (j := 3) hb rfl
  simp only [List.getElem_toArray, List.getElem_cons_zero, List.getElem_cons_succ] at s3
  clear hb hp hcells
  go_enter Try.func34, Try.ntmps34
  go_wp2_with fail
  go_ret
  exact ⟨rfl, rfl⟩
set_option maxRecDepth 100000 in
theorem flash_up {D : Nat → Prop} (w : World) (b bc o : Nat) (f : Fl) (h : FlashAt w D b bc o f) :
    Calls Try.prog 35 #[.pointer (some ⟨b, 0, none⟩)] w fun e w' => e = .returned (.int .i64 0) ∧ FlashAt w' D b bc o { f with power := none, down := false } ∧ Only (fun z => z = b) w w' := by
  have HF := Lib.hid h
  obtain ⟨hne, hown, ⟨c0, A0, cw, pv, hb, hc0, hp⟩, hcells, hpos, hsmall, hs1, hs2⟩ := h
  have SE := sectors_at w b f.sectors cw _ _ _ _ hb
  have s2 := Blk.cellv (j := 2) hb rfl
  have s3 := Blk.cellv (j := 3) hb rfl
  simp only [List.getElem_toArray, List.getElem_cons_zero, List.getElem_cons_succ] at s2 s3
  have f2 := Blk.frozen hb 2
  have f3 := Blk.frozen hb 3
  have Hb := Lib.hid hb
  have Hcells := Lib.hid hcells
  have hs0 : ¬ (f.sectors : Int) = 0 := by omega
  clear hb hp hcells
  go_enter Try.func35, Try.ntmps35
  go_wp2_with fail
  refine SE.mono ?_
  rintro e w' ⟨rfl, rfl⟩
  go_wp2_with fail
  go_ret
  have hb3 : Blk ((w.setCell ⟨b, 2, none⟩ (.pointer none)).setCell ⟨b, 3, none⟩ (.bool false)) b 56 #[.slice (some ⟨bc, o, none⟩) f.cells.length c0, .slice A0 f.sectors cw, .pointer none, .bool false] := (Blk.set Hb.out 2 (.pointer none)).set 3 (.bool false)
  have ho3 : Only (fun z => z = b) w ((w.setCell ⟨b, 2, none⟩ (.pointer none)).setCell ⟨b, 3, none⟩ (.bool false)) := (Only.setCell (D := fun z => z = b) w ⟨b, 2, none⟩ _ rfl).trans (Only.setCell _ ⟨b, 3, none⟩ _ rfl)
  exact ⟨rfl, ⟨hne, hown, ⟨c0, A0, cw, _, hb3, hc0, rfl⟩, (Hcells.out.keep (heap_setCell_other w _ _ _ (Ne.symm hne))).keep (heap_setCell_other _ _ _ _ (Ne.symm hne)), hpos, hsmall, hs1, hs2⟩, ho3⟩
end Go.Proofs.Ytmejngojpffcgaa

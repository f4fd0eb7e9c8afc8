/- Part of the proof of lightshiplaw15.DictNone. No condition beyond those each theorem names. -/
import Derived.Test.YtmejngojpffcgaaNone
namespace Go.Ls
def xw : Wd := ⟨[120], 0, []⟩
theorem nn_seg : (Fl.new 8).seg 0 64 = List.replicate 64 255 := by kernel_rfl
theorem nn_blank : (recOf (List.replicate 64 255) 0).kind = 0 := by kernel_rfl
theorem nn_words : wordsP (List.replicate 64 255) = [] := by unfold wordsP; rw [show recScan (List.replicate 64 255) = [] from scanAt_blank nn_blank]; rfl
theorem nn_with : withP [] xw = false := by kernel_rfl
theorem nn_app : appendP (Fl.new 8) 0 64 xw = (Fl.new 8, 100) := by
  unfold appendP
  rw [nn_seg, nn_words, nn_with]
  rfl
end Go.Ls
namespace Go.Proofs.Ytmejngojpffcgaa
open Go.RowKit Go.Ls
attribute [local irreducible] wpQuiet wpList Code.wp
set_option maxRecDepth 100000 in
set_option maxHeartbeats 4000000 in
theorem none_v2 (k n : Int) (h1 : k < 0) (w : World) : Calls Try.prog 6 #[.int .i64 k, .int .i64 n] w fun e w' => e = .returned (.bool true) ∧ Below w.heap.size w w' := by
  have hep : errP k n = 2 := by unfold errP; first | rw [if_pos (by omega)] | rw [if_neg (by omega)]
  have Hbad := Lib.hid (show k < 0 ∨ n < 0 ∨ k % 4 ≠ 0 ∨ n % 4 ≠ 0 from by omega)
  have h1' : ¬ 0 ≤ k := by omega
  have Hep := Lib.hid hep; clear hep
  have Hwd := Lib.hid zeroWord
  have hbX : Blk ((((w.alloc (.cells #[.int .u32 101] 51)).alloc (.cells #[.string ⟨#[120]⟩, .int .u8 0, .slice (some ⟨w.heap.size, 0, none⟩) 1 1] 25)).alloc (.cells #[.slice none 0 0, .slice none 0 0, .pointer none, .bool false] 56)).alloc (.cells #[.pointer none, .pointer (some ⟨w.heap.size + 1 + 1, 0, none⟩)] 33)) (w.heap.size + 1) 25 #[.string ⟨#[120]⟩, .int .u8 0, .slice (some ⟨w.heap.size, 0, none⟩) 1 1] := by
    have := Blk.new (w.alloc (.cells #[.int .u32 101] 51)) 25 #[.string ⟨#[120]⟩, .int .u8 0, .slice (some ⟨w.heap.size, 0, none⟩) 1 1]
    rw [World.size_alloc] at this
    exact (this.alloc _).alloc _
  have hbZ : Blk ((((w.alloc (.cells #[.int .u32 101] 51)).alloc (.cells #[.string ⟨#[120]⟩, .int .u8 0, .slice (some ⟨w.heap.size, 0, none⟩) 1 1] 25)).alloc (.cells #[.slice none 0 0, .slice none 0 0, .pointer none, .bool false] 56)).alloc (.cells #[.pointer none, .pointer (some ⟨w.heap.size + 1 + 1, 0, none⟩)] 33)) (w.heap.size + 1 + 1) 56 #[.slice none 0 0, .slice none 0 0, .pointer none, .bool false] := by
    have := Blk.new ((w.alloc (.cells #[.int .u32 101] 51)).alloc (.cells #[.string ⟨#[120]⟩, .int .u8 0, .slice (some ⟨w.heap.size, 0, none⟩) 1 1] 25)) 56 #[.slice none 0 0, .slice none 0 0, .pointer none, .bool false]
    rw [World.size_alloc, World.size_alloc] at this
    exact this.alloc _
  have hbR : Blk ((((w.alloc (.cells #[.int .u32 101] 51)).alloc (.cells #[.string ⟨#[120]⟩, .int .u8 0, .slice (some ⟨w.heap.size, 0, none⟩) 1 1] 25)).alloc (.cells #[.slice none 0 0, .slice none 0 0, .pointer none, .bool false] 56)).alloc (.cells #[.pointer none, .pointer (some ⟨w.heap.size + 1 + 1, 0, none⟩)] 33)) (w.heap.size + 1 + 1 + 1) 33 #[.pointer none, .pointer (some ⟨w.heap.size + 1 + 1, 0, none⟩)] := by
    have := Blk.new (((w.alloc (.cells #[.int .u32 101] 51)).alloc (.cells #[.string ⟨#[120]⟩, .int .u8 0, .slice (some ⟨w.heap.size, 0, none⟩) 1 1] 25)).alloc (.cells #[.slice none 0 0, .slice none 0 0, .pointer none, .bool false] 56)) 33 #[.pointer none, .pointer (some ⟨w.heap.size + 1 + 1, 0, none⟩)]
    rwa [World.size_alloc, World.size_alloc, World.size_alloc] at this
  have Hb0 := Lib.hid (show Below w.heap.size w ((((w.alloc (.cells #[.int .u32 101] 51)).alloc (.cells #[.string ⟨#[120]⟩, .int .u8 0, .slice (some ⟨w.heap.size, 0, none⟩) 1 1] 25)).alloc (.cells #[.slice none 0 0, .slice none 0 0, .pointer none, .bool false] 56)).alloc (.cells #[.pointer none, .pointer (some ⟨w.heap.size + 1 + 1, 0, none⟩)] 33)) from ((((Below.refl _ w).alloc (Nat.le_refl _) _).alloc (by simp) _).alloc (by simp; omega) _).alloc (by simp; omega) _)
  have HX := Lib.hid hbX
  have HZ := Lib.hid hbZ
  have HR := Lib.hid hbR
  clear hbX hbZ hbR
  go_enter Try.func6, Try.ntmps6
  go_wp2_with fail
  generalize ((((w.alloc (.cells #[.int .u32 101] 51)).alloc (.cells #[.string ⟨#[120]⟩, .int .u8 0, .slice (some ⟨w.heap.size, 0, none⟩) 1 1] 25)).alloc (.cells #[.slice none 0 0, .slice none 0 0, .pointer none, .bool false] 56)).alloc (.cells #[.pointer none, .pointer (some ⟨w.heap.size + 1 + 1, 0, none⟩)] 33)) = wl at *
  obtain ⟨s0, hs0⟩ : ∃ s0, s0 = w.heap.size := ⟨_, rfl⟩
  rw [← hs0] at HX HZ HR ⊢
  have Hs0 := Lib.hid hs0; clear hs0
  go_loopw [45] (fun i wr => ∃ j : Nat, j ≤ 2 ∧ i = .int .i64 j ∧ Hid (Below wl.heap.size wl wr)) (fun i _ => 2 - (intOf i).toNat)
  case atStart => exact ⟨0, by omega, rfl, Below.refl _ _⟩
  case round =>
    obtain ⟨j, hj, rfl, hbe⟩ := hrel
    by_cases hj2 : j < 2
    · obtain ⟨pf, hpf, hnf⟩ : ∃ pf, wr.cell? ⟨s0 + 1 + 1 + 1, j, none⟩ = some pf ∧ NoFlash wr pf := by
        have hR := HR.out.below hbe.out HR.out.lt
        rcases (show j = 0 ∨ j = 1 by omega) with rfl | rfl
        · exact ⟨_, hR.cellv (j := 0) rfl, noFlash_nil _⟩
        · exact ⟨_, hR.cellv (j := 1) rfl, noFlash_zero wr _ _ _ _ _ (HZ.out.below hbe.out HZ.out.lt)⟩
      have hX := HX.out.below hbe.out HX.out.lt
      have q0 := hX.cellv (j := 0) rfl
      have q1 := hX.cellv (j := 1) rfl
      have q2 := hX.cellv (j := 2) rfl
      simp only [List.getElem_toArray, List.getElem_cons_zero, List.getElem_cons_succ] at q0 q1 q2
      have L := load_none wr pf hnf k n
      have A := append_none wr pf hnf k n (.string ⟨#[120]⟩) (.int .u8 0) (.slice (some ⟨s0, 0, none⟩) 1 1)
      rw [Hep.out] at L A
      clear hX hnf
      go_wp2_with fail
      refine L.mono ?_
      rintro e w' ⟨rfl, rfl⟩
      go_wp2_with fail
      refine A.mono ?_
      rintro e w5 ⟨rfl, hb5⟩
      have Hb5 := Lib.hid (below_then hbe.out hbe.out.size hb5); clear hb5
      go_wp2_with fail
      go_roundw
      case rel => exact ⟨j + 1, by omega, by go_num, Hb5⟩
      case measure => simp [intOf]; omega
    · have hj3 : j = 2 := by omega
      subst hj3
      go_wp2_with fail
      refine (flash_new 8 (by omega) (by omega) wr).mono ?_
      rintro e w6 ⟨b, bc, o, rfl, hf6, hb6, hb, hbc⟩
      have HF6 := Lib.hid hf6
      have hlt6 := hf6.lt
      have Hlt6 := Lib.hid hlt6
      have Hwr := Lib.hid (show Below w.heap.size w wr from Hb0.out.trans (hbe.out.mono Hb0.out.size))
      have Hb6 := Lib.hid (below_then Hwr.out Hwr.out.size hb6)
      have hbg : w.heap.size ≤ b ∧ w.heap.size ≤ bc := ⟨Nat.le_trans Hwr.out.size hb, Nat.le_trans Hwr.out.size hbc⟩
      have Hbg := Lib.hid hbg; clear hbg
      have hc0 : (Fl.new 8).cells.length = 2048 := by kernel_rfl
      clear hlt6 hb6
      have LB := dict_load_bad (.pointer (some ⟨b, 0, none⟩)) k n w6 Hbad.out
      clear hf6
      go_wp2_with fail
      refine LB.mono ?_
      rintro e w7 ⟨rfl, hw7⟩
      have hb7 : Below w6.heap.size w6 w7 := by rw [← hw7]; exact Below.refl _ _
      clear hw7
      have HF7 := Lib.hid (HF6.out.below hb7)
      have Hs7 := Lib.hid hb7.size
      have Hb7 := Lib.hid (below_then Hb6.out Hb6.out.size hb7)
      clear hb7
      have AP := dict_append (S := fun _ => False) w7 b bc o (Fl.new 8) HF7.out rfl rfl 0 64 rfl rfl (by rw [hc0]; omega) (by rw [hc0]; omega) (.agg #[.string ⟨#[120]⟩, .int .u8 0, .slice none 0 0]) xw ⟨_, rfl, ⟨none, 0, rfl, Nat.le_refl _, Row.none_ _ _ _⟩⟩ (fun z hz => hz.elim) (fun j hj => by
        have h1 := Hlt6.out
        have h2 := Hs7.out
        rcases hj with rfl | rfl <;> omega) (by decide)
      rw [nn_app, nn_seg, nn_words] at AP
      go_wp2_with fail
      refine AP.mono ?_
      rintro e w8 ⟨hf8, ho8, hr8⟩
      rw [if_neg (by decide)] at hr8
      subst hr8
      have Hb8 := Lib.hid (show Below w.heap.size w w8 from ⟨ho8.os.trans Hb7.out.os, ho8.tape.trans Hb7.out.tape, ho8.output.trans Hb7.out.output, Nat.le_trans Hb7.out.size ho8.size, fun j hj => (ho8.block j (Nat.lt_of_lt_of_le hj Hb7.out.size) (fun h => by have h1 := Hbg.out; rcases h with rfl | rfl <;> omega)).trans (Hb7.out.block j hj)⟩)
      clear hf8 ho8
      go_wp2_with fail
      refine (law_awake w8).mono ?_
      rintro e w9 ⟨rfl, hb9⟩
      have Hb9 := Lib.hid (below_then Hb8.out Hb8.out.size hb9)
      clear hb9
      go_wp2_with fail
      go_ret
      exact ⟨rfl, Hb9.out⟩
set_option maxRecDepth 100000 in
set_option maxHeartbeats 4000000 in
theorem none_v3 (k n : Int) (h1 : 0 ≤ k) (h2 : n < 0) (w : World) : Calls Try.prog 6 #[.int .i64 k, .int .i64 n] w fun e w' => e = .returned (.bool true) ∧ Below w.heap.size w w' := by
  have hep : errP k n = 2 := by unfold errP; first | rw [if_pos (by omega)] | rw [if_neg (by omega)]
  have Hbad := Lib.hid (show k < 0 ∨ n < 0 ∨ k % 4 ≠ 0 ∨ n % 4 ≠ 0 from by omega)
  have h1' : ¬ 0 ≤ n := by omega
  have Hep := Lib.hid hep; clear hep
  have Hwd := Lib.hid zeroWord
  have hbX : Blk ((((w.alloc (.cells #[.int .u32 101] 51)).alloc (.cells #[.string ⟨#[120]⟩, .int .u8 0, .slice (some ⟨w.heap.size, 0, none⟩) 1 1] 25)).alloc (.cells #[.slice none 0 0, .slice none 0 0, .pointer none, .bool false] 56)).alloc (.cells #[.pointer none, .pointer (some ⟨w.heap.size + 1 + 1, 0, none⟩)] 33)) (w.heap.size + 1) 25 #[.string ⟨#[120]⟩, .int .u8 0, .slice (some ⟨w.heap.size, 0, none⟩) 1 1] := by
    have := Blk.new (w.alloc (.cells #[.int .u32 101] 51)) 25 #[.string ⟨#[120]⟩, .int .u8 0, .slice (some ⟨w.heap.size, 0, none⟩) 1 1]
    rw [World.size_alloc] at this
    exact (this.alloc _).alloc _
  have hbZ : Blk ((((w.alloc (.cells #[.int .u32 101] 51)).alloc (.cells #[.string ⟨#[120]⟩, .int .u8 0, .slice (some ⟨w.heap.size, 0, none⟩) 1 1] 25)).alloc (.cells #[.slice none 0 0, .slice none 0 0, .pointer none, .bool false] 56)).alloc (.cells #[.pointer none, .pointer (some ⟨w.heap.size + 1 + 1, 0, none⟩)] 33)) (w.heap.size + 1 + 1) 56 #[.slice none 0 0, .slice none 0 0, .pointer none, .bool false] := by
    have := Blk.new ((w.alloc (.cells #[.int .u32 101] 51)).alloc (.cells #[.string ⟨#[120]⟩, .int .u8 0, .slice (some ⟨w.heap.size, 0, none⟩) 1 1] 25)) 56 #[.slice none 0 0, .slice none 0 0, .pointer none, .bool false]
    rw [World.size_alloc, World.size_alloc] at this
    exact this.alloc _
  have hbR : Blk ((((w.alloc (.cells #[.int .u32 101] 51)).alloc (.cells #[.string ⟨#[120]⟩, .int .u8 0, .slice (some ⟨w.heap.size, 0, none⟩) 1 1] 25)).alloc (.cells #[.slice none 0 0, .slice none 0 0, .pointer none, .bool false] 56)).alloc (.cells #[.pointer none, .pointer (some ⟨w.heap.size + 1 + 1, 0, none⟩)] 33)) (w.heap.size + 1 + 1 + 1) 33 #[.pointer none, .pointer (some ⟨w.heap.size + 1 + 1, 0, none⟩)] := by
    have := Blk.new (((w.alloc (.cells #[.int .u32 101] 51)).alloc (.cells #[.string ⟨#[120]⟩, .int .u8 0, .slice (some ⟨w.heap.size, 0, none⟩) 1 1] 25)).alloc (.cells #[.slice none 0 0, .slice none 0 0, .pointer none, .bool false] 56)) 33 #[.pointer none, .pointer (some ⟨w.heap.size + 1 + 1, 0, none⟩)]
    rwa [World.size_alloc, World.size_alloc, World.size_alloc] at this
  have Hb0 := Lib.hid (show Below w.heap.size w ((((w.alloc (.cells #[.int .u32 101] 51)).alloc (.cells #[.string ⟨#[120]⟩, .int .u8 0, .slice (some ⟨w.heap.size, 0, none⟩) 1 1] 25)).alloc (.cells #[.slice none 0 0, .slice none 0 0, .pointer none, .bool false] 56)).alloc (.cells #[.pointer none, .pointer (some ⟨w.heap.size + 1 + 1, 0, none⟩)] 33)) from ((((Below.refl _ w).alloc (Nat.le_refl _) _).alloc (by simp) _).alloc (by simp; omega) _).alloc (by simp; omega) _)
  have HX := Lib.hid hbX
  have HZ := Lib.hid hbZ
  have HR := Lib.hid hbR
  clear hbX hbZ hbR
  go_enter Try.func6, Try.ntmps6
  go_wp2_with fail
  generalize ((((w.alloc (.cells #[.int .u32 101] 51)).alloc (.cells #[.string ⟨#[120]⟩, .int .u8 0, .slice (some ⟨w.heap.size, 0, none⟩) 1 1] 25)).alloc (.cells #[.slice none 0 0, .slice none 0 0, .pointer none, .bool false] 56)).alloc (.cells #[.pointer none, .pointer (some ⟨w.heap.size + 1 + 1, 0, none⟩)] 33)) = wl at *
  obtain ⟨s0, hs0⟩ : ∃ s0, s0 = w.heap.size := ⟨_, rfl⟩
  rw [← hs0] at HX HZ HR ⊢
  have Hs0 := Lib.hid hs0; clear hs0
  go_loopw [45] (fun i wr => ∃ j : Nat, j ≤ 2 ∧ i = .int .i64 j ∧ Hid (Below wl.heap.size wl wr)) (fun i _ => 2 - (intOf i).toNat)
  case atStart => exact ⟨0, by omega, rfl, Below.refl _ _⟩
  case round =>
    obtain ⟨j, hj, rfl, hbe⟩ := hrel
    by_cases hj2 : j < 2
    · obtain ⟨pf, hpf, hnf⟩ : ∃ pf, wr.cell? ⟨s0 + 1 + 1 + 1, j, none⟩ = some pf ∧ NoFlash wr pf := by
        have hR := HR.out.below hbe.out HR.out.lt
        rcases (show j = 0 ∨ j = 1 by omega) with rfl | rfl
        · exact ⟨_, hR.cellv (j := 0) rfl, noFlash_nil _⟩
        · exact ⟨_, hR.cellv (j := 1) rfl, noFlash_zero wr _ _ _ _ _ (HZ.out.below hbe.out HZ.out.lt)⟩
      have hX := HX.out.below hbe.out HX.out.lt
      have q0 := hX.cellv (j := 0) rfl
      have q1 := hX.cellv (j := 1) rfl
      have q2 := hX.cellv (j := 2) rfl
      simp only [List.getElem_toArray, List.getElem_cons_zero, List.getElem_cons_succ] at q0 q1 q2
      have L := load_none wr pf hnf k n
      have A := append_none wr pf hnf k n (.string ⟨#[120]⟩) (.int .u8 0) (.slice (some ⟨s0, 0, none⟩) 1 1)
      rw [Hep.out] at L A
      clear hX hnf
      go_wp2_with fail
      refine L.mono ?_
      rintro e w' ⟨rfl, rfl⟩
      go_wp2_with fail
      refine A.mono ?_
      rintro e w5 ⟨rfl, hb5⟩
      have Hb5 := Lib.hid (below_then hbe.out hbe.out.size hb5); clear hb5
      go_wp2_with fail
      go_roundw
      case rel => exact ⟨j + 1, by omega, by go_num, Hb5⟩
      case measure => simp [intOf]; omega
    · have hj3 : j = 2 := by omega
      subst hj3
      go_wp2_with fail
      refine (flash_new 8 (by omega) (by omega) wr).mono ?_
      rintro e w6 ⟨b, bc, o, rfl, hf6, hb6, hb, hbc⟩
      have HF6 := Lib.hid hf6
      have hlt6 := hf6.lt
      have Hlt6 := Lib.hid hlt6
      have Hwr := Lib.hid (show Below w.heap.size w wr from Hb0.out.trans (hbe.out.mono Hb0.out.size))
      have Hb6 := Lib.hid (below_then Hwr.out Hwr.out.size hb6)
      have hbg : w.heap.size ≤ b ∧ w.heap.size ≤ bc := ⟨Nat.le_trans Hwr.out.size hb, Nat.le_trans Hwr.out.size hbc⟩
      have Hbg := Lib.hid hbg; clear hbg
      have hc0 : (Fl.new 8).cells.length = 2048 := by kernel_rfl
      clear hlt6 hb6
      have LB := dict_load_bad (.pointer (some ⟨b, 0, none⟩)) k n w6 Hbad.out
      clear hf6
      go_wp2_with fail
      refine LB.mono ?_
      rintro e w7 ⟨rfl, hw7⟩
      have hb7 : Below w6.heap.size w6 w7 := by rw [← hw7]; exact Below.refl _ _
      clear hw7
      have HF7 := Lib.hid (HF6.out.below hb7)
      have Hs7 := Lib.hid hb7.size
      have Hb7 := Lib.hid (below_then Hb6.out Hb6.out.size hb7)
      clear hb7
      have AP := dict_append (S := fun _ => False) w7 b bc o (Fl.new 8) HF7.out rfl rfl 0 64 rfl rfl (by rw [hc0]; omega) (by rw [hc0]; omega) (.agg #[.string ⟨#[120]⟩, .int .u8 0, .slice none 0 0]) xw ⟨_, rfl, ⟨none, 0, rfl, Nat.le_refl _, Row.none_ _ _ _⟩⟩ (fun z hz => hz.elim) (fun j hj => by
        have h1 := Hlt6.out
        have h2 := Hs7.out
        rcases hj with rfl | rfl <;> omega) (by decide)
      rw [nn_app, nn_seg, nn_words] at AP
      go_wp2_with fail
      refine AP.mono ?_
      rintro e w8 ⟨hf8, ho8, hr8⟩
      rw [if_neg (by decide)] at hr8
      subst hr8
      have Hb8 := Lib.hid (show Below w.heap.size w w8 from ⟨ho8.os.trans Hb7.out.os, ho8.tape.trans Hb7.out.tape, ho8.output.trans Hb7.out.output, Nat.le_trans Hb7.out.size ho8.size, fun j hj => (ho8.block j (Nat.lt_of_lt_of_le hj Hb7.out.size) (fun h => by have h1 := Hbg.out; rcases h with rfl | rfl <;> omega)).trans (Hb7.out.block j hj)⟩)
      clear hf8 ho8
      go_wp2_with fail
      refine (law_awake w8).mono ?_
      rintro e w9 ⟨rfl, hb9⟩
      have Hb9 := Lib.hid (below_then Hb8.out Hb8.out.size hb9)
      clear hb9
      go_wp2_with fail
      go_ret
      exact ⟨rfl, Hb9.out⟩
set_option maxRecDepth 100000 in
set_option maxHeartbeats 4000000 in
theorem none_v4 (k n : Int) (h1 : 0 ≤ k) (h2 : 0 ≤ n) (h3 : ¬ k % 4 = 0) (w : World) : Calls Try.prog 6 #[.int .i64 k, .int .i64 n] w fun e w' => e = .returned (.bool true) ∧ Below w.heap.size w w' := by
  have hep : errP k n = 2 := by unfold errP; first | rw [if_pos (by omega)] | rw [if_neg (by omega)]
  have Hbad := Lib.hid (show k < 0 ∨ n < 0 ∨ k % 4 ≠ 0 ∨ n % 4 ≠ 0 from by omega)
  have h3' : (k % 4 == 0) = false := by simp; omega
  have Hep := Lib.hid hep; clear hep
  have Hwd := Lib.hid zeroWord
  have hbX : Blk ((((w.alloc (.cells #[.int .u32 101] 51)).alloc (.cells #[.string ⟨#[120]⟩, .int .u8 0, .slice (some ⟨w.heap.size, 0, none⟩) 1 1] 25)).alloc (.cells #[.slice none 0 0, .slice none 0 0, .pointer none, .bool false] 56)).alloc (.cells #[.pointer none, .pointer (some ⟨w.heap.size + 1 + 1, 0, none⟩)] 33)) (w.heap.size + 1) 25 #[.string ⟨#[120]⟩, .int .u8 0, .slice (some ⟨w.heap.size, 0, none⟩) 1 1] := by
    have := Blk.new (w.alloc (.cells #[.int .u32 101] 51)) 25 #[.string ⟨#[120]⟩, .int .u8 0, .slice (some ⟨w.heap.size, 0, none⟩) 1 1]
    rw [World.size_alloc] at this
    exact (this.alloc _).alloc _
  have hbZ : Blk ((((w.alloc (.cells #[.int .u32 101] 51)).alloc (.cells #[.string ⟨#[120]⟩, .int .u8 0, .slice (some ⟨w.heap.size, 0, none⟩) 1 1] 25)).alloc (.cells #[.slice none 0 0, .slice none 0 0, .pointer none, .bool false] 56)).alloc (.cells #[.pointer none, .pointer (some ⟨w.heap.size + 1 + 1, 0, none⟩)] 33)) (w.heap.size + 1 + 1) 56 #[.slice none 0 0, .slice none 0 0, .pointer none, .bool false] := by
    have := Blk.new ((w.alloc (.cells #[.int .u32 101] 51)).alloc (.cells #[.string ⟨#[120]⟩, .int .u8 0, .slice (some ⟨w.heap.size, 0, none⟩) 1 1] 25)) 56 #[.slice none 0 0, .slice none 0 0, .pointer none, .bool false]
    rw [World.size_alloc, World.size_alloc] at this
    exact this.alloc _
  have hbR : Blk ((((w.alloc (.cells #[.int .u32 101] 51)).alloc (.cells #[.string ⟨#[120]⟩, .int .u8 0, .slice (some ⟨w.heap.size, 0, none⟩) 1 1] 25)).alloc (.cells #[.slice none 0 0, .slice none 0 0, .pointer none, .bool false] 56)).alloc (.cells #[.pointer none, .pointer (some ⟨w.heap.size + 1 + 1, 0, none⟩)] 33)) (w.heap.size + 1 + 1 + 1) 33 #[.pointer none, .pointer (some ⟨w.heap.size + 1 + 1, 0, none⟩)] := by
    have := Blk.new (((w.alloc (.cells #[.int .u32 101] 51)).alloc (.cells #[.string ⟨#[120]⟩, .int .u8 0, .slice (some ⟨w.heap.size, 0, none⟩) 1 1] 25)).alloc (.cells #[.slice none 0 0, .slice none 0 0, .pointer none, .bool false] 56)) 33 #[.pointer none, .pointer (some ⟨w.heap.size + 1 + 1, 0, none⟩)]
    rwa [World.size_alloc, World.size_alloc, World.size_alloc] at this
  have Hb0 := Lib.hid (show Below w.heap.size w ((((w.alloc (.cells #[.int .u32 101] 51)).alloc (.cells #[.string ⟨#[120]⟩, .int .u8 0, .slice (some ⟨w.heap.size, 0, none⟩) 1 1] 25)).alloc (.cells #[.slice none 0 0, .slice none 0 0, .pointer none, .bool false] 56)).alloc (.cells #[.pointer none, .pointer (some ⟨w.heap.size + 1 + 1, 0, none⟩)] 33)) from ((((Below.refl _ w).alloc (Nat.le_refl _) _).alloc (by simp) _).alloc (by simp; omega) _).alloc (by simp; omega) _)
  have HX := Lib.hid hbX
  have HZ := Lib.hid hbZ
  have HR := Lib.hid hbR
  clear hbX hbZ hbR
  go_enter Try.func6, Try.ntmps6
  go_wp2_with fail
  clear h3 h3'
  generalize ((((w.alloc (.cells #[.int .u32 101] 51)).alloc (.cells #[.string ⟨#[120]⟩, .int .u8 0, .slice (some ⟨w.heap.size, 0, none⟩) 1 1] 25)).alloc (.cells #[.slice none 0 0, .slice none 0 0, .pointer none, .bool false] 56)).alloc (.cells #[.pointer none, .pointer (some ⟨w.heap.size + 1 + 1, 0, none⟩)] 33)) = wl at *
  obtain ⟨s0, hs0⟩ : ∃ s0, s0 = w.heap.size := ⟨_, rfl⟩
  rw [← hs0] at HX HZ HR ⊢
  have Hs0 := Lib.hid hs0; clear hs0
  go_loopw [45] (fun i wr => ∃ j : Nat, j ≤ 2 ∧ i = .int .i64 j ∧ Hid (Below wl.heap.size wl wr)) (fun i _ => 2 - (intOf i).toNat)
  case atStart => exact ⟨0, by omega, rfl, Below.refl _ _⟩
  case round =>
    obtain ⟨j, hj, rfl, hbe⟩ := hrel
    by_cases hj2 : j < 2
    · obtain ⟨pf, hpf, hnf⟩ : ∃ pf, wr.cell? ⟨s0 + 1 + 1 + 1, j, none⟩ = some pf ∧ NoFlash wr pf := by
        have hR := HR.out.below hbe.out HR.out.lt
        rcases (show j = 0 ∨ j = 1 by omega) with rfl | rfl
        · exact ⟨_, hR.cellv (j := 0) rfl, noFlash_nil _⟩
        · exact ⟨_, hR.cellv (j := 1) rfl, noFlash_zero wr _ _ _ _ _ (HZ.out.below hbe.out HZ.out.lt)⟩
      have hX := HX.out.below hbe.out HX.out.lt
      have q0 := hX.cellv (j := 0) rfl
      have q1 := hX.cellv (j := 1) rfl
      have q2 := hX.cellv (j := 2) rfl
      simp only [List.getElem_toArray, List.getElem_cons_zero, List.getElem_cons_succ] at q0 q1 q2
      have L := load_none wr pf hnf k n
      have A := append_none wr pf hnf k n (.string ⟨#[120]⟩) (.int .u8 0) (.slice (some ⟨s0, 0, none⟩) 1 1)
      rw [Hep.out] at L A
      clear hX hnf
      go_wp2_with fail
      refine L.mono ?_
      rintro e w' ⟨rfl, rfl⟩
      go_wp2_with fail
      refine A.mono ?_
      rintro e w5 ⟨rfl, hb5⟩
      have Hb5 := Lib.hid (below_then hbe.out hbe.out.size hb5); clear hb5
      go_wp2_with fail
      go_roundw
      case rel => exact ⟨j + 1, by omega, by go_num, Hb5⟩
      case measure => simp [intOf]; omega
    · have hj3 : j = 2 := by omega
      subst hj3
      go_wp2_with fail
      refine (flash_new 8 (by omega) (by omega) wr).mono ?_
      rintro e w6 ⟨b, bc, o, rfl, hf6, hb6, hb, hbc⟩
      have HF6 := Lib.hid hf6
      have hlt6 := hf6.lt
      have Hlt6 := Lib.hid hlt6
      have Hwr := Lib.hid (show Below w.heap.size w wr from Hb0.out.trans (hbe.out.mono Hb0.out.size))
      have Hb6 := Lib.hid (below_then Hwr.out Hwr.out.size hb6)
      have hbg : w.heap.size ≤ b ∧ w.heap.size ≤ bc := ⟨Nat.le_trans Hwr.out.size hb, Nat.le_trans Hwr.out.size hbc⟩
      have Hbg := Lib.hid hbg; clear hbg
      have hc0 : (Fl.new 8).cells.length = 2048 := by kernel_rfl
      clear hlt6 hb6
      have LB := dict_load_bad (.pointer (some ⟨b, 0, none⟩)) k n w6 Hbad.out
      clear hf6
      go_wp2_with fail
      refine LB.mono ?_
      rintro e w7 ⟨rfl, hw7⟩
      have hb7 : Below w6.heap.size w6 w7 := by rw [← hw7]; exact Below.refl _ _
      clear hw7
      have HF7 := Lib.hid (HF6.out.below hb7)
      have Hs7 := Lib.hid hb7.size
      have Hb7 := Lib.hid (below_then Hb6.out Hb6.out.size hb7)
      clear hb7
      have AP := dict_append (S := fun _ => False) w7 b bc o (Fl.new 8) HF7.out rfl rfl 0 64 rfl rfl (by rw [hc0]; omega) (by rw [hc0]; omega) (.agg #[.string ⟨#[120]⟩, .int .u8 0, .slice none 0 0]) xw ⟨_, rfl, ⟨none, 0, rfl, Nat.le_refl _, Row.none_ _ _ _⟩⟩ (fun z hz => hz.elim) (fun j hj => by
        have h1 := Hlt6.out
        have h2 := Hs7.out
        rcases hj with rfl | rfl <;> omega) (by decide)
      rw [nn_app, nn_seg, nn_words] at AP
      go_wp2_with fail
      refine AP.mono ?_
      rintro e w8 ⟨hf8, ho8, hr8⟩
      rw [if_neg (by decide)] at hr8
      subst hr8
      have Hb8 := Lib.hid (show Below w.heap.size w w8 from ⟨ho8.os.trans Hb7.out.os, ho8.tape.trans Hb7.out.tape, ho8.output.trans Hb7.out.output, Nat.le_trans Hb7.out.size ho8.size, fun j hj => (ho8.block j (Nat.lt_of_lt_of_le hj Hb7.out.size) (fun h => by have h1 := Hbg.out; rcases h with rfl | rfl <;> omega)).trans (Hb7.out.block j hj)⟩)
      clear hf8 ho8
      go_wp2_with fail
      refine (law_awake w8).mono ?_
      rintro e w9 ⟨rfl, hb9⟩
      have Hb9 := Lib.hid (below_then Hb8.out Hb8.out.size hb9)
      clear hb9
      go_wp2_with fail
      go_ret
      exact ⟨rfl, Hb9.out⟩
set_option maxRecDepth 100000 in
set_option maxHeartbeats 4000000 in
theorem none_v5 (k n : Int) (h1 : 0 ≤ k) (h2 : 0 ≤ n) (h3 : k % 4 = 0) (h4 : ¬ n % 4 = 0) (w : World) : Calls Try.prog 6 #[.int .i64 k, .int .i64 n] w fun e w' => e = .returned (.bool true) ∧ Below w.heap.size w w' := by
  have hep : errP k n = 2 := by unfold errP; first | rw [if_pos (by omega)] | rw [if_neg (by omega)]
  have Hbad := Lib.hid (show k < 0 ∨ n < 0 ∨ k % 4 ≠ 0 ∨ n % 4 ≠ 0 from by omega)
  have h3' : (k % 4 == 0) = true := by simp; omega
  have h4' : (n % 4 == 0) = false := by simp; omega
  have Hep := Lib.hid hep; clear hep
  have Hwd := Lib.hid zeroWord
  have hbX : Blk ((((w.alloc (.cells #[.int .u32 101] 51)).alloc (.cells #[.string ⟨#[120]⟩, .int .u8 0, .slice (some ⟨w.heap.size, 0, none⟩) 1 1] 25)).alloc (.cells #[.slice none 0 0, .slice none 0 0, .pointer none, .bool false] 56)).alloc (.cells #[.pointer none, .pointer (some ⟨w.heap.size + 1 + 1, 0, none⟩)] 33)) (w.heap.size + 1) 25 #[.string ⟨#[120]⟩, .int .u8 0, .slice (some ⟨w.heap.size, 0, none⟩) 1 1] := by
    have := Blk.new (w.alloc (.cells #[.int .u32 101] 51)) 25 #[.string ⟨#[120]⟩, .int .u8 0, .slice (some ⟨w.heap.size, 0, none⟩) 1 1]
    rw [World.size_alloc] at this
    exact (this.alloc _).alloc _
  have hbZ : Blk ((((w.alloc (.cells #[.int .u32 101] 51)).alloc (.cells #[.string ⟨#[120]⟩, .int .u8 0, .slice (some ⟨w.heap.size, 0, none⟩) 1 1] 25)).alloc (.cells #[.slice none 0 0, .slice none 0 0, .pointer none, .bool false] 56)).alloc (.cells #[.pointer none, .pointer (some ⟨w.heap.size + 1 + 1, 0, none⟩)] 33)) (w.heap.size + 1 + 1) 56 #[.slice none 0 0, .slice none 0 0, .pointer none, .bool false] := by
    have := Blk.new ((w.alloc (.cells #[.int .u32 101] 51)).alloc (.cells #[.string ⟨#[120]⟩, .int .u8 0, .slice (some ⟨w.heap.size, 0, none⟩) 1 1] 25)) 56 #[.slice none 0 0, .slice none 0 0, .pointer none, .bool false]
    rw [World.size_alloc, World.size_alloc] at this
    exact this.alloc _
  have hbR : Blk ((((w.alloc (.cells #[.int .u32 101] 51)).alloc (.cells #[.string ⟨#[120]⟩, .int .u8 0, .slice (some ⟨w.heap.size, 0, none⟩) 1 1] 25)).alloc (.cells #[.slice none 0 0, .slice none 0 0, .pointer none, .bool false] 56)).alloc (.cells #[.pointer none, .pointer (some ⟨w.heap.size + 1 + 1, 0, none⟩)] 33)) (w.heap.size + 1 + 1 + 1) 33 #[.pointer none, .pointer (some ⟨w.heap.size + 1 + 1, 0, none⟩)] := by
    have := Blk.new (((w.alloc (.cells #[.int .u32 101] 51)).alloc (.cells #[.string ⟨#[120]⟩, .int .u8 0, .slice (some ⟨w.heap.size, 0, none⟩) 1 1] 25)).alloc (.cells #[.slice none 0 0, .slice none 0 0, .pointer none, .bool false] 56)) 33 #[.pointer none, .pointer (some ⟨w.heap.size + 1 + 1, 0, none⟩)]
    rwa [World.size_alloc, World.size_alloc, World.size_alloc] at this
  have Hb0 := Lib.hid (show Below w.heap.size w ((((w.alloc (.cells #[.int .u32 101] 51)).alloc (.cells #[.string ⟨#[120]⟩, .int .u8 0, .slice (some ⟨w.heap.size, 0, none⟩) 1 1] 25)).alloc (.cells #[.slice none 0 0, .slice none 0 0, .pointer none, .bool false] 56)).alloc (.cells #[.pointer none, .pointer (some ⟨w.heap.size + 1 + 1, 0, none⟩)] 33)) from ((((Below.refl _ w).alloc (Nat.le_refl _) _).alloc (by simp) _).alloc (by simp; omega) _).alloc (by simp; omega) _)
  have HX := Lib.hid hbX
  have HZ := Lib.hid hbZ
  have HR := Lib.hid hbR
  clear hbX hbZ hbR
  go_enter Try.func6, Try.ntmps6
  go_wp2_with fail
  clear h3 h3' h4 h4'
  generalize ((((w.alloc (.cells #[.int .u32 101] 51)).alloc (.cells #[.string ⟨#[120]⟩, .int .u8 0, .slice (some ⟨w.heap.size, 0, none⟩) 1 1] 25)).alloc (.cells #[.slice none 0 0, .slice none 0 0, .pointer none, .bool false] 56)).alloc (.cells #[.pointer none, .pointer (some ⟨w.heap.size + 1 + 1, 0, none⟩)] 33)) = wl at *
  obtain ⟨s0, hs0⟩ : ∃ s0, s0 = w.heap.size := ⟨_, rfl⟩
  rw [← hs0] at HX HZ HR ⊢
  have Hs0 := Lib.hid hs0; clear hs0
  go_loopw [45] (fun i wr => ∃ j : Nat, j ≤ 2 ∧ i = .int .i64 j ∧ Hid (Below wl.heap.size wl wr)) (fun i _ => 2 - (intOf i).toNat)
  case atStart => exact ⟨0, by omega, rfl, Below.refl _ _⟩
  case round =>
    obtain ⟨j, hj, rfl, hbe⟩ := hrel
    by_cases hj2 : j < 2
    · obtain ⟨pf, hpf, hnf⟩ : ∃ pf, wr.cell? ⟨s0 + 1 + 1 + 1, j, none⟩ = some pf ∧ NoFlash wr pf := by
        have hR := HR.out.below hbe.out HR.out.lt
        rcases (show j = 0 ∨ j = 1 by omega) with rfl | rfl
        · exact ⟨_, hR.cellv (j := 0) rfl, noFlash_nil _⟩
        · exact ⟨_, hR.cellv (j := 1) rfl, noFlash_zero wr _ _ _ _ _ (HZ.out.below hbe.out HZ.out.lt)⟩
      have hX := HX.out.below hbe.out HX.out.lt
      have q0 := hX.cellv (j := 0) rfl
      have q1 := hX.cellv (j := 1) rfl
      have q2 := hX.cellv (j := 2) rfl
      simp only [List.getElem_toArray, List.getElem_cons_zero, List.getElem_cons_succ] at q0 q1 q2
      have L := load_none wr pf hnf k n
      have A := append_none wr pf hnf k n (.string ⟨#[120]⟩) (.int .u8 0) (.slice (some ⟨s0, 0, none⟩) 1 1)
      rw [Hep.out] at L A
      clear hX hnf
      go_wp2_with fail
      refine L.mono ?_
      rintro e w' ⟨rfl, rfl⟩
      go_wp2_with fail
      refine A.mono ?_
      rintro e w5 ⟨rfl, hb5⟩
      have Hb5 := Lib.hid (below_then hbe.out hbe.out.size hb5); clear hb5
      go_wp2_with fail
      refine ⟨?_, ?measure⟩
      iterate 60 (first | apply Exists.intro | skip)
      refine ⟨show j + 1 ≤ 2 by omega, by go_num, Hb5⟩
      case measure => simp [intOf]; omega
    · have hj3 : j = 2 := by omega
      subst hj3
      go_wp2_with fail
      refine (flash_new 8 (by omega) (by omega) wr).mono ?_
      rintro e w6 ⟨b, bc, o, rfl, hf6, hb6, hb, hbc⟩
      have HF6 := Lib.hid hf6
      have hlt6 := hf6.lt
      have Hlt6 := Lib.hid hlt6
      have Hwr := Lib.hid (show Below w.heap.size w wr from Hb0.out.trans (hbe.out.mono Hb0.out.size))
      have Hb6 := Lib.hid (below_then Hwr.out Hwr.out.size hb6)
      have hbg : w.heap.size ≤ b ∧ w.heap.size ≤ bc := ⟨Nat.le_trans Hwr.out.size hb, Nat.le_trans Hwr.out.size hbc⟩
      have Hbg := Lib.hid hbg; clear hbg
      have hc0 : (Fl.new 8).cells.length = 2048 := by kernel_rfl
      clear hlt6 hb6
      have LB := dict_load_bad (.pointer (some ⟨b, 0, none⟩)) k n w6 Hbad.out
      clear hf6
      go_wp2_with fail
      refine LB.mono ?_
      rintro e w7 ⟨rfl, hw7⟩
      have hb7 : Below w6.heap.size w6 w7 := by rw [← hw7]; exact Below.refl _ _
      clear hw7
      have HF7 := Lib.hid (HF6.out.below hb7)
      have Hs7 := Lib.hid hb7.size
      have Hb7 := Lib.hid (below_then Hb6.out Hb6.out.size hb7)
      clear hb7
      have AP := dict_append (S := fun _ => False) w7 b bc o (Fl.new 8) HF7.out rfl rfl 0 64 rfl rfl (by rw [hc0]; omega) (by rw [hc0]; omega) (.agg #[.string ⟨#[120]⟩, .int .u8 0, .slice none 0 0]) xw ⟨_, rfl, ⟨none, 0, rfl, Nat.le_refl _, Row.none_ _ _ _⟩⟩ (fun z hz => hz.elim) (fun j hj => by
        have h1 := Hlt6.out
        have h2 := Hs7.out
        rcases hj with rfl | rfl <;> omega) (by decide)
      rw [nn_app, nn_seg, nn_words] at AP
      go_wp2_with fail
      refine AP.mono ?_
      rintro e w8 ⟨hf8, ho8, hr8⟩
      rw [if_neg (by decide)] at hr8
      subst hr8
      have Hb8 := Lib.hid (show Below w.heap.size w w8 from ⟨ho8.os.trans Hb7.out.os, ho8.tape.trans Hb7.out.tape, ho8.output.trans Hb7.out.output, Nat.le_trans Hb7.out.size ho8.size, fun j hj => (ho8.block j (Nat.lt_of_lt_of_le hj Hb7.out.size) (fun h => by have h1 := Hbg.out; rcases h with rfl | rfl <;> omega)).trans (Hb7.out.block j hj)⟩)
      clear hf8 ho8
      go_wp2_with fail
      refine (law_awake w8).mono ?_
      rintro e w9 ⟨rfl, hb9⟩
      have Hb9 := Lib.hid (below_then Hb8.out Hb8.out.size hb9)
      clear hb9
      go_wp2_with fail
      go_ret
      exact ⟨rfl, Hb9.out⟩
set_option maxRecDepth 100000 in
set_option maxHeartbeats 4000000 in
theorem none_v1a (kn nn : Nat) (hk : kn < 9223372036854775808) (hn : nn < 9223372036854775808) (hk4 : kn % 4 = 0) (hn4 : nn % 4 = 0) (hf : kn + nn ≤ 2048) (w : World) : Calls Try.prog 6 #[.int .i64 kn, .int .i64 nn] w fun e w' => e = .returned (.bool true) ∧ Below w.heap.size w w' := by
  have hep : errP kn nn = 1 := by unfold errP; first | rw [if_pos (by omega)] | rw [if_neg (by omega)]
  have k0 : (0 : Int) ≤ kn := by omega
  have n0 : (0 : Int) ≤ nn := by omega
  have m1 : ((kn : Int) % 4 == 0) = true := by simp; omega
  have m2 : ((nn : Int) % 4 == 0) = true := by simp; omega
  have m1' : (kn : Int) % 4 = 0 := by omega
  have m2' : (nn : Int) % 4 = 0 := by omega
  have g1 : (kn : Int) ≤ 2048 := by omega
  have g2 : (nn : Int) ≤ 2048 - kn := by omega
  have Hep := Lib.hid hep; clear hep
  have Hwd := Lib.hid zeroWord
  have hbX : Blk ((((w.alloc (.cells #[.int .u32 101] 51)).alloc (.cells #[.string ⟨#[120]⟩, .int .u8 0, .slice (some ⟨w.heap.size, 0, none⟩) 1 1] 25)).alloc (.cells #[.slice none 0 0, .slice none 0 0, .pointer none, .bool false] 56)).alloc (.cells #[.pointer none, .pointer (some ⟨w.heap.size + 1 + 1, 0, none⟩)] 33)) (w.heap.size + 1) 25 #[.string ⟨#[120]⟩, .int .u8 0, .slice (some ⟨w.heap.size, 0, none⟩) 1 1] := by
    have := Blk.new (w.alloc (.cells #[.int .u32 101] 51)) 25 #[.string ⟨#[120]⟩, .int .u8 0, .slice (some ⟨w.heap.size, 0, none⟩) 1 1]
    rw [World.size_alloc] at this
    exact (this.alloc _).alloc _
  have hbZ : Blk ((((w.alloc (.cells #[.int .u32 101] 51)).alloc (.cells #[.string ⟨#[120]⟩, .int .u8 0, .slice (some ⟨w.heap.size, 0, none⟩) 1 1] 25)).alloc (.cells #[.slice none 0 0, .slice none 0 0, .pointer none, .bool false] 56)).alloc (.cells #[.pointer none, .pointer (some ⟨w.heap.size + 1 + 1, 0, none⟩)] 33)) (w.heap.size + 1 + 1) 56 #[.slice none 0 0, .slice none 0 0, .pointer none, .bool false] := by
    have := Blk.new ((w.alloc (.cells #[.int .u32 101] 51)).alloc (.cells #[.string ⟨#[120]⟩, .int .u8 0, .slice (some ⟨w.heap.size, 0, none⟩) 1 1] 25)) 56 #[.slice none 0 0, .slice none 0 0, .pointer none, .bool false]
    rw [World.size_alloc, World.size_alloc] at this
    exact this.alloc _
  have hbR : Blk ((((w.alloc (.cells #[.int .u32 101] 51)).alloc (.cells #[.string ⟨#[120]⟩, .int .u8 0, .slice (some ⟨w.heap.size, 0, none⟩) 1 1] 25)).alloc (.cells #[.slice none 0 0, .slice none 0 0, .pointer none, .bool false] 56)).alloc (.cells #[.pointer none, .pointer (some ⟨w.heap.size + 1 + 1, 0, none⟩)] 33)) (w.heap.size + 1 + 1 + 1) 33 #[.pointer none, .pointer (some ⟨w.heap.size + 1 + 1, 0, none⟩)] := by
    have := Blk.new (((w.alloc (.cells #[.int .u32 101] 51)).alloc (.cells #[.string ⟨#[120]⟩, .int .u8 0, .slice (some ⟨w.heap.size, 0, none⟩) 1 1] 25)).alloc (.cells #[.slice none 0 0, .slice none 0 0, .pointer none, .bool false] 56)) 33 #[.pointer none, .pointer (some ⟨w.heap.size + 1 + 1, 0, none⟩)]
    rwa [World.size_alloc, World.size_alloc, World.size_alloc] at this
  have Hb0 := Lib.hid (show Below w.heap.size w ((((w.alloc (.cells #[.int .u32 101] 51)).alloc (.cells #[.string ⟨#[120]⟩, .int .u8 0, .slice (some ⟨w.heap.size, 0, none⟩) 1 1] 25)).alloc (.cells #[.slice none 0 0, .slice none 0 0, .pointer none, .bool false] 56)).alloc (.cells #[.pointer none, .pointer (some ⟨w.heap.size + 1 + 1, 0, none⟩)] 33)) from ((((Below.refl _ w).alloc (Nat.le_refl _) _).alloc (by simp) _).alloc (by simp; omega) _).alloc (by simp; omega) _)
  have HX := Lib.hid hbX
  have HZ := Lib.hid hbZ
  have HR := Lib.hid hbR
  clear hbX hbZ hbR
  go_enter Try.func6, Try.ntmps6
  go_wp2_with fail
  clear m1 m2 m1' m2'
  generalize ((((w.alloc (.cells #[.int .u32 101] 51)).alloc (.cells #[.string ⟨#[120]⟩, .int .u8 0, .slice (some ⟨w.heap.size, 0, none⟩) 1 1] 25)).alloc (.cells #[.slice none 0 0, .slice none 0 0, .pointer none, .bool false] 56)).alloc (.cells #[.pointer none, .pointer (some ⟨w.heap.size + 1 + 1, 0, none⟩)] 33)) = wl at *
  obtain ⟨s0, hs0⟩ : ∃ s0, s0 = w.heap.size := ⟨_, rfl⟩
  rw [← hs0] at HX HZ HR ⊢
  have Hs0 := Lib.hid hs0; clear hs0
  go_loopw [45] (fun i wr => ∃ j : Nat, j ≤ 2 ∧ i = .int .i64 j ∧ Hid (Below wl.heap.size wl wr)) (fun i _ => 2 - (intOf i).toNat)
  case atStart => exact ⟨0, by omega, rfl, Below.refl _ _⟩
  case round =>
    obtain ⟨j, hj, rfl, hbe⟩ := hrel
    by_cases hj2 : j < 2
    · obtain ⟨pf, hpf, hnf⟩ : ∃ pf, wr.cell? ⟨s0 + 1 + 1 + 1, j, none⟩ = some pf ∧ NoFlash wr pf := by
        have hR := HR.out.below hbe.out HR.out.lt
        rcases (show j = 0 ∨ j = 1 by omega) with rfl | rfl
        · exact ⟨_, hR.cellv (j := 0) rfl, noFlash_nil _⟩
        · exact ⟨_, hR.cellv (j := 1) rfl, noFlash_zero wr _ _ _ _ _ (HZ.out.below hbe.out HZ.out.lt)⟩
      have hX := HX.out.below hbe.out HX.out.lt
      have q0 := hX.cellv (j := 0) rfl
      have q1 := hX.cellv (j := 1) rfl
      have q2 := hX.cellv (j := 2) rfl
      simp only [List.getElem_toArray, List.getElem_cons_zero, List.getElem_cons_succ] at q0 q1 q2
      have L := load_none wr pf hnf kn nn
      have A := append_none wr pf hnf kn nn (.string ⟨#[120]⟩) (.int .u8 0) (.slice (some ⟨s0, 0, none⟩) 1 1)
      rw [Hep.out] at L A
      clear hX hnf
      go_wp2_with fail
      refine L.mono ?_
      rintro e w' ⟨rfl, rfl⟩
      go_wp2_with fail
      refine A.mono ?_
      rintro e w5 ⟨rfl, hb5⟩
      have Hb5 := Lib.hid (below_then hbe.out hbe.out.size hb5); clear hb5
      go_wp2_with fail
      go_roundw
      case rel => exact ⟨j + 1, by omega, by go_num, Hb5⟩
      case measure => simp [intOf]; omega
    · have hj3 : j = 2 := by omega
      subst hj3
      go_wp2_with fail
      refine (flash_new 8 (by omega) (by omega) wr).mono ?_
      rintro e w6 ⟨b, bc, o, rfl, hf6, hb6, hb, hbc⟩
      have HF6 := Lib.hid hf6
      have hlt6 := hf6.lt
      have Hlt6 := Lib.hid hlt6
      have Hwr := Lib.hid (show Below w.heap.size w wr from Hb0.out.trans (hbe.out.mono Hb0.out.size))
      have Hb6 := Lib.hid (below_then Hwr.out Hwr.out.size hb6)
      have hbg : w.heap.size ≤ b ∧ w.heap.size ≤ bc := ⟨Nat.le_trans Hwr.out.size hb, Nat.le_trans Hwr.out.size hbc⟩
      have Hbg := Lib.hid hbg; clear hbg
      have hc0 : (Fl.new 8).cells.length = 2048 := by kernel_rfl
      clear hlt6 hb6
      have LG := dict_load w6 b bc o _ hf6 kn nn (by omega) (by omega) (by omega) (by omega) (by rw [hc0]; omega)
      clear hf6
      go_wp2_with fail
      refine LG.mono ?_
      rintro e w7 ⟨hb7, ⟨hd, rfl⟩ | ⟨hd, hs, rfl⟩ | ⟨hd, hs, v7, rfl, hv7⟩⟩
      · cases hd
      · rw [hc0] at hs; omega
      have hvf : ∃ A m c, v7 = .slice A m c := by obtain ⟨ps, _, ⟨A, c, e, _⟩, _⟩ := hv7; exact ⟨A, _, c, e⟩
      obtain ⟨A7, m7, c7, rfl⟩ := hvf
      obtain ⟨we, hwe⟩ : ∃ we, we = wordsEnd ((Fl.new 8).seg kn nn) := ⟨_, rfl⟩
      rw [← hwe]
      clear hd hs hv7 hwe LG
      have HF7 := Lib.hid (HF6.out.below hb7)
      have Hs7 := Lib.hid hb7.size
      have Hb7 := Lib.hid (below_then Hb6.out Hb6.out.size hb7)
      clear hb7
      have AP := dict_append (S := fun _ => False) w7 b bc o (Fl.new 8) HF7.out rfl rfl 0 64 rfl rfl (by rw [hc0]; omega) (by rw [hc0]; omega) (.agg #[.string ⟨#[120]⟩, .int .u8 0, .slice none 0 0]) xw ⟨_, rfl, ⟨none, 0, rfl, Nat.le_refl _, Row.none_ _ _ _⟩⟩ (fun z hz => hz.elim) (fun j hj => by
        have h1 := Hlt6.out
        have h2 := Hs7.out
        rcases hj with rfl | rfl <;> omega) (by decide)
      rw [nn_app, nn_seg, nn_words] at AP
      go_wp2_with fail
      refine AP.mono ?_
      rintro e w8 ⟨hf8, ho8, hr8⟩
      rw [if_neg (by decide)] at hr8
      subst hr8
      have Hb8 := Lib.hid (show Below w.heap.size w w8 from ⟨ho8.os.trans Hb7.out.os, ho8.tape.trans Hb7.out.tape, ho8.output.trans Hb7.out.output, Nat.le_trans Hb7.out.size ho8.size, fun j hj => (ho8.block j (Nat.lt_of_lt_of_le hj Hb7.out.size) (fun h => by have h1 := Hbg.out; rcases h with rfl | rfl <;> omega)).trans (Hb7.out.block j hj)⟩)
      clear hf8 ho8
      go_wp2_with fail
      refine (law_awake w8).mono ?_
      rintro e w9 ⟨rfl, hb9⟩
      have Hb9 := Lib.hid (below_then Hb8.out Hb8.out.size hb9)
      clear hb9
      go_wp2_with fail
      go_ret
      exact ⟨rfl, Hb9.out⟩
set_option maxRecDepth 100000 in
set_option maxHeartbeats 4000000 in
theorem none_v1b (kn nn : Nat) (hk : kn < 9223372036854775808) (hn : nn < 9223372036854775808) (hk4 : kn % 4 = 0) (hn4 : nn % 4 = 0) (hf : kn ≤ 2048) (hf2 : ¬ kn + nn ≤ 2048) (w : World) : Calls Try.prog 6 #[.int .i64 kn, .int .i64 nn] w fun e w' => e = .returned (.bool true) ∧ Below w.heap.size w w' := by
  have hep : errP kn nn = 1 := by unfold errP; first | rw [if_pos (by omega)] | rw [if_neg (by omega)]
  have k0 : (0 : Int) ≤ kn := by omega
  have n0 : (0 : Int) ≤ nn := by omega
  have m1 : ((kn : Int) % 4 == 0) = true := by simp; omega
  have m2 : ((nn : Int) % 4 == 0) = true := by simp; omega
  have m1' : (kn : Int) % 4 = 0 := by omega
  have m2' : (nn : Int) % 4 = 0 := by omega
  have g1 : (kn : Int) ≤ 2048 := by omega
  have g2 : ¬ (nn : Int) ≤ 2048 - kn := by omega
  have Hep := Lib.hid hep; clear hep
  have Hwd := Lib.hid zeroWord
  have hbX : Blk ((((w.alloc (.cells #[.int .u32 101] 51)).alloc (.cells #[.string ⟨#[120]⟩, .int .u8 0, .slice (some ⟨w.heap.size, 0, none⟩) 1 1] 25)).alloc (.cells #[.slice none 0 0, .slice none 0 0, .pointer none, .bool false] 56)).alloc (.cells #[.pointer none, .pointer (some ⟨w.heap.size + 1 + 1, 0, none⟩)] 33)) (w.heap.size + 1) 25 #[.string ⟨#[120]⟩, .int .u8 0, .slice (some ⟨w.heap.size, 0, none⟩) 1 1] := by
    have := Blk.new (w.alloc (.cells #[.int .u32 101] 51)) 25 #[.string ⟨#[120]⟩, .int .u8 0, .slice (some ⟨w.heap.size, 0, none⟩) 1 1]
    rw [World.size_alloc] at this
    exact (this.alloc _).alloc _
  have hbZ : Blk ((((w.alloc (.cells #[.int .u32 101] 51)).alloc (.cells #[.string ⟨#[120]⟩, .int .u8 0, .slice (some ⟨w.heap.size, 0, none⟩) 1 1] 25)).alloc (.cells #[.slice none 0 0, .slice none 0 0, .pointer none, .bool false] 56)).alloc (.cells #[.pointer none, .pointer (some ⟨w.heap.size + 1 + 1, 0, none⟩)] 33)) (w.heap.size + 1 + 1) 56 #[.slice none 0 0, .slice none 0 0, .pointer none, .bool false] := by
    have := Blk.new ((w.alloc (.cells #[.int .u32 101] 51)).alloc (.cells #[.string ⟨#[120]⟩, .int .u8 0, .slice (some ⟨w.heap.size, 0, none⟩) 1 1] 25)) 56 #[.slice none 0 0, .slice none 0 0, .pointer none, .bool false]
    rw [World.size_alloc, World.size_alloc] at this
    exact this.alloc _
  have hbR : Blk ((((w.alloc (.cells #[.int .u32 101] 51)).alloc (.cells #[.string ⟨#[120]⟩, .int .u8 0, .slice (some ⟨w.heap.size, 0, none⟩) 1 1] 25)).alloc (.cells #[.slice none 0 0, .slice none 0 0, .pointer none, .bool false] 56)).alloc (.cells #[.pointer none, .pointer (some ⟨w.heap.size + 1 + 1, 0, none⟩)] 33)) (w.heap.size + 1 + 1 + 1) 33 #[.pointer none, .pointer (some ⟨w.heap.size + 1 + 1, 0, none⟩)] := by
    have := Blk.new (((w.alloc (.cells #[.int .u32 101] 51)).alloc (.cells #[.string ⟨#[120]⟩, .int .u8 0, .slice (some ⟨w.heap.size, 0, none⟩) 1 1] 25)).alloc (.cells #[.slice none 0 0, .slice none 0 0, .pointer none, .bool false] 56)) 33 #[.pointer none, .pointer (some ⟨w.heap.size + 1 + 1, 0, none⟩)]
    rwa [World.size_alloc, World.size_alloc, World.size_alloc] at this
  have Hb0 := Lib.hid (show Below w.heap.size w ((((w.alloc (.cells #[.int .u32 101] 51)).alloc (.cells #[.string ⟨#[120]⟩, .int .u8 0, .slice (some ⟨w.heap.size, 0, none⟩) 1 1] 25)).alloc (.cells #[.slice none 0 0, .slice none 0 0, .pointer none, .bool false] 56)).alloc (.cells #[.pointer none, .pointer (some ⟨w.heap.size + 1 + 1, 0, none⟩)] 33)) from ((((Below.refl _ w).alloc (Nat.le_refl _) _).alloc (by simp) _).alloc (by simp; omega) _).alloc (by simp; omega) _)
  have HX := Lib.hid hbX
  have HZ := Lib.hid hbZ
  have HR := Lib.hid hbR
  clear hbX hbZ hbR
  go_enter Try.func6, Try.ntmps6
  go_wp2_with fail
  generalize ((((w.alloc (.cells #[.int .u32 101] 51)).alloc (.cells #[.string ⟨#[120]⟩, .int .u8 0, .slice (some ⟨w.heap.size, 0, none⟩) 1 1] 25)).alloc (.cells #[.slice none 0 0, .slice none 0 0, .pointer none, .bool false] 56)).alloc (.cells #[.pointer none, .pointer (some ⟨w.heap.size + 1 + 1, 0, none⟩)] 33)) = wl at *
  obtain ⟨s0, hs0⟩ : ∃ s0, s0 = w.heap.size := ⟨_, rfl⟩
  rw [← hs0] at HX HZ HR ⊢
  have Hs0 := Lib.hid hs0; clear hs0
  go_loopw [45] (fun i wr => ∃ j : Nat, j ≤ 2 ∧ i = .int .i64 j ∧ Hid (Below wl.heap.size wl wr)) (fun i _ => 2 - (intOf i).toNat)
  case atStart => exact ⟨0, by omega, rfl, Below.refl _ _⟩
  case round =>
    obtain ⟨j, hj, rfl, hbe⟩ := hrel
    by_cases hj2 : j < 2
    · obtain ⟨pf, hpf, hnf⟩ : ∃ pf, wr.cell? ⟨s0 + 1 + 1 + 1, j, none⟩ = some pf ∧ NoFlash wr pf := by
        have hR := HR.out.below hbe.out HR.out.lt
        rcases (show j = 0 ∨ j = 1 by omega) with rfl | rfl
        · exact ⟨_, hR.cellv (j := 0) rfl, noFlash_nil _⟩
        · exact ⟨_, hR.cellv (j := 1) rfl, noFlash_zero wr _ _ _ _ _ (HZ.out.below hbe.out HZ.out.lt)⟩
      have hX := HX.out.below hbe.out HX.out.lt
      have q0 := hX.cellv (j := 0) rfl
      have q1 := hX.cellv (j := 1) rfl
      have q2 := hX.cellv (j := 2) rfl
      simp only [List.getElem_toArray, List.getElem_cons_zero, List.getElem_cons_succ] at q0 q1 q2
      have L := load_none wr pf hnf kn nn
      have A := append_none wr pf hnf kn nn (.string ⟨#[120]⟩) (.int .u8 0) (.slice (some ⟨s0, 0, none⟩) 1 1)
      rw [Hep.out] at L A
      clear hX hnf
      go_wp2_with fail
      refine L.mono ?_
      rintro e w' ⟨rfl, rfl⟩
      go_wp2_with fail
      refine A.mono ?_
      rintro e w5 ⟨rfl, hb5⟩
      have Hb5 := Lib.hid (below_then hbe.out hbe.out.size hb5); clear hb5
      go_wp2_with fail
      go_roundw
      case rel => exact ⟨j + 1, by omega, by go_num, Hb5⟩
      case measure => simp [intOf]; omega
    · have hj3 : j = 2 := by omega
      subst hj3
      go_wp2_with fail
      refine (flash_new 8 (by omega) (by omega) wr).mono ?_
      rintro e w6 ⟨b, bc, o, rfl, hf6, hb6, hb, hbc⟩
      have HF6 := Lib.hid hf6
      have hlt6 := hf6.lt
      have Hlt6 := Lib.hid hlt6
      have Hwr := Lib.hid (show Below w.heap.size w wr from Hb0.out.trans (hbe.out.mono Hb0.out.size))
      have Hb6 := Lib.hid (below_then Hwr.out Hwr.out.size hb6)
      have hbg : w.heap.size ≤ b ∧ w.heap.size ≤ bc := ⟨Nat.le_trans Hwr.out.size hb, Nat.le_trans Hwr.out.size hbc⟩
      have Hbg := Lib.hid hbg; clear hbg
      have hc0 : (Fl.new 8).cells.length = 2048 := by kernel_rfl
      clear hlt6 hb6
      have LG := dict_load w6 b bc o _ hf6 kn nn (by omega) (by omega) (by omega) (by omega) (by rw [hc0]; omega)
      clear hf6
      go_wp2_with fail
      refine LG.mono ?_
      rintro e w7 ⟨hb7, ⟨hd, rfl⟩ | ⟨hd, hs, rfl⟩ | ⟨hd, hs, v7, rfl, hv7⟩⟩
      · cases hd
      case' _ => skip
      rotate_left
      · rw [hc0] at hs; omega
      clear hd hs LG
      have HF7 := Lib.hid (HF6.out.below hb7)
      have Hs7 := Lib.hid hb7.size
      have Hb7 := Lib.hid (below_then Hb6.out Hb6.out.size hb7)
      clear hb7
      have AP := dict_append (S := fun _ => False) w7 b bc o (Fl.new 8) HF7.out rfl rfl 0 64 rfl rfl (by rw [hc0]; omega) (by rw [hc0]; omega) (.agg #[.string ⟨#[120]⟩, .int .u8 0, .slice none 0 0]) xw ⟨_, rfl, ⟨none, 0, rfl, Nat.le_refl _, Row.none_ _ _ _⟩⟩ (fun z hz => hz.elim) (fun j hj => by
        have h1 := Hlt6.out
        have h2 := Hs7.out
        rcases hj with rfl | rfl <;> omega) (by decide)
      rw [nn_app, nn_seg, nn_words] at AP
      go_wp2_with fail
      refine AP.mono ?_
      rintro e w8 ⟨hf8, ho8, hr8⟩
      rw [if_neg (by decide)] at hr8
      subst hr8
      have Hb8 := Lib.hid (show Below w.heap.size w w8 from ⟨ho8.os.trans Hb7.out.os, ho8.tape.trans Hb7.out.tape, ho8.output.trans Hb7.out.output, Nat.le_trans Hb7.out.size ho8.size, fun j hj => (ho8.block j (Nat.lt_of_lt_of_le hj Hb7.out.size) (fun h => by have h1 := Hbg.out; rcases h with rfl | rfl <;> omega)).trans (Hb7.out.block j hj)⟩)
      clear hf8 ho8
      go_wp2_with fail
      refine (law_awake w8).mono ?_
      rintro e w9 ⟨rfl, hb9⟩
      have Hb9 := Lib.hid (below_then Hb8.out Hb8.out.size hb9)
      clear hb9
      go_wp2_with fail
      go_ret
      exact ⟨rfl, Hb9.out⟩
set_option maxRecDepth 100000 in
set_option maxHeartbeats 4000000 in
theorem none_v1c (kn nn : Nat) (hk : kn < 9223372036854775808) (hn : nn < 9223372036854775808) (hk4 : kn % 4 = 0) (hn4 : nn % 4 = 0) (hf : ¬ kn ≤ 2048) (w : World) : Calls Try.prog 6 #[.int .i64 kn, .int .i64 nn] w fun e w' => e = .returned (.bool true) ∧ Below w.heap.size w w' := by
  have hep : errP kn nn = 1 := by unfold errP; first | rw [if_pos (by omega)] | rw [if_neg (by omega)]
  have k0 : (0 : Int) ≤ kn := by omega
  have n0 : (0 : Int) ≤ nn := by omega
  have m1 : ((kn : Int) % 4 == 0) = true := by simp; omega
  have m2 : ((nn : Int) % 4 == 0) = true := by simp; omega
  have m1' : (kn : Int) % 4 = 0 := by omega
  have m2' : (nn : Int) % 4 = 0 := by omega
  have g1 : ¬ (kn : Int) ≤ 2048 := by omega
  have Hep := Lib.hid hep; clear hep
  have Hwd := Lib.hid zeroWord
  have hbX : Blk ((((w.alloc (.cells #[.int .u32 101] 51)).alloc (.cells #[.string ⟨#[120]⟩, .int .u8 0, .slice (some ⟨w.heap.size, 0, none⟩) 1 1] 25)).alloc (.cells #[.slice none 0 0, .slice none 0 0, .pointer none, .bool false] 56)).alloc (.cells #[.pointer none, .pointer (some ⟨w.heap.size + 1 + 1, 0, none⟩)] 33)) (w.heap.size + 1) 25 #[.string ⟨#[120]⟩, .int .u8 0, .slice (some ⟨w.heap.size, 0, none⟩) 1 1] := by
    have := Blk.new (w.alloc (.cells #[.int .u32 101] 51)) 25 #[.string ⟨#[120]⟩, .int .u8 0, .slice (some ⟨w.heap.size, 0, none⟩) 1 1]
    rw [World.size_alloc] at this
    exact (this.alloc _).alloc _
  have hbZ : Blk ((((w.alloc (.cells #[.int .u32 101] 51)).alloc (.cells #[.string ⟨#[120]⟩, .int .u8 0, .slice (some ⟨w.heap.size, 0, none⟩) 1 1] 25)).alloc (.cells #[.slice none 0 0, .slice none 0 0, .pointer none, .bool false] 56)).alloc (.cells #[.pointer none, .pointer (some ⟨w.heap.size + 1 + 1, 0, none⟩)] 33)) (w.heap.size + 1 + 1) 56 #[.slice none 0 0, .slice none 0 0, .pointer none, .bool false] := by
    have := Blk.new ((w.alloc (.cells #[.int .u32 101] 51)).alloc (.cells #[.string ⟨#[120]⟩, .int .u8 0, .slice (some ⟨w.heap.size, 0, none⟩) 1 1] 25)) 56 #[.slice none 0 0, .slice none 0 0, .pointer none, .bool false]
    rw [World.size_alloc, World.size_alloc] at this
    exact this.alloc _
  have hbR : Blk ((((w.alloc (.cells #[.int .u32 101] 51)).alloc (.cells #[.string ⟨#[120]⟩, .int .u8 0, .slice (some ⟨w.heap.size, 0, none⟩) 1 1] 25)).alloc (.cells #[.slice none 0 0, .slice none 0 0, .pointer none, .bool false] 56)).alloc (.cells #[.pointer none, .pointer (some ⟨w.heap.size + 1 + 1, 0, none⟩)] 33)) (w.heap.size + 1 + 1 + 1) 33 #[.pointer none, .pointer (some ⟨w.heap.size + 1 + 1, 0, none⟩)] := by
    have := Blk.new (((w.alloc (.cells #[.int .u32 101] 51)).alloc (.cells #[.string ⟨#[120]⟩, .int .u8 0, .slice (some ⟨w.heap.size, 0, none⟩) 1 1] 25)).alloc (.cells #[.slice none 0 0, .slice none 0 0, .pointer none, .bool false] 56)) 33 #[.pointer none, .pointer (some ⟨w.heap.size + 1 + 1, 0, none⟩)]
    rwa [World.size_alloc, World.size_alloc, World.size_alloc] at this
  have Hb0 := Lib.hid (show Below w.heap.size w ((((w.alloc (.cells #[.int .u32 101] 51)).alloc (.cells #[.string ⟨#[120]⟩, .int .u8 0, .slice (some ⟨w.heap.size, 0, none⟩) 1 1] 25)).alloc (.cells #[.slice none 0 0, .slice none 0 0, .pointer none, .bool false] 56)).alloc (.cells #[.pointer none, .pointer (some ⟨w.heap.size + 1 + 1, 0, none⟩)] 33)) from ((((Below.refl _ w).alloc (Nat.le_refl _) _).alloc (by simp) _).alloc (by simp; omega) _).alloc (by simp; omega) _)
  have HX := Lib.hid hbX
  have HZ := Lib.hid hbZ
  have HR := Lib.hid hbR
  clear hbX hbZ hbR
  go_enter Try.func6, Try.ntmps6
  go_wp2_with fail
  generalize ((((w.alloc (.cells #[.int .u32 101] 51)).alloc (.cells #[.string ⟨#[120]⟩, .int .u8 0, .slice (some ⟨w.heap.size, 0, none⟩) 1 1] 25)).alloc (.cells #[.slice none 0 0, .slice none 0 0, .pointer none, .bool false] 56)).alloc (.cells #[.pointer none, .pointer (some ⟨w.heap.size + 1 + 1, 0, none⟩)] 33)) = wl at *
  obtain ⟨s0, hs0⟩ : ∃ s0, s0 = w.heap.size := ⟨_, rfl⟩
  rw [← hs0] at HX HZ HR ⊢
  have Hs0 := Lib.hid hs0; clear hs0
  go_loopw [45] (fun i wr => ∃ j : Nat, j ≤ 2 ∧ i = .int .i64 j ∧ Hid (Below wl.heap.size wl wr)) (fun i _ => 2 - (intOf i).toNat)
  case atStart => exact ⟨0, by omega, rfl, Below.refl _ _⟩
  case round =>
    obtain ⟨j, hj, rfl, hbe⟩ := hrel
    by_cases hj2 : j < 2
    · obtain ⟨pf, hpf, hnf⟩ : ∃ pf, wr.cell? ⟨s0 + 1 + 1 + 1, j, none⟩ = some pf ∧ NoFlash wr pf := by
        have hR := HR.out.below hbe.out HR.out.lt
        rcases (show j = 0 ∨ j = 1 by omega) with rfl | rfl
        · exact ⟨_, hR.cellv (j := 0) rfl, noFlash_nil _⟩
        · exact ⟨_, hR.cellv (j := 1) rfl, noFlash_zero wr _ _ _ _ _ (HZ.out.below hbe.out HZ.out.lt)⟩
      have hX := HX.out.below hbe.out HX.out.lt
      have q0 := hX.cellv (j := 0) rfl
      have q1 := hX.cellv (j := 1) rfl
      have q2 := hX.cellv (j := 2) rfl
      simp only [List.getElem_toArray, List.getElem_cons_zero, List.getElem_cons_succ] at q0 q1 q2
      have L := load_none wr pf hnf kn nn
      have A := append_none wr pf hnf kn nn (.string ⟨#[120]⟩) (.int .u8 0) (.slice (some ⟨s0, 0, none⟩) 1 1)
      rw [Hep.out] at L A
      clear hX hnf
      go_wp2_with fail
      refine L.mono ?_
      rintro e w' ⟨rfl, rfl⟩
      go_wp2_with fail
      refine A.mono ?_
      rintro e w5 ⟨rfl, hb5⟩
      have Hb5 := Lib.hid (below_then hbe.out hbe.out.size hb5); clear hb5
      go_wp2_with fail
      go_roundw
      case rel => exact ⟨j + 1, by omega, by go_num, Hb5⟩
      case measure => simp [intOf]; omega
    · have hj3 : j = 2 := by omega
      subst hj3
      go_wp2_with fail
      refine (flash_new 8 (by omega) (by omega) wr).mono ?_
      rintro e w6 ⟨b, bc, o, rfl, hf6, hb6, hb, hbc⟩
      have HF6 := Lib.hid hf6
      have hlt6 := hf6.lt
      have Hlt6 := Lib.hid hlt6
      have Hwr := Lib.hid (show Below w.heap.size w wr from Hb0.out.trans (hbe.out.mono Hb0.out.size))
      have Hb6 := Lib.hid (below_then Hwr.out Hwr.out.size hb6)
      have hbg : w.heap.size ≤ b ∧ w.heap.size ≤ bc := ⟨Nat.le_trans Hwr.out.size hb, Nat.le_trans Hwr.out.size hbc⟩
      have Hbg := Lib.hid hbg; clear hbg
      have hc0 : (Fl.new 8).cells.length = 2048 := by kernel_rfl
      clear hlt6 hb6
      have LG := dict_load w6 b bc o _ hf6 kn nn (by omega) (by omega) (by omega) (by omega) (by rw [hc0]; omega)
      clear hf6
      go_wp2_with fail
      refine LG.mono ?_
      rintro e w7 ⟨hb7, ⟨hd, rfl⟩ | ⟨hd, hs, rfl⟩ | ⟨hd, hs, v7, rfl, hv7⟩⟩
      · cases hd
      case' _ => skip
      rotate_left
      · rw [hc0] at hs; omega
      clear hd hs LG
      have HF7 := Lib.hid (HF6.out.below hb7)
      have Hs7 := Lib.hid hb7.size
      have Hb7 := Lib.hid (below_then Hb6.out Hb6.out.size hb7)
      clear hb7
      have AP := dict_append (S := fun _ => False) w7 b bc o (Fl.new 8) HF7.out rfl rfl 0 64 rfl rfl (by rw [hc0]; omega) (by rw [hc0]; omega) (.agg #[.string ⟨#[120]⟩, .int .u8 0, .slice none 0 0]) xw ⟨_, rfl, ⟨none, 0, rfl, Nat.le_refl _, Row.none_ _ _ _⟩⟩ (fun z hz => hz.elim) (fun j hj => by
        have h1 := Hlt6.out
        have h2 := Hs7.out
        rcases hj with rfl | rfl <;> omega) (by decide)
      rw [nn_app, nn_seg, nn_words] at AP
      go_wp2_with fail
      refine AP.mono ?_
      rintro e w8 ⟨hf8, ho8, hr8⟩
      rw [if_neg (by decide)] at hr8
      subst hr8
      have Hb8 := Lib.hid (show Below w.heap.size w w8 from ⟨ho8.os.trans Hb7.out.os, ho8.tape.trans Hb7.out.tape, ho8.output.trans Hb7.out.output, Nat.le_trans Hb7.out.size ho8.size, fun j hj => (ho8.block j (Nat.lt_of_lt_of_le hj Hb7.out.size) (fun h => by have h1 := Hbg.out; rcases h with rfl | rfl <;> omega)).trans (Hb7.out.block j hj)⟩)
      clear hf8 ho8
      go_wp2_with fail
      refine (law_awake w8).mono ?_
      rintro e w9 ⟨rfl, hb9⟩
      have Hb9 := Lib.hid (below_then Hb8.out Hb8.out.size hb9)
      clear hb9
      go_wp2_with fail
      go_ret
      exact ⟨rfl, Hb9.out⟩
end Go.Proofs.Ytmejngojpffcgaa

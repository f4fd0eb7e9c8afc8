import Derived.Test.YtmejngojpffcgaaAwp
namespace Go.Proofs.Ytmejngojpffcgaa
open Go.RowKit Go.Ls
attribute [local irreducible] wpQuiet wpList Code.wp
set_option maxRecDepth 100000 in
set_option maxHeartbeats 4000000 in
theorem law_awake (w : World) : Calls Try.prog 12 #[] w fun e w' => e = .returned (.bool true) ∧ Below w.heap.size w w' := by
  go_enter Try.func12, Try.ntmps12
  go_wp2_with fail
  refine (flash_new 8 (by omega) (by omega) w).mono ?_
  rintro e w1 ⟨b, bc, o, rfl, hf1, hb1, hb, hbc⟩
  have HF1 := Lib.hid hf1
  have HB1 := Lib.hid hb1
  have hc0 : (Fl.new 8).cells.length = 2048 := by kernel_rfl
  have hc1 : f1.cells.length = 2048 := by kernel_rfl
  have L0 := dict_load w1 b bc o _ hf1 256 40 (by omega) (by omega) (by omega) (by omega) (by rw [hc0]; omega)
  clear hf1 hb1
  go_wp2_with fail
  refine L0.mono ?_
  rintro e w2 ⟨hb2, ⟨hd, rfl⟩ | ⟨hd, hs, rfl⟩ | ⟨hd, hs, v2, rfl, hv2⟩⟩
  · cases hd
  · rw [hc0] at hs; omega
  · rw [aw_seg0, aw_words0] at hv2
    rw [aw_seg0, aw_end0]
    have hvf : ∃ A c, v2 = .slice A 0 c := by obtain ⟨ps, _, ⟨A, c, e, _⟩, _⟩ := hv2; exact ⟨A, c, e⟩
    obtain ⟨A2, c2, rfl⟩ := hvf
    have HF2 := Lib.hid (HF1.out.below hb2)
    have HB2 := Lib.hid (below_then HB1.out HB1.out.size hb2)
    have Hlt1 := Lib.hid (show b < w1.heap.size ∧ bc < w1.heap.size from HF1.out.lt)
    have hs2 := hb2.size
    clear hb2 hv2 hd hs L0
    have Hwd := Lib.hid zeroWord
    go_wp2_with fail
    obtain ⟨k2, hk2⟩ : ∃ k2, k2 = w2.heap.size := ⟨_, rfl⟩
    have hbC : Blk ((w2.alloc (.cells #[.int .u32 101] 51)).alloc (.cells #[.string ⟨#[120]⟩, .int .u8 0, .slice (some ⟨w2.heap.size, 0, none⟩) 1 1] 25)) w2.heap.size 51 #[.int .u32 101] := (Blk.new w2 _ _).alloc _
    have hbX : Blk ((w2.alloc (.cells #[.int .u32 101] 51)).alloc (.cells #[.string ⟨#[120]⟩, .int .u8 0, .slice (some ⟨w2.heap.size, 0, none⟩) 1 1] 25)) (w2.heap.size + 1) 25 #[.string ⟨#[120]⟩, .int .u8 0, .slice (some ⟨w2.heap.size, 0, none⟩) 1 1] := by
      have := Blk.new (w2.alloc (.cells #[.int .u32 101] 51)) 25 #[.string ⟨#[120]⟩, .int .u8 0, .slice (some ⟨w2.heap.size, 0, none⟩) 1 1]
      rwa [World.size_alloc] at this
    have hb3 : Below w2.heap.size w2 ((w2.alloc (.cells #[.int .u32 101] 51)).alloc (.cells #[.string ⟨#[120]⟩, .int .u8 0, .slice (some ⟨w2.heap.size, 0, none⟩) 1 1] 25)) := ((Below.refl _ w2).alloc (Nat.le_refl _) _).alloc (by simp) _
    rw [← hk2] at hbC hbX hb3 ⊢
    generalize ((w2.alloc (.cells #[.int .u32 101] 51)).alloc (.cells #[.string ⟨#[120]⟩, .int .u8 0, .slice (some ⟨k2, 0, none⟩) 1 1] 25)) = w3 at *
    have hD3 : ∀ j, (j = b ∨ j = bc) → j < k2 := fun j hj => by have h1 := Hlt1.out; rcases hj with rfl | rfl <;> omega
    have HD := Lib.hid hD3
    have HF3 := Lib.hid (HF2.out.below (by rw [← hk2]; exact hb3))
    have HB3 := Lib.hid (HB2.out.trans (hb3.mono (by rw [hk2]; exact HB2.out.size)))
    have Hk2 := Lib.hid (show w.heap.size ≤ k2 from by rw [hk2]; exact HB2.out.size)
    have HC3 := Lib.hid hbC
    have HX3 := Lib.hid hbX
    clear hbC hbX hb3 hk2 hD3 hs2
    have hwd : ∀ W, Blk W k2 51 #[.int .u32 101] → WdAt (fun z => z = k2) W (.agg #[.string ⟨#[120]⟩, .int .u8 0, .slice (some ⟨k2, 0, none⟩) 1 1]) x0 := fun W hW => ⟨_, rfl, ⟨_, 1, rfl, Nat.le_refl _, Row.blk hW rfl (n := 1) rfl⟩⟩
    have Hwdx := Lib.hid hwd; clear hwd
    have A1 := dict_append (S := fun z => z = k2) w3 b bc o (Fl.new 8) HF3.out rfl rfl 256 40 rfl rfl (by rw [hc0]; omega) (by rw [hc0]; omega) _ x0 (Hwdx.out w3 HC3.out) (fun z hz => by
      subst hz
      exact ⟨HC3.out.lt, fun h => absurd (HD.out _ h) (Nat.lt_irrefl _)⟩) (fun j hj => Nat.lt_trans (HD.out j hj) HC3.out.lt) (by decide)
    rw [aw_app0, aw_seg0, aw_words0] at A1
    refine A1.mono ?_
    clear A1
    rintro e w4 ⟨hf4, ho4, hr4⟩
    rw [if_pos rfl] at hr4
    obtain ⟨v4, rfl, hv4⟩ := hr4
    have hvf4 : ∃ A c, v4 = .slice A 1 c := by obtain ⟨ps, _, ⟨A, c, e, _⟩, _⟩ := hv4; exact ⟨A, c, e⟩
    obtain ⟨A4, c4, rfl⟩ := hvf4
    have hnD : ∀ z, k2 ≤ z → ¬ (z = b ∨ z = bc) := fun z hz h => absurd (HD.out z h) (by omega)
    have HnD := Lib.hid hnD; clear hnD
    have HF4 := Lib.hid hf4
    have HC4 := Lib.hid (show Blk w4 k2 _ _ from (ho4.block k2 HC3.out.lt (HnD.out _ (Nat.le_refl _))).trans HC3.out)
    have HX4 := Lib.hid (show Blk w4 (k2 + 1) _ _ from (ho4.block (k2 + 1) HX3.out.lt (HnD.out _ (by omega))).trans HX3.out)
    have hBo : ∀ W W', Below w.heap.size w W → Only (fun j => j = b ∨ j = bc) W W' → Below w.heap.size w W' := fun W W' h1 h2 =>
      ⟨h2.os.trans h1.os, h2.tape.trans h1.tape, h2.output.trans h1.output, Nat.le_trans h1.size h2.size, fun j hj => (h2.block j (Nat.lt_of_lt_of_le hj h1.size) (fun h => by rcases h with rfl | rfl <;> omega)).trans (h1.block j hj)⟩
    have HBo := Lib.hid hBo; clear hBo
    have HB4 := Lib.hid (HBo.out _ _ HB3.out ho4)
    have L1 := dict_load w4 b bc o _ hf4 256 40 (by omega) (by omega) (by omega) (by omega) (by rw [hc1]; omega)
    clear hf4 ho4 hv4
    go_wp2_with fail
    refine L1.mono ?_
    rintro e w5 ⟨hb5, ⟨hd, rfl⟩ | ⟨hd, hs, rfl⟩ | ⟨hd, hs, v5, rfl, hv5⟩⟩
    · cases hd
    · rw [hc1] at hs; omega
    · rw [aw_seg1, aw_words1] at hv5
      rw [aw_seg1, aw_end1]
      have hvf5 : ∃ A c, v5 = .slice A 1 c := by obtain ⟨ps, _, ⟨A, c, e, _⟩, _⟩ := hv5; exact ⟨A, c, e⟩
      obtain ⟨A5, c5, rfl⟩ := hvf5
      have HF5 := Lib.hid (HF4.out.below hb5)
      have HB5 := Lib.hid (below_then HB4.out HB4.out.size hb5)
      have HC5 := Lib.hid (HC4.out.below hb5 HC4.out.lt)
      have HX5 := Lib.hid (HX4.out.below hb5 HX4.out.lt)
      have HV5 := Lib.hid hv5
      clear hb5 hd hs L1 hv5
      go_wp2_with fail
      have hbY := Blk.new w5 51 #[.int .u32 258, .int .u32 101]
      have hb6 : Below w5.heap.size w5 (w5.alloc (.cells #[.int .u32 258, .int .u32 101] 51)) := (Below.refl _ w5).alloc (Nat.le_refl _) _
      obtain ⟨k5, hk5⟩ : ∃ k5, k5 = w5.heap.size := ⟨_, rfl⟩
      have hk25 : k2 < k5 := by rw [hk5]; exact HC5.out.lt
      rw [← hk5] at hbY ⊢
      have HF6 := Lib.hid (HF5.out.below hb6)
      have HB6 := Lib.hid (below_then HB5.out HB5.out.size hb6)
      have HC6 := Lib.hid (HC5.out.below hb6 HC5.out.lt)
      have HX6 := Lib.hid (HX5.out.below hb6 HX5.out.lt)
      have HV6 := Lib.hid (HV5.out.below hb6)
      have HS5 := Lib.hid (show WordsAt (fun z => w4.heap.size ≤ z ∧ z < k5) w5 (.slice A5 1 c5) [x0] from (HV5.out.bound).mono fun z hz => ⟨hz.1, by rw [hk5]; exact hz.2⟩)
      generalize (w5.alloc (.cells #[.int .u32 258, .int .u32 101] 51)) = w6 at *
      have HY6 := Lib.hid hbY
      clear hbY hb6 hk5
      have A2' := dict_append (S := fun z => z = k5) w6 b bc o f1 HF6.out rfl rfl 256 40 rfl rfl (by rw [hc1]; omega) (by rw [hc1]; omega) (.agg #[.string ⟨#[121]⟩, .int .u8 0, .slice (some ⟨k5, 0, none⟩) 2 2]) y0 ⟨_, rfl, ⟨_, 2, rfl, Nat.le_refl _, Row.blk HY6.out rfl (n := 2) rfl⟩⟩ (fun z hz => by
        subst hz
        exact ⟨HY6.out.lt, HnD.out _ (by omega)⟩) (fun j hj => Nat.lt_trans (HD.out j hj) HC6.out.lt) (by decide)
      rw [aw_app1, aw_seg1, aw_words1] at A2'
      refine A2'.mono ?_
      clear A2'
      rintro e w7 ⟨hf7, ho7, hr7⟩
      rw [if_neg (by decide)] at hr7
      subst hr7
      have HF7 := Lib.hid hf7
      have HC7 := Lib.hid (show Blk w7 k2 _ _ from (ho7.block k2 HC6.out.lt (HnD.out _ (Nat.le_refl _))).trans HC6.out)
      have HX7 := Lib.hid (show Blk w7 (k2 + 1) _ _ from (ho7.block (k2 + 1) HX6.out.lt (HnD.out _ (by omega))).trans HX6.out)
      have HB7 := Lib.hid (HBo.out _ _ HB6.out ho7)
      have HV7 := Lib.hid (show WordsAt (fun z => w4.heap.size ≤ z) w7 (.slice A5 1 c5) [x0] from HV6.out.keep fun z h1 h2 => ho7.block z h1 (HnD.out z (by have h3 := HC4.out.lt; unfold From at h2; omega)))
      have q0 := HX7.out.cellv (j := 0) rfl
      have q1 := HX7.out.cellv (j := 1) rfl
      have q2 := HX7.out.cellv (j := 2) rfl
      simp only [List.getElem_toArray, List.getElem_cons_zero, List.getElem_cons_succ] at q0 q1 q2
      have A3 := dict_append (S := fun z => z = k2) w7 b bc o f1 HF7.out rfl rfl 256 40 rfl rfl (by rw [hc1]; omega) (by rw [hc1]; omega) _ x0 (Hwdx.out w7 HC7.out) (fun z hz => by
        subst hz
        exact ⟨HC7.out.lt, HnD.out _ (Nat.le_refl _)⟩) (fun j hj => Nat.lt_trans (HD.out j hj) HC7.out.lt) (by decide)
      rw [aw_app2, aw_seg1, aw_words1] at A3
      clear hf7 ho7
      go_wp2_with fail
      refine A3.mono ?_
      clear A3
      rintro e w8 ⟨hf8, ho8, hr8⟩
      rw [if_neg (by decide)] at hr8
      subst hr8
      have HC8 := Lib.hid (show Blk w8 k2 _ _ from (ho8.block k2 HC7.out.lt (HnD.out _ (Nat.le_refl _))).trans HC7.out)
      have HX8 := Lib.hid (show Blk w8 (k2 + 1) _ _ from (ho8.block (k2 + 1) HX7.out.lt (HnD.out _ (by omega))).trans HX7.out)
      have HB8 := Lib.hid (HBo.out _ _ HB7.out ho8)
      have HV8 := Lib.hid (show WordsAt (fun z => w4.heap.size ≤ z) w8 (.slice A5 1 c5) [x0] from HV7.out.keep fun z h1 h2 => ho8.block z h1 (HnD.out z (by have h3 := HC4.out.lt; omega)))
      clear hf8 ho8 q0 q1 q2
      have q0 := HX8.out.cellv (j := 0) rfl
      have q1 := HX8.out.cellv (j := 1) rfl
      have q2 := HX8.out.cellv (j := 2) rfl
      simp only [List.getElem_toArray, List.getElem_cons_zero, List.getElem_cons_succ] at q0 q1 q2
      have hb9 : Below w8.heap.size w8 (w8.alloc (.cells #[.string ⟨#[120]⟩, .int .u8 0, .slice (some ⟨k2, 0, none⟩) 1 1] 25)) := (Below.refl _ w8).alloc (Nat.le_refl _) _
      have AL := law_all (S := fun z => w4.heap.size ≤ z) (S' := fun _ => True) (.slice A5 1 c5) (.slice (some ⟨w8.heap.size, 0, none⟩) 1 1) [x0] [x0] (w8.alloc (.cells #[.string ⟨#[120]⟩, .int .u8 0, .slice (some ⟨k2, 0, none⟩) 1 1] 25)) (HV8.out.below hb9)
        ⟨[(x0, .slice (some ⟨k2, 0, none⟩) 1 1)], rfl, ⟨_, 1, rfl, Nat.le_refl _, Row.blk (Blk.new w8 _ _) trivial (n := 3) rfl⟩, fun p hp => by
          obtain rfl : p = _ := by simpa using hp
          exact ⟨_, 1, rfl, Nat.le_refl _, Row.blk (HC8.out.below hb9 HC8.out.lt) trivial (n := 1) rfl⟩⟩ (by simp) (fun y hy => by
          obtain rfl : y = x0 := by simpa using hy
          decide)
      rw [show allW [x0] [x0] = true from by kernel_rfl] at AL
      have Hb9 := Lib.hid hb9; clear hb9
      go_wp2_with fail
      refine AL.mono ?_
      rintro e w10 ⟨rfl, hb10⟩
      have Hb10 := Lib.hid hb10; clear hb10
      go_wp2_with fail
      go_ret
      exact ⟨rfl, below_then HB8.out HB8.out.size (below_next Hb9.out Hb10.out)⟩
end Go.Proofs.Ytmejngojpffcgaa

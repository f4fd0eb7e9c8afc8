/- Part of the proof of lightshiplaw15.DictFull. No condition beyond those each theorem names. -/
import Derived.Test.YtmejngojpffcgaaPback
namespace Go.Ls
open Go.RowKit Go.Proofs.Ytmejngojpffcgaa
theorem full_all : (List.range 17).all (fun i => withP (List.replicate i x0) x0) = true := by kernel_rfl
theorem full_with (i : Nat) (h : i ≤ 16) : withP (List.replicate i x0) x0 = true := List.all_eq_true.1 full_all i (List.mem_range.2 (by omega))
theorem full_size : recSize x0.bytes.length = 24 := by kernel_rfl
theorem full_log (i : Nat) : (logW (List.replicate i x0)).length = 24 * i := by
  induction i with
  | zero => rfl
  | succ i ih =>
    rw [List.replicate_succ', logW_snoc, List.length_append, ih, recBytes_length _ (by decide), full_size]
    omega
structure FullAt (g : Fl) (i : Nat) : Prop where
  laid : Laid g 256 (List.replicate i x0) (4864 - 24 * i)
  len : g.cells.length = 5120
  down : g.down = false
theorem full_new : FullAt (Fl.new 20) 0 := by
  refine ⟨⟨?_, trivial, rfl, rfl, rfl⟩, ?_, rfl⟩
  · show List.replicate (20 * 256) 255 = List.replicate 256 255 ++ ([] ++ List.replicate (4864 - 24 * 0) 255)
    rw [List.nil_append, List.replicate_append_replicate]
  · show (List.replicate (20 * 256) 255).length = 5120
    rw [List.length_replicate]
theorem FullAt.more {g : Fl} {i : Nat} (h : FullAt g i) (m : Nat) (hm : m ≤ 100) (hi : i < 4 * m / 24) : ∃ g', appendP g 256 (4 * m) x0 = (g', 0) ∧ FullAt g' (i + 1) := by
  have hl := full_log i
  obtain ⟨g', h1, h2, h3, _, h5⟩ := h.laid.more (4 * m) (by omega) (by omega) x0 (full_with i (by omega)) (by rw [full_size]; omega)
  refine ⟨g', h1, ⟨?_, by rw [h3, h.len], by rw [h5, h.down]⟩⟩
  rw [List.replicate_succ', show 4864 - 24 * (i + 1) = 4864 - 24 * i - 24 by omega, ← full_size]
  exact h2
theorem FullAt.full {g : Fl} {m : Nat} (h : FullAt g (4 * m / 24)) (hm : m ≤ 100) : appendP g 256 (4 * m) x0 = (g, 150) := by
  have hl := full_log (4 * m / 24)
  exact h.laid.full (4 * m) (by omega) (by omega) x0 (full_with _ (by omega)) (by rw [full_size]; omega)
theorem FullAt.words {g : Fl} {m : Nat} (h : FullAt g (4 * m / 24)) (hm : m ≤ 100) : wordsP (g.seg 256 (4 * m)) = List.replicate (4 * m / 24) x0 := by
  have hl := full_log (4 * m / 24)
  exact h.laid.words (4 * m) (by omega) (by omega)
theorem FullAt.ends {g : Fl} {m : Nat} (h : FullAt g (4 * m / 24)) (hm : m ≤ 100) : wordsEnd (g.seg 256 (4 * m)) = 4 * m / 24 * 24 := by
  have hl := full_log (4 * m / 24)
  rw [h.laid.ends (4 * m) (by omega) (by omega)]
  omega
end Go.Ls
namespace Go.Proofs.Ytmejngojpffcgaa
open Go.RowKit Go.Ls
attribute [local irreducible] wpQuiet wpList Code.wp
theorem full_append (w wr : World) (b bc o : Nat) (g : Fl) (n : Nat) (hF : FlashAt wr (fun j => j = b ∨ j = bc) b bc o g) (hbg : w.heap.size ≤ b ∧ w.heap.size ≤ bc) (hB : Below w.heap.size w wr)
    (hpw : g.power = none) (hdn : g.down = false) (hlen : g.cells.length = 5120) (hn4 : n % 4 = 0) (hn : n ≤ 400) :
    Calls Try.prog 21 #[.pointer (some ⟨b, 0, none⟩), .int .i64 256, .int .i64 n, .agg #[.string ⟨#[120]⟩, .int .u8 0, .slice (some ⟨wr.heap.size, 0, none⟩) 1 1]] (wr.alloc (.cells #[.int .u32 101] 51))
      fun e w' => FlashAt w' (fun j => j = b ∨ j = bc) b bc o (appendP g 256 n x0).1 ∧ Below w.heap.size w w' ∧ Only (fun j => j = b ∨ j = bc) wr w' ∧
        (if (appendP g 256 n x0).2 = 0 then ∃ A m c, e = .returned (.tuple #[.slice A m c, .int .i64 0]) else e = .returned (.tuple #[.slice none 0 0, .int .i64 (appendP g 256 n x0).2])) := by
  have hlt := hF.lt
  have hb1 : Below wr.heap.size wr (wr.alloc (.cells #[.int .u32 101] 51)) := (Below.refl _ wr).alloc (Nat.le_refl _) _
  have hW : Blk (wr.alloc (.cells #[.int .u32 101] 51)) wr.heap.size 51 #[.int .u32 101] := Blk.new wr _ _
  have hF2 := hF.below hb1
  have hsz : wr.heap.size ≤ (wr.alloc (.cells #[.int .u32 101] 51)).heap.size := hb1.size
  have hB2 := hB.trans (hb1.mono hB.size)
  have hO : Only (fun j => j = b ∨ j = bc) wr _ := Only.of_below hb1
  generalize hg : wr.alloc (.cells #[.int .u32 101] 51) = w2 at *
  have hlt2 : wr.heap.size < w2.heap.size := hW.lt
  refine (dict_append (S := fun z => z = wr.heap.size) w2 b bc o g hF2 hpw hdn 256 n rfl hn4 (by rw [hlen]; omega) (by rw [hlen]; omega) _ x0 ⟨_, rfl, ⟨_, 1, rfl, Nat.le_refl _, Row.blk hW rfl (n := 1) rfl⟩⟩ (fun z hz => by
      subst hz
      exact ⟨hlt2, fun h => by rcases h with h | h <;> omega⟩) (fun j hj => by rcases hj with rfl | rfl <;> omega) (by decide)).mono ?_
  rintro e w' ⟨h1, h2, h3⟩
  refine ⟨h1, ⟨h2.os.trans hB2.os, h2.tape.trans hB2.tape, h2.output.trans hB2.output, Nat.le_trans hB2.size h2.size, fun j hj => (h2.block j (Nat.lt_of_lt_of_le hj hB2.size) (fun h => by rcases h with rfl | rfl <;> omega)).trans (hB2.block j hj)⟩, hO.trans h2, ?_⟩
  split at h3
  · rename_i h0
    rw [if_pos h0]
    obtain ⟨v, he, ps, _, ⟨A, c, rfl, _⟩, _⟩ := h3
    exact ⟨A, _, c, he⟩
  · rename_i h0
    rw [if_neg h0]
    exact h3
set_option maxRecDepth 100000 in
set_option maxHeartbeats 4000000 in
theorem law_full (s : Int) (h0 : 0 ≤ s) (h1 : s ≤ 65535) (w : World) : Calls Try.prog 5 #[.int .u16 s] w fun e w' => e = .returned (.bool true) ∧ Below w.heap.size w w' := by
  obtain ⟨m, hm, hm100⟩ : ∃ m : Nat, s.tmod 101 = m ∧ m ≤ 100 := ⟨(s.tmod 101).toNat, by rw [Int.tmod_eq_emod_of_nonneg h0]; omega, by rw [Int.tmod_eq_emod_of_nonneg h0]; omega⟩
  have hw4 : IntKind.i64.wrap ((m : Int) * 4) = ((4 * m : Nat) : Int) := by rw [show (m : Int) * 4 = ((4 * m : Nat) : Int) by omega]; rw [IntKind.wrap_i64]; omega
  go_enter Try.func5, Try.ntmps5
  go_wp2_with fail
  refine (flash_new 20 (by omega) (by omega) w).mono ?_
  rintro e w1 ⟨b, bc, o, rfl, hf1, hb1, hb, hbc⟩
  have HF1 := Lib.hid hf1
  have HB1 := Lib.hid hb1
  clear hf1 hb1
  go_wp2_with fail
  obtain ⟨n, hn⟩ : ∃ n : Nat, n = 4 * m := ⟨_, rfl⟩
  obtain ⟨q, hq⟩ : ∃ q : Nat, q = n / 24 := ⟨_, rfl⟩
  have en : 4 * (m : Int) = (n : Int) := by omega
  have eq : (n : Int) / 24 = (q : Int) := by omega
  have hmore : ∀ g i, FullAt g i → i < q → ∃ g', appendP g 256 n x0 = (g', 0) ∧ FullAt g' (i + 1) := fun g i h hi => by rw [hn]; exact h.more m hm100 (by omega)
  have hfull : ∀ g, FullAt g q → appendP g 256 n x0 = (g, 150) ∧ wordsP (g.seg 256 n) = List.replicate q x0 ∧ wordsEnd (g.seg 256 n) = q * 24 := fun g h => by
    subst hq
    subst hn
    exact ⟨h.full hm100, h.words hm100, h.ends hm100⟩
  have hn4 : n % 4 = 0 := by omega
  have hnn : n ≤ 400 := by omega
  have hqq : q ≤ 16 := by omega
  have Heq := Lib.hid eq
  have Hmore := Lib.hid hmore
  have Hfull := Lib.hid hfull
  simp only [en, eq]
  clear eq en hn hq hmore hfull hw4 hm hm100
  have Hwd := Lib.hid zeroWord
  have Hlt1 := Lib.hid (show b < w1.heap.size ∧ bc < w1.heap.size from HF1.out.lt)
  have Hbg := Lib.hid (show w.heap.size ≤ b ∧ w.heap.size ≤ bc from ⟨hb, hbc⟩)
  clear hb hbc
  have Hn4 := Lib.hid hn4; clear hn4
  go_loopw [29] (fun i wr => ∃ (j : Nat) (g : Fl), j ≤ q ∧ i = .int .i64 j ∧ Hid (FullAt g j ∧ FlashAt wr (fun j => j = b ∨ j = bc) b bc o g ∧ Below w.heap.size w wr ∧ w1.heap.size ≤ wr.heap.size)) (fun i _ => q - (intOf i).toNat)
  case atStart => exact ⟨0, Fl.new 20, by omega, rfl, full_new, HF1.out, HB1.out, Nat.le_refl _⟩
  case round =>
    obtain ⟨j, g, hj, rfl, hg⟩ := hrel
    by_cases hjq : j < q
    · obtain ⟨g', hap, hg'⟩ := Hmore.out g j hg.out.1 hjq
      have Hap := Lib.hid hap
      have Hg' := Lib.hid hg'
      clear hap hg'
      go_wp2_with fail
      have HA := full_append w wr b bc o g n hg.out.2.1 Hbg.out hg.out.2.2.1 hg.out.1.laid.power hg.out.1.down hg.out.1.len Hn4.out hnn
      rw [Hap.out] at HA
      refine HA.mono ?_
      clear HA
      rintro e w5 ⟨hf5, hb5, hs5, he5⟩
      rw [if_pos rfl] at he5
      obtain ⟨A5, m5, c5, rfl⟩ := he5
      have Hr := Lib.hid (show FullAt g' (j + 1) ∧ FlashAt w5 (fun j => j = b ∨ j = bc) b bc o g' ∧ Below w.heap.size w w5 ∧ w1.heap.size ≤ w5.heap.size from ⟨Hg'.out, hf5, hb5, Nat.le_trans hg.out.2.2.2 hs5.size⟩)
      clear hf5 hb5 hs5
      go_wp2_with fail
      go_roundw
      case rel => exact ⟨j + 1, g', by omega, by go_num, Hr⟩
      case measure => simp [intOf]; omega
    · have hj3 : j = q := by omega
      subst hj3
      have R1 := flash_read wr b bc o g hg.out.2.1 0 2048 (by omega) (by omega)
      go_wp2_with fail
      refine R1.mono ?_
      clear R1
      rintro e w2 ⟨hb2, ⟨hd, rfl⟩ | ⟨hd, hs, rfl⟩ | ⟨hd, hs, v2, rfl, hv2⟩⟩
      · rw [hg.out.1.down] at hd; cases hd
      · rw [hg.out.1.len] at hs; omega
      obtain ⟨A2, c2, rfl, hc2, hr2⟩ := own_row hv2
      have Hr2 := Lib.hid (show Row (fun z => wr.heap.size ≤ z) w2 A2 (u8s (g.seg 0 2048)) from hr2)
      have Hsl := Lib.hid (show (g.seg 0 2048).length = 2048 from seg_length hs)
      have HF2 := Lib.hid (hg.out.2.1.below hb2)
      have HB2 := Lib.hid (below_then hg.out.2.2.1 hg.out.2.2.1.size hb2)
      have Hltr := Lib.hid (show b < wr.heap.size ∧ bc < wr.heap.size from hg.out.2.1.lt)
      obtain ⟨hap, hwo, hen⟩ := Hfull.out g hg.out.1
      have HA := full_append w w2 b bc o g n HF2.out Hbg.out HB2.out hg.out.1.laid.power hg.out.1.down hg.out.1.len Hn4.out hnn
      rw [hap] at HA
      have Hwo := Lib.hid hwo
      have Hen := Lib.hid hen
      clear hap hwo hen hb2 hd hs hv2 hr2 hc2 hj
      go_wp2_with fail
      refine HA.mono ?_
      clear HA
      rintro e w3 ⟨hf3, hb3, ho3, he3⟩
      rw [if_neg (by decide)] at he3
      subst he3
      have HF3 := Lib.hid hf3
      have HB3 := Lib.hid hb3
      have Hr3 := Lib.hid (show Row (fun z => wr.heap.size ≤ z) w3 A2 (u8s (g.seg 0 2048)) from Hr2.out.keep fun z hlt hz => ho3.block z hlt fun h => by have := Hltr.out; rcases h with rfl | rfl <;> omega)
      have R3 := flash_read w3 b bc o g hf3 0 2048 (by omega) (by omega)
      clear hf3 hb3 ho3
      go_wp2_with fail
      refine R3.mono ?_
      clear R3
      rintro e w4 ⟨hb4, ⟨hd, rfl⟩ | ⟨hd, hs, rfl⟩ | ⟨hd, hs, v4, rfl, hv4⟩⟩
      · rw [hg.out.1.down] at hd; cases hd
      · rw [hg.out.1.len] at hs; omega
      obtain ⟨A4, c4, rfl, hc4, hr4⟩ := own_row hv4
      have Hr4 := Lib.hid hr4
      have Hr3' := Lib.hid (Hr3.out.below hb4)
      have HF4 := Lib.hid (HF3.out.below hb4)
      have HB4 := Lib.hid (below_then HB3.out HB3.out.size hb4)
      have L4 := dict_load w4 b bc o g HF4.out 256 n (by omega) (by omega) (by omega) Hn4.out (by rw [hg.out.1.len]; omega)
      clear hb4 hd hs hv4 hr4 hc4
      go_wp2_with fail
      refine L4.mono ?_
      clear L4
      rintro e w5 ⟨hb5, ⟨hd, rfl⟩ | ⟨hd, hs, rfl⟩ | ⟨hd, hs, v5, rfl, hv5⟩⟩
      · rw [hg.out.1.down] at hd; cases hd
      · rw [hg.out.1.len] at hs; omega
      rw [Hwo.out] at hv5
      rw [Hen.out]
      have hvf5 : ∃ A c, v5 = .slice A j c := by obtain ⟨ps, _, ⟨A, c, e, _⟩, _⟩ := hv5; rw [List.length_replicate] at e; exact ⟨A, c, e⟩
      obtain ⟨A5, c5, rfl⟩ := hvf5
      have s2 := str_of_u8s (Hr3'.out.below hb5) c2
      have s4 := str_of_u8s (Hr4.out.below hb5) c4
      rw [Hsl.out] at s2 s4
      have HB5 := Lib.hid (below_then HB4.out HB4.out.size hb5)
      have AW := law_awake w5
      have e24 : IntKind.i64.wrap ((j : Int) * 24) = ((j * 24 : Nat) : Int) := by rw [IntKind.wrap_i64]; omega
      have Heq2 := Heq.out
      clear hb5 hd hs hv5
      go_wp2_with fail
      refine AW.mono ?_
      rintro e w6 ⟨rfl, hb6⟩
      have HB6 := Lib.hid (below_then HB5.out HB5.out.size hb6)
      clear hb6
      go_wp2_with fail
      go_ret
      exact ⟨rfl, HB6.out⟩
end Go.Proofs.Ytmejngojpffcgaa

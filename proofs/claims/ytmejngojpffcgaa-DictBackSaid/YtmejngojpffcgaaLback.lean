/- Part of the proof of lightshiplaw15.DictBack. No condition beyond those each theorem names. -/
import Derived.Test.YtmejngojpffcgaaBegun
namespace Go.Ls
open Go.RowKit Go.Proofs.Ytmejngojpffcgaa
theorem checkZ_nil : checkZ [] = -1 := rfl
theorem Fit.check : ∀ (l acc : List Wd), Fit acc l → checkZ acc = -1 → checkZ (acc ++ l) = -1
  | [], acc, _, h => by rw [List.append_nil]; exact h
  | x :: l, acc, h, h0 => by
    have hx := h.2.1
    unfold withP at hx
    simp only [Bool.and_eq_true, beq_iff_eq] at hx
    have := Fit.check l (acc ++ [x]) h.2.2 hx.2
    rwa [List.append_assoc, List.singleton_append] at this
theorem seg_mid (g : Fl) (k e : Nat) (a m : List UInt8) (r n : Nat) (hc : g.cells = a ++ (m ++ List.replicate r 255)) (ha : a.length = k) (hm : m.length = e) (hn : n ≤ r) : g.seg (k + e) n = List.replicate n 255 := by
  unfold Fl.seg
  rw [hc, ← List.append_assoc, List.drop_left' (by rw [List.length_append, ha, hm]), List.take_replicate, Nat.min_eq_left hn]
theorem seg_pre (g : Fl) (k : Nat) (r : List UInt8) (hc : g.cells = List.replicate k 255 ++ r) : g.seg 0 k = List.replicate k 255 := by
  unfold Fl.seg
  rw [hc, List.drop_zero, List.take_left' (by rw [List.length_replicate])]
theorem seg_mid2 (g : Fl) (k e : Nat) (m : List UInt8) (r p n : Nat) (hc : g.cells = List.replicate k 255 ++ (m ++ List.replicate r 255)) (hm : m.length = e) (hp : k + e ≤ p) (hn : p + n ≤ k + e + r) : g.seg p n = List.replicate n 255 := by
  unfold Fl.seg
  rw [hc, ← List.append_assoc, List.drop_append, List.drop_of_length_le (by rw [List.length_append, List.length_replicate, hm]; exact hp), List.nil_append, List.drop_replicate, List.take_replicate]
  congr 1
  rw [List.length_append, List.length_replicate, hm]
  omega
structure BackAt (g : Fl) (l : List Wd) (en : Nat) : Prop where
  small : en ≤ 3456
  words : wordsP (g.seg 512 4096) = l
  ends : wordsEnd (g.seg 512 4096) = en
  rest : g.seg (512 + en) (4096 - en) = List.replicate (4096 - en) 255
  ahead : g.seg 0 512 = List.replicate 512 255
  behind : g.seg 4608 512 = List.replicate 512 255
  check : checkZ l = -1
theorem BegAt.back {g : Fl} {l : List Wd} (h : BegAt g l 12) : BackAt g l (logW l).length := by
  have hs := h.size
  have hc := h.laid.cells
  refine ⟨by omega, h.laid.words 4096 (by omega) (by omega), h.laid.ends 4096 (by omega) (by omega), ?_, ?_, ?_, ?_⟩
  · exact seg_mid g 512 (logW l).length _ _ _ (4096 - (logW l).length) hc (by rw [List.length_replicate]) rfl (by omega)
  · exact seg_pre g 512 _ hc
  · exact seg_mid2 g 512 (logW l).length _ (4608 - (logW l).length) 4608 512 hc rfl (by omega) (by omega)
  · have := Fit.check l [] h.laid.fit checkZ_nil
    rwa [List.nil_append] at this
end Go.Ls
namespace Go.Proofs.Ytmejngojpffcgaa
open Go.RowKit Go.Ls
attribute [local irreducible] wpQuiet wpList Code.wp
theorem own_from {W : World} {B : Nat} {t : TypeId} {size n : Nat} {v : Value} {xs : List Value} (h : W.ownsRow B t size v n xs) : ∀ k, v.ownBlock = some k → B ≤ k := fun k hk => by
  rcases h.2 with ⟨rfl, _⟩ | ⟨g, cap, cur, rfl, hb, _⟩
  · cases hk
  · simp only [Value.ownBlock, Option.some.injEq] at hk
    omega
theorem ones_get {n j : Nat} (h : j < n) : (u8s (List.replicate n 255))[j]? = some (.int .u8 255) := by
  rw [u8s_get (by simpa using h)]
  simp [b8]
set_option maxRecDepth 100000 in
set_option maxHeartbeats 4000000 in
theorem law_back {S : Nat → Prop} (v : Value) (L : List Wd) (w : World) (hl : WordsAt S w v L) (hS : ∀ z, S z → z < w.heap.size) (hn : L.length ≤ maxLen) :
    Calls Try.prog 4 #[v] w fun e w' => e = .returned (.bool true) ∧ Below w.heap.size w w' := by
  have BG := law_begun v L w hl hS hn
  clear hl hS hn
  go_enter Try.func4, Try.ntmps4
  go_wp2_with fail
  refine BG.mono ?_
  rintro e w1 ⟨b, bc, o, hv, l, g, rfl, hg, hf1, hw1, hb1, hb, hbc⟩
  clear BG
  obtain ⟨en, hen⟩ : ∃ en, en = (logW l).length := ⟨_, rfl⟩
  have hk := hg.back
  rw [← hen] at hk
  have HK := Lib.hid hk
  have Hdn := Lib.hid hg.down
  have Hln := Lib.hid hg.len
  have Hl12 := Lib.hid hg.many
  have Hcd := Lib.hid hg.codes
  have HF1 := Lib.hid hf1
  have HW1 := Lib.hid hw1
  have HB1 := Lib.hid hb1
  have hen1 : en ≤ 3456 := hk.small
  clear hk hg hf1 hw1 hb1 hb hbc hen
  have L1 := dict_load w1 b bc o g HF1.out 512 4096 (by omega) (by omega) (by omega) (by omega) (by rw [Hln.out]; omega)
  go_wp2_with fail
  refine L1.mono ?_
  clear L1
  rintro e w2 ⟨hb2, ⟨hd, rfl⟩ | ⟨hd, hs, rfl⟩ | ⟨hd, hs, v2, rfl, hv2⟩⟩
  · rw [Hdn.out] at hd; cases hd
  · rw [Hln.out] at hs; omega
  rw [HK.out.words] at hv2
  rw [HK.out.ends]
  have HF2 := Lib.hid (HF1.out.below hb2)
  have HW2 := Lib.hid (HW1.out.below hb2)
  have HV2 := Lib.hid hv2
  have HB2 := Lib.hid (below_then HB1.out HB1.out.size hb2)
  clear hb2 hd hs hv2
  have A2 := law_all v2 hv l l w2 HV2.out HW2.out (by have := Hl12.out; omega) (fun y hy => by have := Hcd.out y hy; omega)
  rw [(allW_iff l l).2 rfl] at A2
  go_wp2_with fail
  refine A2.mono ?_
  clear A2
  rintro e w3 ⟨rfl, hb3⟩
  have HF3 := Lib.hid (HF2.out.below hb3)
  have HW3 := Lib.hid (HW2.out.below hb3)
  have HV3 := Lib.hid (HV2.out.below hb3)
  have HB3 := Lib.hid (below_then HB2.out HB2.out.size hb3)
  clear hb3
  have C3 := prim_check v2 l w3 HV3.out (by have := Hl12.out; omega) (fun y hy => by have := Hcd.out y hy; omega)
  rw [HK.out.check] at C3
  go_wp2_with fail
  refine C3.mono ?_
  clear C3
  rintro e w4 ⟨rfl, hb4⟩
  have HF4 := Lib.hid (HF3.out.below hb4)
  have HW4 := Lib.hid (HW3.out.below hb4)
  have HB4 := Lib.hid (below_then HB3.out HB3.out.size hb4)
  clear hb4
  have R4 := flash_read w4 b bc o g HF4.out 512 4096 (by omega) (by omega)
  go_wp2_with fail
  refine R4.mono ?_
  clear R4
  rintro e w5 ⟨hb5, ⟨hd, rfl⟩ | ⟨hd, hs, rfl⟩ | ⟨hd, hs, v5, rfl, hv5⟩⟩
  · rw [Hdn.out] at hd; cases hd
  · rw [Hln.out] at hs; omega
  obtain ⟨A5, c5, rfl, hc5, hr5⟩ := own_row hv5
  have HR5 := Lib.hid (show Sl8 (fun _ => True) w5 (.slice A5 4096 c5) (g.seg 512 4096) from ⟨A5, c5, by rw [seg_length hs], by rw [seg_length hs]; exact hc5, hr5.mono fun _ _ => trivial⟩)
  have HF5 := Lib.hid (HF4.out.below hb5)
  have HW5 := Lib.hid (HW4.out.below hb5)
  have HB5 := Lib.hid (below_then HB4.out HB4.out.size hb5)
  clear hb5 hd hs hv5 hr5 hc5
  have R5 := flash_read w5 b bc o g HF5.out (512 + en) (4096 - en) (by omega) (by omega)
  have e1 : IntKind.i64.wrap (512 + (en : Int)) = ((512 + en : Nat) : Int) := by rw [IntKind.wrap_i64]; omega
  have e2 : IntKind.i64.wrap (4096 - (en : Int)) = ((4096 - en : Nat) : Int) := by rw [IntKind.wrap_i64]; omega
  go_wp2_with fail
  refine R5.mono ?_
  clear R5
  rintro e w6 ⟨hb6, ⟨hd, rfl⟩ | ⟨hd, hs, rfl⟩ | ⟨hd, hs, v6, rfl, hv6⟩⟩
  · rw [Hdn.out] at hd; cases hd
  · rw [Hln.out] at hs; omega
  rw [HK.out.rest] at hv6
  obtain ⟨A6, c6, rfl, hc6, hr6⟩ := own_row hv6
  have HR6 := Lib.hid hr6
  have HR56 := Lib.hid (Sl.below HR5.out hb6)
  have HF6 := Lib.hid (HF5.out.below hb6)
  have HW6 := Lib.hid (HW5.out.below hb6)
  have HB6 := Lib.hid (below_then HB5.out HB5.out.size hb6)
  clear hb6 hd hs hv6 hr6 hc6 e1 e2
  obtain ⟨m, hm⟩ : ∃ m, m = 4096 - en := ⟨_, rfl⟩
  rw [← hm] at HR6 ⊢
  have hm4 : m ≤ 4096 := by omega
  have Hm := Lib.hid hm; clear hm
  go_wp2_with fail
  go_loopw [72] (fun i wr => ∃ j : Nat, j ≤ m ∧ i = .int .i64 j ∧ Hid (Below w6.heap.size w6 wr)) (fun i _ => m - (intOf i).toNat)
  case atStart => exact ⟨0, by omega, rfl, Below.refl _ _⟩
  case round =>
    obtain ⟨j, hj, rfl, hbe⟩ := hrel
    by_cases hjm : j < m
    · obtain ⟨ba, oa, rfl, _, q0⟩ := (HR6.out.below hbe.out).at_ (ones_get hjm)
      go_wp2_with fail
      go_roundw
      case rel => exact ⟨j + 1, by omega, by go_num, hbe⟩
      case measure => simp [intOf]; omega
    · obtain rfl : j = m := by omega
      have HR7 := Lib.hid (Sl.below HR56.out hbe.out)
      have HF7 := Lib.hid (HF6.out.below hbe.out)
      have HW7 := Lib.hid (HW6.out.below hbe.out)
      have HB7 := Lib.hid (below_then HB6.out HB6.out.size hbe.out)
      clear hbe
      have D7 := dict_words _ _ wr HR7.out (by rw [seg_length (by rw [Hln.out]; omega)]; omega)
      rw [HK.out.words, HK.out.ends] at D7
      go_wp2_with fail
      refine D7.mono ?_
      clear D7
      rintro e w8 ⟨⟨v8, rfl, hv8⟩, hb8⟩
      have HF8 := Lib.hid (HF7.out.below hb8)
      have HW8 := Lib.hid ((HW7.out.below hb8).bound.mono fun z hz => (hz.2 : z < w8.heap.size))
      have HV8 := Lib.hid (hv8.bound.mono fun z hz => (hz.2 : z < w8.heap.size))
      have HB8 := Lib.hid (below_then HB7.out HB7.out.size hb8)
      clear hb8 hv8
      have R8 := flash_read w8 b bc o g HF8.out 0 512 (by omega) (by omega)
      go_wp2_with fail
      refine R8.mono ?_
      clear R8
      rintro e w9 ⟨hb9, ⟨hd, rfl⟩ | ⟨hd, hs, rfl⟩ | ⟨hd, hs, v9, rfl, hv9⟩⟩
      · rw [Hdn.out] at hd; cases hd
      · rw [Hln.out] at hs; omega
      rw [HK.out.ahead] at hv9
      have HR9 := Lib.hid hv9
      have HF9 := Lib.hid (HF8.out.below hb9)
      have HW9 := Lib.hid (HW8.out.below hb9)
      have HV9 := Lib.hid (HV8.out.below hb9)
      have HB9 := Lib.hid (below_then HB8.out HB8.out.size hb9)
      have Hs89 := Lib.hid hb9.size
      clear hb9 hd hs hv9
      have R9 := flash_read w9 b bc o g HF9.out 4608 512 (by omega) (by omega)
      go_wp2_with fail
      refine R9.mono ?_
      clear R9
      rintro e w10 ⟨hb10, ⟨hd, rfl⟩ | ⟨hd, hs, rfl⟩ | ⟨hd, hs, v10, rfl, hv10⟩⟩
      · rw [Hdn.out] at hd; cases hd
      · rw [Hln.out] at hs; omega
      rw [HK.out.behind] at hv10
      obtain ⟨A10, c10, rfl, hc10, hr10⟩ := own_row hv10
      have HR10 := Lib.hid hr10
      have HR910 := Lib.hid (own_below HR9.out hb10)
      have HW10 := Lib.hid (HW9.out.below hb10)
      have HV10 := Lib.hid (HV9.out.below hb10)
      have HB10 := Lib.hid (below_then HB9.out HB9.out.size hb10)
      have Hs810 := Lib.hid (Nat.le_trans Hs89.out hb10.size)
      clear hb10 hd hs hv10 hr10 hc10
      have hforms : ∃ A c, v9 = .slice A 512 c := by obtain ⟨A, c, e, _⟩ := own_form HR9.out; exact ⟨A, c, e⟩
      obtain ⟨A9, c9, rfl⟩ := hforms
      go_wp2_with (at_builtin; go_must (refine wpList_app elem8 rfl _ _ rfl w8.heap.size (.slice A9 512 c9) 512 (u8s (List.replicate 512 255)) rfl HR910.out A10 512 c10 (u8s (List.replicate 512 255)) rfl HR10.out (by rw [u8s_length, List.length_replicate]) (one8 _) 1024 rfl (u8s (List.replicate 1024 255)) (by rw [← u8s_append, List.replicate_append_replicate]) (by omega) (by omega) Hs810.out ?_); intro A11 c11 w11 ho11 hg11 ha11)
      have hob := own_from HR910.out
      have HB11 := Lib.hid (below_grown HB10.out hg11.out (Nat.le_trans HB8.out.size Hs810.out) fun k hk => Nat.le_trans HB8.out.size (hob k hk))
      have HW11 := Lib.hid (HW10.out.keep fun z hz hS => grown_block hg11.out hz fun h => by have := hob z h; omega)
      have HV11 := Lib.hid (HV10.out.keep fun z hz hS => grown_block hg11.out hz fun h => by have := hob z h; omega)
      obtain ⟨A11', c11', e11, _, hr11⟩ := own_row ho11.out
      simp only [Value.slice.injEq] at e11
      obtain ⟨rfl, _, rfl⟩ := e11
      have HR11 := Lib.hid hr11
      clear hob hr11 ha11
      go_loopw [104] (fun i wr => ∃ k : Nat, k ≤ 1024 ∧ i = .int .i64 k ∧ Hid (Below w11.heap.size w11 wr)) (fun i _ => 1024 - (intOf i).toNat)
      case atStart => exact ⟨0, by omega, rfl, Below.refl _ _⟩
      case round =>
        obtain ⟨k, hk, rfl, hbe⟩ := hrel
        by_cases hkm : k < 1024
        · obtain ⟨ba, oa, rfl, _, q0⟩ := (HR11.out.below hbe.out).at_ (ones_get hkm)
          go_wp2_with fail
          go_roundw
          case rel => exact ⟨k + 1, by omega, by go_num, hbe⟩
          case measure => simp [intOf]; omega
        · obtain rfl : k = 1024 := by omega
          have HB12 := Lib.hid (below_then HB11.out HB11.out.size hbe.out)
          have A12 := law_all v8 hv l l _ (HV11.out.below hbe.out) (HW11.out.below hbe.out) (by have := Hl12.out; omega) (fun y hy => by have := Hcd.out y hy; omega)
          rw [(allW_iff l l).2 rfl] at A12
          clear hbe
          go_wp2_with fail
          refine A12.mono ?_
          clear A12
          rintro e w13 ⟨rfl, hb13⟩
          have HB13 := Lib.hid (below_then HB12.out HB12.out.size hb13)
          have AW := law_awake w13
          clear hb13
          go_wp2_with fail
          refine AW.mono ?_
          rintro e w14 ⟨rfl, hb14⟩
          have HB14 := Lib.hid (below_then HB13.out HB13.out.size hb14)
          clear hb14
          go_wp2_with fail
          go_ret
          exact ⟨rfl, HB14.out⟩
end Go.Proofs.Ytmejngojpffcgaa

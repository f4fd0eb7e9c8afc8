import Derived.Test.YtmejngojpffcgaaWrds
import Derived.Test.YtmejngojpffcgaaProg1
namespace Go.Ls
open Go.RowKit
theorem results_tmp3 {fn : Func} {t u v : Tmp} (h : fn.results = #[.tmp t, .tmp u, .tmp v]) (tmps : Array Value) (P : Program) (w : World) :
    (results fn tmps).run P w = .ok (.tuple #[tmps.getD t undef, tmps.getD u undef, tmps.getD v undef]) w := by
  simp [results, h]
theorem seg_length {f : Fl} {k n : Nat} (h : k + n ≤ f.cells.length) : (f.seg k n).length = n := by simp [Fl.seg]; omega
end Go.Ls
namespace Go.Proofs.Ytmejngojpffcgaa
open Go.RowKit Go.Ls
def RetLoad (w : World) (f : Fl) (k n : Nat) (e : Ending) (w' : World) : Prop :=
  Below w.heap.size w w' ∧
  ((f.down = true ∧ e = .returned (.tuple #[.slice none 0 0, .int .i64 0, .int .i64 12])) ∨
   (f.down = false ∧ f.cells.length < k + n ∧ e = .returned (.tuple #[.slice none 0 0, .int .i64 0, .int .i64 10])) ∨
   (f.down = false ∧ k + n ≤ f.cells.length ∧ ∃ v, e = .returned (.tuple #[v, .int .i64 (wordsEnd (f.seg k n)), .int .i64 0]) ∧ WordsAt (From w.heap.size) w' v (wordsP (f.seg k n))))
set_option maxRecDepth 100000 in
set_option maxHeartbeats 1000000 in
theorem dict_load {D : Nat → Prop} (w : World) (b bc o : Nat) (f : Fl) (h : FlashAt w D b bc o f) (k n : Nat) (hk : k < 9223372036854775808) (hn : n < 9223372036854775808) (hk4 : k % 4 = 0) (hn4 : n % 4 = 0) (hc : f.cells.length ≤ 1000000) :
    Calls Try.prog 19 #[.pointer (some ⟨b, 0, none⟩), .int .i64 k, .int .i64 n] w (RetLoad w f k n) := by
  have R := flash_read w b bc o f h k n hk hn
  have t1 := tmod4 k
  have t2 := tmod4 n
  have k0 : ¬ (k : Int) < 0 := by omega
  have n0 : ¬ (n : Int) < 0 := by omega
  have m1 : Int.tmod (k : Int) 4 = 0 := by rw [t1, hk4]; rfl
  have m2 : Int.tmod (n : Int) 4 = 0 := by rw [t2, hn4]; rfl
  clear h t1 t2 hk4 hn4
  go_enter Try.func19, Try.ntmps19
  go_wp2_with fail
  refine R.mono ?_
  rintro e w1 ⟨hb1, ⟨hd, rfl⟩ | ⟨hd, hs, rfl⟩ | ⟨hd, hs, v, rfl, hv⟩⟩
  · have Hb1 := Lib.hid hb1; clear hb1
    go_wp2_with fail
    refine bodyPost_ret (results_tmp3 rfl _ _ _) rfl ⟨Hb1.out, .inl ⟨hd, rfl⟩⟩
  · have Hb1 := Lib.hid hb1; clear hb1
    go_wp2_with fail
    refine bodyPost_ret (results_tmp3 rfl _ _ _) rfl ⟨Hb1.out, .inr (.inl ⟨hd, hs, rfl⟩)⟩
  · have hl := seg_length hs
    obtain ⟨A, c, rfl, hcc, hr⟩ := own_row hv
    have W := dict_words (S := fun z => w.heap.size ≤ z) (.slice A n c) (f.seg k n) w1 ⟨A, c, by rw [hl], by rw [hl]; exact hcc, hr⟩ (by omega)
    have Hb1 := Lib.hid hb1; clear hb1 hv hr
    go_wp2_with fail
    refine W.mono ?_
    rintro e w2 ⟨⟨v', rfl, hw⟩, hb2⟩
    have Hw := Lib.hid hw
    have Hb2 := Lib.hid hb2
    clear hw hb2
    go_wp2_with fail
    refine bodyPost_ret (results_tmp3 rfl _ _ _) rfl ⟨below_next Hb1.out Hb2.out, .inr (.inr ⟨hd, hs, v', rfl, Hw.out.mono fun z hz => Nat.le_trans Hb1.out.size hz⟩)⟩
theorem dict_load_bad (p : Value) (k n : Int) (w : World) (h : k < 0 ∨ n < 0 ∨ k % 4 ≠ 0 ∨ n % 4 ≠ 0) :
    Calls Try.prog 19 #[p, .int .i64 k, .int .i64 n] w fun e w' => e = .returned (.tuple #[.slice none 0 0, .int .i64 0, .int .i64 2]) ∧ w = w' := by
  by_cases h1 : k < 0
  · go_enter Try.func19, Try.ntmps19
    go_wp2_with fail
    exact bodyPost_ret (results_tmp3 rfl _ _ _) rfl ⟨rfl, rfl⟩
  · by_cases h2 : n < 0
    · go_enter Try.func19, Try.ntmps19
      go_wp2_with fail
      exact bodyPost_ret (results_tmp3 rfl _ _ _) rfl ⟨rfl, rfl⟩
    · by_cases h3 : k % 4 = 0
      · have h4 : (n % 4 != 0) = true := by simp; omega
        have h4' : ¬ n % 4 = 0 := by omega
        have h3' : (k % 4 != 0) = false := by simp; omega
        clear h
        go_enter Try.func19, Try.ntmps19
        go_wp2_with fail
        exact bodyPost_ret (results_tmp3 rfl _ _ _) rfl ⟨rfl, rfl⟩
      · have h3' : (k % 4 != 0) = true := by simp; omega
        clear h
        go_enter Try.func19, Try.ntmps19
        go_wp2_with fail
        exact bodyPost_ret (results_tmp3 rfl _ _ _) rfl ⟨rfl, rfl⟩
end Go.Proofs.Ytmejngojpffcgaa

/- Part of the proof of lightshiplaw15.DictNone. No condition beyond those each theorem names. -/
import Derived.Test.YtmejngojpffcgaaKdict
namespace Go.Proofs.Ytmejngojpffcgaa
open Go.RowKit Go.Ls
attribute [local irreducible] wpQuiet wpList Code.wp
/-- A pointer to no flash. -/
def NoFlash (w : World) (p : Value) : Prop := ∀ W, Below w.heap.size w W → Calls Try.prog 50 #[p] W fun e w' => e = .returned (.int .i64 1) ∧ W = w'
theorem read_none (w : World) (p : Value) (h : NoFlash w p) (k n : Int) : Calls Try.prog 24 #[p, .int .i64 k, .int .i64 n] w fun e w' => e = .returned (.tuple #[.slice none 0 0, .int .i64 1]) ∧ w = w' := by
  have M := h w (Below.refl _ _)
  go_enter Try.func24, Try.ntmps24
  go_wp2_with fail
  refine M.mono ?_
  rintro e w' ⟨rfl, rfl⟩
  go_wp2_with fail
  go_ret2
  exact ⟨rfl, rfl⟩
def errP (k n : Int) : Int := if 0 ≤ k ∧ 0 ≤ n ∧ k % 4 = 0 ∧ n % 4 = 0 then 1 else 2
theorem load_none (w : World) (p : Value) (h : NoFlash w p) (k n : Int) : Calls Try.prog 19 #[p, .int .i64 k, .int .i64 n] w fun e w' => e = .returned (.tuple #[.slice none 0 0, .int .i64 0, .int .i64 (errP k n)]) ∧ w = w' := by
  by_cases hr : 0 ≤ k ∧ 0 ≤ n ∧ k % 4 = 0 ∧ n % 4 = 0
  · have he : errP k n = 1 := if_pos hr
    rw [he]
    obtain ⟨h1, h2, h3, h4⟩ := hr
    have R := read_none w p h k n
    have k0 : ¬ k < 0 := by omega
    have n0 : ¬ n < 0 := by omega
    clear he h
    go_enter Try.func19, Try.ntmps19
    go_wp2_with fail
    refine R.mono ?_
    rintro e w' ⟨rfl, rfl⟩
    go_wp2_with fail
    exact bodyPost_ret (results_tmp3 rfl _ _ _) rfl ⟨rfl, rfl⟩
  · have he : errP k n = 2 := if_neg hr
    rw [he]
    exact dict_load_bad p k n w (by omega)
theorem append_none (w : World) (p : Value) (h : NoFlash w p) (k n : Int) (a b c : Value) : Calls Try.prog 21 #[p, .int .i64 k, .int .i64 n, .agg #[a, b, c]] w fun e w' => e = .returned (.tuple #[.slice none 0 0, .int .i64 (errP k n)]) ∧ Below w.heap.size w w' := by
  have hb : Below w.heap.size w (w.alloc (.cells #[a, b, c] 25)) := (Below.refl _ w).alloc (Nat.le_refl _) _
  have L := load_none (w.alloc (.cells #[a, b, c] 25)) p (fun W hW => h W (hb.trans (hW.mono hb.size))) k n
  have he : errP k n = 1 ∨ errP k n = 2 := by unfold errP; split <;> simp
  have Hb := Lib.hid hb
  obtain ⟨er, her⟩ : ∃ er, er = errP k n := ⟨_, rfl⟩
  rw [← her] at L he ⊢
  have e1 : (er != 0) = true := by simp; omega
  have e2 : ¬ er = 0 := by omega
  clear h hb her he
  go_enter Try.func21, Try.ntmps21
  go_wp2_with fail
  refine L.mono ?_
  rintro e w' ⟨rfl, rfl⟩
  go_wp2_with fail
  go_ret2
  exact ⟨rfl, Hb.out⟩
theorem noFlash_nil (w : World) : NoFlash w (.pointer none) := fun W _ => may_nil W
theorem noFlash_zero (w : World) (z : Nat) (v0 v2 : Value) (A : Option Addr) (cw : Nat) (h : Blk w z 56 #[v0, .slice A 0 cw, v2, .bool false]) : NoFlash w (.pointer (some ⟨z, 0, none⟩)) := fun W hW => by
  have := may_at W z 0 cw v0 v2 false A (h.below hW h.lt)
  exact this
end Go.Proofs.Ytmejngojpffcgaa

/- lightshiplaw15.DictNone returns true at every pair of ints, and leaves all that was there as it was. No condition. -/
import Derived.Test.YtmejngojpffcgaaRows
import Derived.WalkKit
import Derived.ProofKit
import Derived.OpenShut
import Derived.Test.YtmejngojpffcgaaLnone
namespace Go.Proofs.Ytmejngojpffcgaa
open Go.ChangeShapes Go.WideShapes Go.ChangeAt Go.RowKit Go.Ls

theorem law_none (k n : Int) (hk : k < 9223372036854775808) (hn : n < 9223372036854775808) (w : World) :
    Calls Try.prog 6 #[.int .i64 k, .int .i64 n] w fun e w' => e = .returned (.bool true) ∧ Below w.heap.size w w' := by
  by_cases h1 : k < 0
  · exact none_v2 k n h1 w
  by_cases h2 : n < 0
  · exact none_v3 k n (by omega) h2 w
  by_cases h3 : k % 4 = 0
  · by_cases h4 : n % 4 = 0
    · obtain ⟨kn, rfl⟩ : ∃ kn : Nat, k = kn := ⟨k.toNat, by omega⟩
      obtain ⟨nn, rfl⟩ : ∃ nn : Nat, n = nn := ⟨n.toNat, by omega⟩
      by_cases h5 : kn ≤ 2048
      · by_cases h6 : kn + nn ≤ 2048
        · exact none_v1a kn nn (by omega) (by omega) (by omega) (by omega) h6 w
        · exact none_v1b kn nn (by omega) (by omega) (by omega) (by omega) h5 h6 w
      · exact none_v1c kn nn (by omega) (by omega) (by omega) (by omega) h5 w
    · exact none_v5 k n (by omega) (by omega) h3 h4 w
  · exact none_v4 k n (by omega) (by omega) h3 w

namespace dictNone
theorem own : ownKnob Try.prog.godebug = none := by kernel_rfl

theorem walk (a0 : Int) (a1 : Int) (w0 : (Lit.int .i64 a0).wf = true) (w1 : (Lit.int .i64 a1).wf = true) (w : World) :
    Calls Try.prog 6 #[.int .i64 a0, .int .i64 a1] w fun e w' => e = .returned (.bool true) ∧ Below w.heap.size w w' := by
  have hm : IntKind.i64.max = 9223372036854775807 := by decide
  have h0 : a0 ≤ IntKind.i64.max := by simp only [Lit.wf, Bool.and_eq_true, decide_eq_true_eq] at w0; exact w0.2
  have h1 : a1 ≤ IntKind.i64.max := by simp only [Lit.wf, Bool.and_eq_true, decide_eq_true_eq] at w1; exact w1.2
  rw [hm] at h0 h1
  exact law_none a0 a1 (by omega) (by omega) w

set_option maxRecDepth 100000 in
theorem lifted (os : Os) (started : os.Started) (H : Type) (enc : TypeId × Value → H) :
    ReturnsInHanded {} Try.checked os 6 .any (Rows.dictNoneSpec.pre6 enc Try.prog Try.f6 Rows.dictNoneRow.domain false) (Rows.dictNoneSpec.post enc Try.prog Try.f6 false true false false) := by
  refine returnsInHanded_of_change (C := Try.checked) own started (by kernel_rfl) Try.func6
    (ChangeSpec.witness6 (enc := enc) (C := Try.checked) false ⟨#[], #[.int .i64 0, .int .i64 0], []⟩ 8 (by kernel_rfl) (by kernel_rfl) (by kernel_rfl) (by kernel_rfl)) ?_
  intro W base args ds gs before hval0 hW hcnd _
  have hval : ∀ (j : Nat) t v, Try.f6.params[j]? = some t → args[j]? = some v → Value.okWide Try.prog W .any base t v := hval0
  have hW' := hW
  obtain ⟨p, q, hA0, hV, rfl, hfz, hnd⟩ := hW
  have hA : DataW.TrodAll enc Try.prog W 0 (fun _ => true) true Try.f6.params.toList args.toList ds p := hA0
  rw [Try.params6] at hA hval
  obtain ⟨v0, vs0, d0, ds0, p0, q0, hargs, rfl, rfl, h0, r0⟩ := trodAll_cons hA
  obtain ⟨v1, vs1, d1, ds1, p1, q1, rfl, rfl, rfl, h1, r1⟩ := trodAll_cons r0
  obtain ⟨rfl, rfl, rfl⟩ := trodAll_nil r1
  obtain rfl : args = #[v0, v1] := by cases args; simp_all
  obtain ⟨rfl, rfl⟩ := trodVars_none hV
  obtain ⟨a0, rfl, rfl, rfl, w0⟩ := open_int Try.underlying3 (hval 0 3 v0 rfl rfl) h0
  obtain ⟨a1, rfl, rfl, rfl, w1⟩ := open_int Try.underlying3 (hval 1 3 v1 rfl rfl) h1
  clear hA0 hval0
  simp only [List.append_nil] at hW'
  refine (walk a0 a1 w0 w1 W).mono fun e W' ⟨he, hg⟩ => ?_
  subst he
  refine ⟨_, rfl, _, _, _, [], [], [], hW', (trodAll_cons_mk (shut_bool Try.underlying4 _) trodAll_mk0), (trodAll_cons_mk (shut_int Try.underlying3 w0) (trodAll_cons_mk (shut_int Try.underlying3 w1) trodAll_mk0)), rfl, hg.frame _, fun h => by cases h⟩

theorem over : Rows.dictNoneRow.holds Try.pinned (OpenSpec.ofChange Rows.dictNoneSpec) :=
  OpenClaim.holds_of_wide 6 Try.f6 rfl rfl rfl rfl rfl rfl rfl ⟨rfl, rfl, rfl, rfl, rfl⟩ rfl rfl rfl rfl rfl (by kernel_rfl) Try.func6 (by kernel_rfl)
    (of_decide_eq_true (by kernel_rfl)) (by unfold Func.isWrapper; first | (rw [if_pos (by decide +kernel)]; kernel_rfl) | (rw [if_neg (by decide +kernel)]; exact ⟨rfl, rfl⟩))
    (fun os started H enc _ => lifted os started H enc)

/-- the statement -/
theorem proved : Rows.DictNoneSaid :=
  over
#print axioms proved
end dictNone
end Go.Proofs.Ytmejngojpffcgaa

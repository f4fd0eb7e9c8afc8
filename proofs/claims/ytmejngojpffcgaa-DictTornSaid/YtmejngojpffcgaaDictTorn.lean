/- lightshiplaw15.DictTorn returns true at every list of words, word, uint8 and mask, and leaves all that was there as it was. No condition. -/
import Derived.Test.YtmejngojpffcgaaRows
import Derived.WalkKit
import Derived.ProofKit
import Derived.OpenShut
import Derived.Carry
import Derived.SizedLaws
import Derived.Test.YtmejngojpffcgaaOpen
import Derived.Test.YtmejngojpffcgaaLtorn
namespace Go.Proofs.Ytmejngojpffcgaa
open Go.ChangeShapes Go.WideShapes Go.ChangeAt Go.RowKit Go.Ls
namespace dictTorn
theorem own : ownKnob Try.prog.godebug = none := by kernel_rfl
theorem laid : laidOutB Try.prog = true := by kernel_rfl

theorem torn_call {S : Nat → Prop} (v xv mv : Value) (L : List Wd) (x : Wd) (k : Int) (mask : List UInt8) (w : World) (hl : WordsAt S w v L) (hx : WdAt S w xv x) (hm : Sl8 S w mv mask) (hS : ∀ z, S z → z < w.heap.size) (hn : L.length ≤ maxLen) (hxc : x.code.length ≤ maxLen) (hml : mask.length ≤ 140737488355328) (wk : (Lit.int .u8 k).wf = true) :
    Calls Try.prog 9 #[v, xv, .int .u8 k, mv] w fun e w' => e = .returned (.bool true) ∧ Below w.heap.size w w' := by
  obtain ⟨z, rfl⟩ := u8_of_wf wk
  exact law_torn v xv mv L x z.toNat mask w hl hx hm hS hn hxc hml (by have := z.toNat_lt; omega)

set_option maxRecDepth 100000 in
theorem lifted (os : Os) (started : os.Started) (H : Type) (enc : TypeId × Value → H) :
    ReturnsInHanded {} Try.checked os 9 .any (Rows.dictTornSpec.pre6 enc Try.prog Try.f9 Rows.dictTornRow.domain false) (Rows.dictTornSpec.post enc Try.prog Try.f9 false true false false) := by
  refine returnsInHanded_of_change_sized (C := Try.checked) own started (by kernel_rfl) Try.func9
    (ChangeSpec.witness6 (enc := enc) (C := Try.checked) false ⟨#[], #[.slice none 0 0, .agg #[.string ⟨#[]⟩, .int .u8 0, .slice none 0 0], .int .u8 0, .slice none 0 0], []⟩ 8 (by kernel_rfl) (by kernel_rfl) (by kernel_rfl) (by kernel_rfl)) ?_
  intro W base args ds gs before hval0 hW hcnd hsz0 _
  have hval : ∀ (j : Nat) t v, Try.f9.params[j]? = some t → args[j]? = some v → Value.okWide Try.prog W .any base t v := hval0
  have hW' := hW
  obtain ⟨p, q, hA0, hV, rfl, hfz, hnd⟩ := hW
  have hA : DataW.TrodAll enc Try.prog W 0 (fun _ => true) true Try.f9.params.toList args.toList ds p := hA0
  rw [Try.params9] at hA hval
  obtain ⟨v0, vs0, d0, ds0, p0, q0, hargs, rfl, rfl, h0, r0⟩ := trodAll_cons hA
  obtain ⟨v1, vs1, d1, ds1, p1, q1, rfl, rfl, rfl, h1, r1⟩ := trodAll_cons r0
  obtain ⟨v2, vs2, d2, ds2, p2, q2, rfl, rfl, rfl, h2, r2⟩ := trodAll_cons r1
  obtain ⟨v3, vs3, d3, ds3, p3, q3, rfl, rfl, rfl, h3, r3⟩ := trodAll_cons r2
  obtain ⟨rfl, rfl, rfl⟩ := trodAll_nil r3
  obtain rfl : args = #[v0, v1, v2, v3] := by cases args; simp_all
  obtain ⟨rfl, rfl⟩ := trodVars_none hV
  have hsz : (DataW.weightsEach Try.prog [29, 25, 5, 27] [d0, d1, d2, d3]).all (· ≤ reachBytes) = true := hsz0
  obtain ⟨L0, a0, n0, c0, D0⟩ := arg_words (hval 0 29 v0 rfl rfl) h0
  obtain ⟨x1, a1, n1, c1, D1⟩ := arg_word (hval 1 25 v1 rfl rfl) h1
  obtain ⟨a2, rfl, rfl, rfl, w2⟩ := open_int Try.underlying5 (hval 2 5 v2 rfl rfl) h2
  obtain ⟨l3, a3, n3, D3⟩ := arg_bytes (hval 3 27 v3 rfl rfl) h3
  have b3 := bytes_reach hsz (j := 3) rfl rfl D3
  clear hA0 hval0
  simp only [List.append_nil, List.nil_append] at hW'
  have t0 : ∀ x ∈ p0, x.block < W.heap.size := fun x hx => by simpa using hW'.lt x (by simp [hx])
  have t1 : ∀ x ∈ p1, x.block < W.heap.size := fun x hx => by simpa using hW'.lt x (by simp [hx])
  have t3 : ∀ x ∈ p3, x.block < W.heap.size := fun x hx => by simpa using hW'.lt x (by simp [hx])
  refine (torn_call v0 v1 v3 L0 x1 a2 l3 W a0 a1 a3 (fun z hz => hz) n0 n1 (by omega) w2).mono fun e W' ⟨he, hg⟩ => ?_
  subst he
  refine ⟨_, rfl, _, _, _, [], _, [], hW', (trodAll_cons_mk (shut_bool Try.underlying4 _) trodAll_mk0), (trodAll_cons_mk (Below.trod laid (by kernel_rfl) (of_decide_eq_true (by kernel_rfl)) h0 hg t0) (trodAll_cons_mk (Below.trod laid (by kernel_rfl) (of_decide_eq_true (by kernel_rfl)) h1 hg t1) (trodAll_cons_mk (shut_int Try.underlying5 w2) (trodAll_cons_mk (Below.trod laid (by kernel_rfl) (of_decide_eq_true (by kernel_rfl)) h3 hg t3) trodAll_mk0)))), rfl, hg.frame _, fun h => by cases h⟩

theorem over : Rows.dictTornRow.holds Try.pinned (OpenSpec.ofChange Rows.dictTornSpec) :=
  OpenClaim.holds_of_wide 9 Try.f9 rfl rfl rfl rfl rfl rfl rfl ⟨rfl, rfl, rfl, rfl, rfl⟩ rfl rfl rfl rfl rfl (by kernel_rfl) Try.func9 (by kernel_rfl)
    (of_decide_eq_true (by kernel_rfl)) (by unfold Func.isWrapper; first | (rw [if_pos (by decide +kernel)]; kernel_rfl) | (rw [if_neg (by decide +kernel)]; exact ⟨rfl, rfl⟩))
    (fun os started H enc _ => lifted os started H enc)

/-- the statement -/
theorem proved : Rows.DictTornSaid :=
  over
#print axioms proved
end dictTorn
end Go.Proofs.Ytmejngojpffcgaa

import Derived.Test.YtmejngojpffcgaaProg
import Derived.Test.YtmejngojpffcgaaApp
import Derived.WalkSpells
import Derived.Lib.SliceRun
import Derived.Laws.BytesArg
namespace Go.Proofs.Ytmejngojpffcgaa
open Go.RowKit Go.Ls

theorem elem8 : ElemOK Try.prog 27 5 (.int .u8 0) 1 1 := ⟨Try.underlying27, by kernel_rfl, rfl, by omega⟩
/-- A new slice of bytes that may grow, and nothing else that was there is another one. -/
def RetRow8 (w : World) (l : List UInt8) (e : Ending) (w' : World) : Prop := (∃ v, e = .returned v ∧ w'.ownsRow w.heap.size 5 1 v l.length (u8s l)) ∧ Below w.heap.size w w'
set_option maxRecDepth 100000 in
set_option maxHeartbeats 400000 in
theorem clone8 {S : Nat → Prop} (v : Value) (l : List UInt8) (w : World) (hl : Sl8 S w v l) (hn : l.length ≤ 140737488355328) :
    Calls Try.prog 63 #[v] w (RetRow8 w l) := by
  obtain ⟨A, c, rfl, hc, hr⟩ := hl
  have heq := fun (w : World) => Lib.run_eql_slice_nil (P := Try.prog) w 27 5 A l.length c 0 0 Try.underlying27
  cases A with
  | none =>
    have h0 : l = [] := by
      cases l with
      | nil => rfl
      | cons x l => obtain ⟨b, o, e, _⟩ := hr (by simp [u8s]); cases e
    subst h0
    simp only [List.length_nil] at *
    go_enter Try.func63, Try.ntmps63
    go_wp2
    go_ret
    exact ⟨⟨_, rfl, World.ownsRow_nil _ _ _ _⟩, Below.refl _ _⟩
  | some a =>
    have Hr := Lib.hid hr
    clear hr
    go_enter Try.func63, Try.ntmps63
    go_wp2_with (at_builtin; go_must (refine wpList_app elem8 rfl _ _ rfl w.heap.size _ 0 [] rfl (own_empty _ _ _ _ (Nat.le_refl _)) (some a) l.length c (u8s l) rfl (Hr.out.below ((Below.refl _ _).alloc (Nat.le_refl _) _)) (by rw [u8s_length, Nat.mul_one]) (one8 l) l.length (by omega) (u8s l) rfl (by omega) (by omega) (by simp) ?_); intro A1 c1 w1 ho1 hg1 _)
    go_ret
    refine ⟨⟨_, rfl, ho1.out⟩, ?_⟩
    · exact below_grown ((Below.refl _ _).alloc (Nat.le_refl _) _) hg1.out (by simp) (fun k hk => by cases hk; exact Nat.le_refl _)
set_option maxRecDepth 100000 in
theorem str_of_u8s {S : Nat → Prop} {w : World} {A : Option Addr} {l : List UInt8} (hr : Row S w A (u8s l)) (c : Nat) : (convert 27 9 (.slice A l.length c)).run Try.prog w = .ok (.string ⟨l.toArray⟩) w := by
  rcases Nat.eq_zero_or_pos l.length with h0 | h0
  · have : l = [] := List.eq_nil_of_length_eq_zero h0
    subst this
    rw [run_convert_bytes_string w _ _ 5 A _ c Try.underlying27 Try.underlying5 Try.underlying9]
    cases A with
    | none => simp [Conv.bytesToString]; rfl
    | some a => simp [Conv.bytesToString, loadCells, loadCellsFrom]; rfl
  · obtain ⟨b, o, rfl, _, hc⟩ := hr (by rw [u8s_length]; exact h0)
    have := run_convert_bytes_arg w 27 5 Try.underlying27 Try.underlying5 b o l.length c (l.map b8) (by simp) (fun i hi => by
      rw [hc i (.int .u8 (b8 l[i])) (u8s_get hi)]
      simp [List.getD, hi]) 9 Try.underlying9
    rw [this]
    congr 3
    unfold strOfNums
    congr 2
    rw [List.map_map]
    conv => rhs; rw [← List.map_id l]
    apply List.map_congr_left
    intro x _
    simp [b8]
set_option maxRecDepth 100000 in
set_option maxHeartbeats 400000 in
theorem bytes_equal {S S' : Nat → Prop} (v v' : Value) (l l' : List UInt8) (w : World) (hl : Sl8 S w v l) (hl' : Sl8 S' w v' l') :
    Calls Try.prog 118 #[v, v'] w fun e w' => e = .returned (.bool (l == l')) ∧ w = w' := by
  obtain ⟨A, c, rfl, hc, hr⟩ := hl
  obtain ⟨A', c', rfl, hc', hr'⟩ := hl'
  have h1 := str_of_u8s hr c
  have h2 := str_of_u8s hr' c'
  have Hr := Lib.hid hr; clear hr
  have Hr' := Lib.hid hr'; clear hr'
  go_enter Try.func118, Try.ntmps118
  go_wp2
  go_ret
  exact ⟨rfl, rfl⟩
def idx8 (p : UInt8 → Bool) (l : List UInt8) : Int := if l.any p then (l.findIdx p : Int) else -1
/-- What a closure says of a byte, in a world that stays. -/
def Pred8 (w : World) (fv : Value) (p : UInt8 → Bool) : Prop := ∃ f cap, fv = .func (.func f) #[] cap ∧ (∀ args W, (callFunc f args).run Try.prog W = .ok (.enter f args) W) ∧ ∀ x : UInt8, Calls Try.prog f (#[.int .u8 (b8 x)] ++ cap) w fun e w' => e = .returned (.bool (p x)) ∧ w = w'
set_option maxRecDepth 100000 in
set_option maxHeartbeats 400000 in
theorem index8 {S : Nat → Prop} (v : Value) (l : List UInt8) (w : World) (hl : Sl8 S w v l) (hn : l.length ≤ 140737488355328) (fv : Value) (p : UInt8 → Bool) (hp : Pred8 w fv p) :
    Calls Try.prog 133 #[v, fv] w fun e w' => e = .returned (.int .i64 (idx8 p l)) ∧ w = w' := by
  obtain ⟨A, c, rfl, hc, hr⟩ := hl
  obtain ⟨f, cap, rfl, hcf, hp⟩ := hp
  have Hr := Lib.hid hr; clear hr
  have Hp := Lib.hid hp; clear hp
  go_enter Try.func133, Try.ntmps133
  go_wp2
  go_loop [5, 8] (fun _ i => ∃ k : Nat, k ≤ l.length ∧ i = .int .i64 k ∧ Hid (∀ j x, l[j]? = some x → j < k → p x = false)) (fun _ i => l.length - (intOf i).toNat)
  case atStart => exact ⟨0, Nat.zero_le _, rfl, fun j x _ h => by omega⟩
  case round =>
    obtain ⟨k, hk, rfl, hno⟩ := hrel
    by_cases hlt : k < l.length
    · obtain ⟨b, o, rfl, _, hcell⟩ := Hr.out.at_ (u8s_get hlt)
      have HX := Hp.out l[k]
      cases hpx : p l[k] with
      | false =>
        rw [hpx] at HX
        have Hpx := Lib.hid hpx; clear hpx
        have HX' := Lib.hid HX; clear HX
        go_wp2_with (first | (refine HX'.out.mono ?_; rintro e w' ⟨rfl, rfl⟩))
        go_round
        case rel => exact ⟨k + 1, by omega, by go_num, fun j x hj h => by
          rcases Nat.lt_or_ge j k with h' | h'
          · exact hno.out j x hj h'
          · have : j = k := by omega
            subst this
            rw [List.getElem?_eq_getElem hlt] at hj
            cases hj
            exact Hpx.out⟩
        case measure => simp [intOf]; omega
      | true =>
        rw [hpx] at HX
        have Hpx := Lib.hid hpx; clear hpx
        have HX' := Lib.hid HX; clear HX
        go_wp2_with (first | (refine HX'.out.mono ?_; rintro e w' ⟨rfl, rfl⟩))
        go_ret
        refine ⟨ret_int ?_, rfl⟩
        have h1 : l.any p = true := List.any_eq_true.2 ⟨l[k], List.getElem_mem hlt, Hpx.out⟩
        rw [idx8, if_pos h1]
        congr 1
        refine (List.findIdx_eq hlt |>.2 ⟨Hpx.out, fun j hj => ?_⟩).symm
        simpa using hno.out j l[j] (by simp) hj
    · have : k = l.length := by omega
      subst this
      go_wp2
      go_ret
      refine ⟨ret_int ?_, rfl⟩
      have h1 : l.any p = false := by
        rw [List.any_eq_false]
        intro x hx
        obtain ⟨j, hj, rfl⟩ := List.mem_iff_getElem.1 hx
        simp [hno.out j l[j] (by simp) hj]
      rw [idx8, h1]
      rfl
set_option maxRecDepth 100000 in
theorem contains8 {S : Nat → Prop} (v : Value) (l : List UInt8) (w : World) (hl : Sl8 S w v l) (hn : l.length ≤ 140737488355328) (fv : Value) (p : UInt8 → Bool) (hp : Pred8 w fv p) :
    Calls Try.prog 128 #[v, fv] w fun e w' => e = .returned (.bool (l.any p)) ∧ w = w' := by
  have H := index8 v l w hl hn fv p hp
  go_enter Try.func128, Try.ntmps128
  cases h : l.any p
  all_goals
    rw [idx8, h] at H
    have H' := Lib.hid H; clear H
    have Hh := Lib.hid h; clear h
    go_wp2_with (go_at_call 133; refine H'.out.mono ?_; rintro e w' ⟨rfl, rfl⟩)
    go_ret
    exact ⟨ret_bool (by simp), rfl⟩
set_option maxRecDepth 100000 in
theorem blank1 (x : UInt8) (w : World) : Calls Try.prog 129 #[.int .u8 (b8 x)] w fun e w' => e = .returned (.bool (x != 255)) ∧ w = w' := by
  go_enter Try.func129, Try.ntmps129
  have h : (b8 x != 255) = (x != 255) := by
    by_cases h : x = 255
    · subst h; rfl
    · have : b8 x ≠ 255 := fun e => h (b8_inj (y := 255) e)
      have e1 : (b8 x == 255) = false := beq_eq_false_iff_ne.2 this
      have e2 : (x == 255) = false := beq_eq_false_iff_ne.2 h
      simp only [bne, e1, e2]
  go_wp2
  go_ret
  exact ⟨rfl, rfl⟩
theorem blank1_pred (w : World) : Pred8 w (.func (.func 129) #[] #[]) (· != 255) := ⟨_, _, rfl, fun args W => by go_simp, fun x => blank1 x w⟩
set_option maxRecDepth 100000 in
theorem record_blank {S : Nat → Prop} (v : Value) (l : List UInt8) (w : World) (hl : Sl8 S w v l) (hn : l.length ≤ 140737488355328) :
    Calls Try.prog 117 #[v] w fun e w' => e = .returned (.bool (!l.any (· != 255))) ∧ w = w' := by
  go_enter Try.func117, Try.ntmps117
  go_wp2_with (go_at_call 128; refine (contains8 v l _ hl hn _ _ (blank1_pred _)).mono ?_; rintro e w' ⟨rfl, rfl⟩)
  go_ret
  exact ⟨rfl, rfl⟩
end Go.Proofs.Ytmejngojpffcgaa

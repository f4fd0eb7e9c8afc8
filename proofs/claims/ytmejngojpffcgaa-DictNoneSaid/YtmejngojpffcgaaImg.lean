import Derived.Test.YtmejngojpffcgaaWd
import Derived.Test.YtmejngojpffcgaaBytes
namespace Go.Proofs.Ytmejngojpffcgaa
open Go.RowKit Go.Ls

theorem letter1 (x : UInt8) (w : World) : Calls Try.prog 91 #[.int .u8 (b8 x)] w fun e w' => e = .returned (.bool (letter x)) ∧ w = w' := by
  have hl : letter x = (decide (32 < b8 x) && decide (b8 x ≤ 126)) := by
    unfold letter b8
    congr 1
    · exact decide_eq_decide.2 (by rw [UInt8.lt_iff_toNat_lt]; simp; omega)
    · exact decide_eq_decide.2 (by rw [UInt8.le_iff_toNat_le]; simp; omega)
  rw [hl]
  go_enter Try.func91, Try.ntmps91
  by_cases h1 : 32 < b8 x
  · go_wp2_with fail
    go_ret
    exact ⟨ret_bool (by simp [h1]), rfl⟩
  · go_wp2_with fail
    go_ret
    exact ⟨ret_bool (by rw [decide_eq_false (by omega)]; rfl), rfl⟩
set_option maxRecDepth 100000 in
set_option maxHeartbeats 400000 in
theorem image_right {S : Nat → Prop} (v : Value) (x : Wd) (w : World) (hx : WdAt S w v x) :
    Calls Try.prog 61 #[v] w fun e w' => e = .returned (.bool x.right) ∧ Below w.heap.size w w' := by
  obtain ⟨cv, rfl, A, c, rfl, hc, hr⟩ := hx
  obtain ⟨name, flags, code⟩ := x
  simp only [wdV] at *
  have hlen : (⟨name.toArray⟩ : ByteArray).size = name.length := by simp [ByteArray.size]
  have hln : ∀ W : World, (Builtin.len_ #[9] 3 #[str name]).run Try.prog W = .ok (.int .i64 name.length) W := fun W => by
    rw [str, run_len_string W 9 3 _ Try.underlying9, hlen]
    rfl
  have hidx : ∀ (k : Nat) (y : UInt8) (W : World), name[k]? = some y → (Instr.index 9 (str name) (.int .i64 k)).run Try.prog W = .ok (.int .u8 (b8 y)) W := fun k y W hy => by
    have hk := (List.getElem?_eq_some_iff.1 hy).1
    rw [str, run_index_string W 9 _ .i64 k Try.underlying9, dif_pos (by rw [hlen]; omega)]
    have : name[k] = y := (List.getElem?_eq_some_iff.1 hy).2
    subst this
    rfl
  have hbe : Below w.heap.size w (w.alloc (.cells #[str name, .int .u8 (b8 flags), .slice A code.length c] 25)) := (Below.refl _ w).alloc (Nat.le_refl _) _
  have hb := Blk.new w 25 #[str name, .int .u8 (b8 flags), .slice A code.length c]
  have h0 := hb.cellv (j := 0) rfl
  have h1 := hb.cellv (j := 1) rfl
  have h2 := hb.cellv (j := 2) rfl
  simp only [List.getElem_toArray, List.getElem_cons_zero, List.getElem_cons_succ] at h0 h1 h2
  generalize hs : str name = sv at *
  have hf3 : b8 (flags &&& ~~~3) = 0 ↔ flags &&& ~~~3 = 0 := b8_eq0 _
  by_cases c1 : name = []
  · subst c1
    go_enter Try.func61, Try.ntmps61
    go_wp2_with fail
    go_ret
    exact ⟨ret_bool (by simp [Wd.right]), hbe⟩
  · have c1' : ¬ (name.length : Int) = 0 := fun e => c1 (List.eq_nil_of_length_eq_zero (by omega))
    have c1n : (name.length == 0) = false := by simpa using c1
    by_cases c2 : 31 < name.length
    · have c2' : ¬ (name.length : Int) ≤ 31 := by omega
      go_enter Try.func61, Try.ntmps61
      go_wp2_with fail
      go_ret
      exact ⟨ret_bool (by simp [Wd.right, c2]), hbe⟩
    · by_cases c3 : flags &&& ~~~3 = 0
      · rw [c3] at hf3
        by_cases c4 : 1000 < code.length
        · have c4' : ¬ (code.length : Int) ≤ 1000 := by omega
          have c3' : b8 (flags &&& ~~~3) = 0 := by rw [c3]; rfl
          go_enter Try.func61, Try.ntmps61
          go_wp2_with fail
          go_ret
          exact ⟨ret_bool (by simp [Wd.right, c4]), hbe⟩
        · have c3' : b8 (flags &&& ~~~3) = 0 := by rw [c3]; rfl
          have hres : (Wd.mk name flags code).right = name.all letter := by simp [Wd.right, c1, c2, c3, c4]
          rw [hres]
          have hb00 : b8 0 = 0 := rfl
          have c1b : ((name.length : Int) == 0) = false := by simpa using c1'
          have c4' : ¬ 1000 < (code.length : Int) := by omega
          have c2' : ¬ 31 < (name.length : Int) := by omega
          have Hidx := Lib.hid hidx; clear hidx
          go_enter Try.func61, Try.ntmps61
          go_wp2_with fail
          go_loop [28] (fun i => ∃ k : Nat, k ≤ name.length ∧ i = .int .i64 k ∧ Hid (∀ j y, name[j]? = some y → j < k → letter y = true)) (fun i => name.length - (intOf i).toNat)
          case atStart => exact ⟨0, Nat.zero_le _, rfl, fun j y _ h => by omega⟩
          case round =>
            obtain ⟨k, hk, rfl, hno⟩ := hrel
            by_cases hlt : k < name.length
            · have hy : name[k]? = some name[k] := List.getElem?_eq_getElem hlt
              have hix := fun W => Hidx.out k _ W hy
              have Hy := Lib.hid hy; clear hy
              generalize name[k] = y at *
              cases hl : letter y with
              | true =>
                have Hl := Lib.hid hl
                have HX := letter1 y
                rw [hl] at HX
                clear hl
                go_wp2_with (first | (refine (HX _).mono ?_; rintro e w' ⟨rfl, rfl⟩))
                go_round
                case rel => exact ⟨k + 1, by omega, by go_num, fun j x hj h => by
                  rcases Nat.lt_or_ge j k with h' | h'
                  · exact hno.out j x hj h'
                  · have : j = k := by omega
                    subst this
                    rw [Hy.out] at hj
                    cases hj
                    exact Hl.out⟩
                case measure => simp [intOf]; omega
              | false =>
                have Hl := Lib.hid hl
                have HX := letter1 y
                rw [hl] at HX
                clear hl
                go_wp2_with (first | (refine (HX _).mono ?_; rintro e w' ⟨rfl, rfl⟩))
                go_ret
                refine ⟨ret_bool ?_, hbe⟩
                symm
                rw [List.all_eq_false]
                exact ⟨y, List.mem_of_getElem? Hy.out, by rw [Hl.out]; simp⟩
            · obtain rfl : k = name.length := by omega
              go_wp2_with fail
              go_ret
              refine ⟨ret_bool ?_, hbe⟩
              symm
              rw [List.all_eq_true]
              intro y hy
              obtain ⟨j, hj, rfl⟩ := List.mem_iff_getElem.1 hy
              exact hno.out j _ (List.getElem?_eq_getElem hj) hj
      · have c3' : ¬ b8 (flags &&& ~~~3) = 0 := fun e => c3 ((b8_eq0 _).1 e)
        go_enter Try.func61, Try.ntmps61
        go_wp2_with fail
        go_ret
        exact ⟨ret_bool (by simp [Wd.right, c3]), hbe⟩
end Go.Proofs.Ytmejngojpffcgaa

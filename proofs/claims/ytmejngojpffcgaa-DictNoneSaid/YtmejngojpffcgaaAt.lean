import Derived.Test.YtmejngojpffcgaaCat
namespace Go.Proofs.Ytmejngojpffcgaa
open Go.RowKit Go.Ls

theorem or_join (x y : UInt8) : bits .or .i64 (b8 x * 256) (b8 y) = ((x.toNat * 256 + y.toNat : Nat) : Int) := by
  have hx := b8_range x
  have hy := b8_range y
  have := bits_join .i64 63 (by decide) (fun n h0 h1 => by rw [IntKind.wrap_i64]; omega) 8 (b8 x * 256) (b8 y) (by omega) (by omega) (by omega) (by omega) (by omega) (by omega)
  rw [this]; simp only [b8]; omega
theorem ne255 (x : UInt8) : (b8 x != 255) = (x != 255) := by
  by_cases h : x = 255
  · subst h; rfl
  · have : b8 x ≠ 255 := fun e => h (b8_inj (y := 255) e)
    have e1 : (b8 x == 255) = false := beq_eq_false_iff_ne.2 this
    have e2 : (x == 255) = false := beq_eq_false_iff_ne.2 h
    simp only [bne, e1, e2]
theorem cells4 {S : Nat → Prop} {w : World} {A : Option Addr} {l : List UInt8} (hr : Row S w A (u8s l)) (h4 : 4 ≤ l.length) :
    ∃ b o, A = some ⟨b, o, none⟩ ∧ w.cell? ⟨b, o, none⟩ = some (.int .u8 (b8 (l.getD 0 0))) ∧ w.cell? ⟨b, o + 1, none⟩ = some (.int .u8 (b8 (l.getD 1 0))) ∧ w.cell? ⟨b, o + 2, none⟩ = some (.int .u8 (b8 (l.getD 2 0))) ∧ w.cell? ⟨b, o + 3, none⟩ = some (.int .u8 (b8 (l.getD 3 0))) := by
  obtain ⟨b, o, e, _, hc⟩ := hr (by rw [u8s_length]; omega)
  have hg : ∀ j, j < 4 → w.cell? ⟨b, o + j, none⟩ = some (.int .u8 (b8 (l.getD j 0))) := fun j hj => by
    rw [hc j _ (u8s_get (show j < l.length by omega))]
    simp [List.getD, show j < l.length by omega]
  exact ⟨b, o, e, hg 0 (by omega), hg 1 (by omega), hg 2 (by omega), hg 3 (by omega)⟩
set_option maxRecDepth 100000 in
set_option maxHeartbeats 800000 in
theorem record_length {S : Nat → Prop} (v : Value) (l : List UInt8) (w : World) (hl : Sl8 S w v l) (hn : l.length ≤ 140737488355328) :
    Calls Try.prog 116 #[v] w fun e w' => e = .returned (.int .i64 (lenInt (recLen l))) ∧ ∃ n, w' = w.drewN n := by
  obtain ⟨A, c, rfl, hc, hr⟩ := hl
  by_cases h4 : l.length < 4
  · have hd : decide ((l.length : Int) < 4) = true := decide_eq_true (by omega)
    have hd' : decide (l.length < 4) = true := decide_eq_true h4
    have Hp := Lib.hid (show lenInt (recLen l) = -1 by unfold recLen; rw [if_pos h4]; rfl)
    clear hr
    go_enter Try.func116, Try.ntmps116
    go_wp2
    go_quiet (fail)
    go_wp2
    go_ret
    exact ⟨ret_int Hp.out.symm, ⟨_, rfl⟩⟩
  · obtain ⟨b, o, rfl, hc0, hc1, hc2, hc3⟩ := cells4 hr (by omega)
    clear hr
    have hd : decide ((l.length : Int) < 4) = false := decide_eq_false (by omega)
    have hd' : decide (l.length < 4) = false := decide_eq_false h4
    have i0 : (0 : Int) < (l.length : Int) := by omega
    have i1 : (1 : Int) < (l.length : Int) := by omega
    have i2 : (2 : Int) < (l.length : Int) := by omega
    have i3 : (3 : Int) < (l.length : Int) := by omega
    have n0 : 0 < l.length := by omega
    have n1 : 1 < l.length := by omega
    have n2 : 2 < l.length := by omega
    have n3 : 3 < l.length := by omega
    have Hrl := Lib.hid (show recLen l = if (l.getD 0 0 ^^^ l.getD 2 0 != 255 || l.getD 1 0 ^^^ l.getD 3 0 != 255) = true then none else if (l.getD 0 0).toNat * 256 + (l.getD 1 0).toNat > 4080 ∨ recSize ((l.getD 0 0).toNat * 256 + (l.getD 1 0).toNat) > l.length then none else some ((l.getD 0 0).toNat * 256 + (l.getD 1 0).toNat) by
      conv => lhs; unfold recLen
      rw [if_neg h4])
    generalize l.getD 0 0 = x0 at *
    generalize l.getD 1 0 = x1 at *
    generalize l.getD 2 0 = x2 at *
    generalize l.getD 3 0 = x3 at *
    have e02 := ne255 (x0 ^^^ x2)
    have e13 := ne255 (x1 ^^^ x3)
    cases h02 : (x0 ^^^ x2 != 255) with
    | true =>
      rw [h02] at e02
      have Hp := Lib.hid (show lenInt (recLen l) = -1 by rw [Hrl.out]; rw [h02]; rfl)
      clear h02 e13
      go_enter Try.func116, Try.ntmps116
      go_wp2
      go_quiet (fail)
      go_wp2
      go_ret
      exact ⟨ret_int Hp.out.symm, ⟨_, rfl⟩⟩
    | false =>
      rw [h02] at e02
      cases h13 : (x1 ^^^ x3 != 255) with
      | true =>
        rw [h13] at e13
        have Hp := Lib.hid (show lenInt (recLen l) = -1 by rw [Hrl.out]; rw [h02, h13]; rfl)
        clear h02 h13
        go_enter Try.func116, Try.ntmps116
        go_wp2
        go_quiet (fail)
        go_wp2
        go_ret
        exact ⟨ret_int Hp.out.symm, ⟨_, rfl⟩⟩
      | false =>
        rw [h13] at e13
        have Hrl2 := Lib.hid (show recLen l = if x0.toNat * 256 + x1.toNat > 4080 ∨ recSize (x0.toNat * 256 + x1.toNat) > l.length then none else some (x0.toNat * 256 + x1.toNat) by rw [Hrl.out]; rw [h02, h13]; rfl)
        have hor : bits .or .i64 (wrap64 (b8 x0 * 256)) (b8 x1) = ((x0.toNat * 256 + x1.toNat : Nat) : Int) := by
          have h0 := b8_range x0
          rw [show wrap64 (b8 x0 * 256) = b8 x0 * 256 by unfold wrap64; omega]
          exact or_join x0 x1
        have hlt : x0.toNat * 256 + x1.toNat < 65536 := by have := x0.toNat_lt; have := x1.toNat_lt; omega
        generalize x0.toNat * 256 + x1.toNat = n at *
        clear h02 h13 Hrl
        by_cases hb : n > 4080
        · have Hp := Lib.hid (show lenInt (recLen l) = -1 by rw [Hrl2.out, if_pos (.inl hb)]; rfl)
          go_enter Try.func116, Try.ntmps116
          go_wp2
          go_quiet (fail)
          go_wp2
          go_quiet (fail)
          go_wp2
          go_ret
          exact ⟨ret_int Hp.out.symm, ⟨_, rfl⟩⟩
        · have hs : recSize n ≤ 4092 := by unfold recSize padN; split <;> omega
          by_cases hf : recSize n > l.length
          · have Hp := Lib.hid (show lenInt (recLen l) = -1 by rw [Hrl2.out, if_pos (.inr hf)]; rfl)
            go_enter Try.func116, Try.ntmps116
            go_wp2
            go_quiet (fail)
            go_wp2
            go_quiet (fail)
            go_wp2_with (go_at_call 58; refine (record_size n (by omega) _).mono ?_; rintro e w' ⟨rfl, rfl⟩)
            go_ret
            exact ⟨ret_int Hp.out.symm, ⟨_, rfl⟩⟩
          · have Hp := Lib.hid (show lenInt (recLen l) = n by rw [Hrl2.out, if_neg (by omega)]; rfl)
            go_enter Try.func116, Try.ntmps116
            go_wp2
            go_quiet (fail)
            go_wp2
            go_quiet (fail)
            go_wp2_with (go_at_call 58; refine (record_size n (by omega) _).mono ?_; rintro e w' ⟨rfl, rfl⟩)
            go_ret
            exact ⟨ret_int Hp.out.symm, ⟨_, rfl⟩⟩
end Go.Proofs.Ytmejngojpffcgaa

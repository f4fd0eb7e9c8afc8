import Derived.Test.YtmejngojpffcgaaProg1
import Derived.Test.YtmejngojpffcgaaAtb
namespace Go.Ls
def Fl.writeAll (f : Fl) (k : Nat) : List (List UInt8) → Fl × Nat
  | [] => (f, 0)
  | p :: ps => if (f.program k p).2 = 0 then (f.program k p).1.writeAll (k + p.length) ps else f.program k p
def Fl.write (f : Fl) (k : Nat) (l : List UInt8) : Fl × Nat := if l.length > 4080 then (f, 3) else f.writeAll k [recHead l.length, recBody l, zero4]
theorem program_power (f : Fl) (h : f.power = none) (k : Nat) (l : List UInt8) : (f.program k l).1.power = none := by
  unfold Fl.program
  split
  · exact h
  · split
    · exact h
    · split
      · exact h
      · split
        · exact h
        · cases f; simp only at h; subst h; rfl
theorem program_length (f : Fl) (k : Nat) (l : List UInt8) : (f.program k l).1.cells.length = f.cells.length := by
  unfold Fl.program
  split
  · rfl
  · split
    · rfl
    · split
      · rfl
      · split
        · rfl
        · rename_i h _ _
          have h2 : k + l.length ≤ f.cells.length := by omega
          unfold Fl.change
          split <;> (simp only; rw [patch_length]; simp only [List.length_mapIdx]; rw [f.seg_length _ _ h2]; exact h2)
theorem program_fits (f : Fl) (k : Nat) (l : List UInt8) (h : (f.program k l).2 = 0) : k + l.length ≤ f.cells.length := by
  rcases Nat.lt_or_ge f.cells.length (k + l.length) with hlt | hge
  · unfold Fl.program at h
    by_cases h0 : f.may ≠ 0
    · rw [if_pos h0] at h; exact absurd h h0
    · rw [if_neg h0, if_pos hlt] at h; have h : (10 : Nat) = 0 := h; omega
  · exact hge
end Go.Ls
namespace Go.Proofs.Ytmejngojpffcgaa
open Go.RowKit Go.Ls

theorem index3 (W : World) (v0 v1 v2 : Value) :
    (Instr.index 141 (.agg #[v0, v1, v2]) (.int .i64 0)).run Try.prog W = .ok v0 W ∧ (Instr.index 141 (.agg #[v0, v1, v2]) (.int .i64 1)).run Try.prog W = .ok v1 W ∧ (Instr.index 141 (.agg #[v0, v1, v2]) (.int .i64 2)).run Try.prog W = .ok v2 W := by
  refine ⟨?_, ?_, ?_⟩ <;> simp [Instr.index, run_underlying Try.underlying141, asIntOf, part, isAgg, run_underlying Try.underlying27]
set_option maxRecDepth 100000 in
set_option maxHeartbeats 800000 in
theorem record_write {S D : Nat → Prop} (w : World) (b bc o : Nat) (f : Fl) (h : FlashAt w D b bc o f) (hpw : f.power = none) (k : Nat) (v : Value) (l : List UInt8) (hl : Sl8 S w v l) (hDw : ∀ j, D j → j < w.heap.size)
    (hk : k ≤ 1000000) (hn : l.length ≤ 140737488355328) :
    Calls Try.prog 59 #[.pointer (some ⟨b, 0, none⟩), .int .i64 k, v] w (RetProg w D b bc o (f.write k l)) := by
  have Hl := Lib.hid hl
  have HF := Lib.hid h; clear h
  obtain ⟨A, c, rfl, hc, hr⟩ := hl
  by_cases hlong : l.length > 4080
  · have hres : f.write k l = (f, 3) := if_pos hlong
    rw [hres]
    have hlong' : ¬ (l.length : Int) ≤ 4080 := by omega
    go_enter Try.func59, Try.ntmps59
    go_wp2_with fail
    go_ret
    exact ⟨rfl, HF.out, .refl _ _⟩
  · have hres : f.write k l = f.writeAll k [recHead l.length, recBody l, zero4] := if_neg hlong
    rw [hres]
    go_enter Try.func59, Try.ntmps59
    go_wp2_with fail
    refine (record_parts _ l w Hl.out (by omega)).mono ?_
    rintro e w1 ⟨vh, vb, vz, rfl, hh, hb, hz, hbe⟩
    have HH := Lib.hid hh; clear hh
    have HB := Lib.hid hb; clear hb
    have HZ := Lib.hid hz; clear hz
    have Hbe := Lib.hid hbe; clear hbe
    go_wp2_with fail
    go_loopw [1, 15] (fun a i wr => ∃ (j : Nat) (fj : Fl) (kj : Nat) (ps : List (List UInt8)), j ≤ 3 ∧ i = .int .i64 j ∧ a = .int .i64 kj ∧ kj ≤ 1000000 ∧ Hid (ps = [recHead l.length, recBody l, zero4].drop j) ∧ Hid (f.writeAll k [recHead l.length, recBody l, zero4] = fj.writeAll kj ps) ∧ fj.power = none ∧
      Hid (FlashAt wr D b bc o fj) ∧ Hid (Only D w1 wr))
      (fun _ i _ => 3 - (intOf i).toNat)
    case atStart => exact ⟨0, f, k, _, by omega, rfl, rfl, hk, rfl, rfl, hpw, HF.out.below Hbe.out, Only.refl _ _⟩
    case round =>
      obtain ⟨j, fj, kj, ps, hj, rfl, rfl, hkj, hps, hwr, hpwj, hfj, hon⟩ := hrel
      have hsz := Hbe.out.size
      have hwsz := hon.out.size
      have key : ∀ (pv : Value) (p : List UInt8), Sl8 (From w.heap.size) w1 pv p → p.length ≤ 4100 → Calls Try.prog 18 #[.pointer (some ⟨b, 0, none⟩), .int .i64 kj, pv] wr (fun e w' => e = .returned (.int .i64 ((fj.program kj p).2 : Nat)) ∧ FlashAt w' D b bc o (fj.program kj p).1 ∧ Only D wr w') := fun pv p hp hpl =>
        program_plain (S := From w.heap.size) wr b bc o fj hfj.out hpwj kj pv p (Sl.keep hp fun x hx hs => hon.out.block x hx fun hd => by have := hDw x hd; unfold From at hs; omega) (fun x hs hd => by have := hDw x hd; unfold From at hs; omega)
          (fun x hd => by have := hDw x hd; omega) (by omega) (by omega)
      have hsm := hfj.out.small
      have hix := fun (W : World) (v0 v1 v2 : Value) => (index3 W v0 v1 v2).1
      have hix1 := fun (W : World) (v0 v1 v2 : Value) => (index3 W v0 v1 v2).2.1
      have hix2 := fun (W : World) (v0 v1 v2 : Value) => (index3 W v0 v1 v2).2.2
      rcases (show j = 0 ∨ j = 1 ∨ j = 2 ∨ j = 3 by omega) with hj | hj | hj | hj
      · subst hj
        obtain ⟨A1, c1, e1, hc1, _⟩ := HH.out
        subst e1
        have hps1 : ps = recHead l.length :: [recBody l, zero4] := hps.out
        have hprog := key _ _ HH.out (by simp [recHead])
        by_cases he : (fj.program kj (recHead l.length)).2 = 0
        · have hfit := program_fits _ _ _ he
          have Hgo := Lib.hid (show f.writeAll k [recHead l.length, recBody l, zero4] = (fj.program kj (recHead l.length)).1.writeAll (kj + (recHead l.length).length) [recBody l, zero4] from by rw [hwr.out, hps1]; exact if_pos he)
          have Hp2 := Lib.hid (program_power fj hpwj kj (recHead l.length))
          rw [he] at hprog
          generalize hlen : (recHead l.length).length = pl at *
          generalize (fj.program kj (recHead l.length)).1 = f2 at *
          go_wp2_with fail
          refine hprog.mono ?_
          rintro e w2 ⟨rfl, hF2, hO2⟩
          have HF2 := Lib.hid hF2; clear hF2
          have HO2 := Lib.hid (hon.out.trans hO2); clear hO2
          go_wp2_with fail
          go_roundw
          case rel => exact ⟨1, f2, kj + pl, _, by omega, by go_num, by go_num, by omega, rfl, Hgo, Hp2.out, HF2, HO2⟩
          case measure => simp [intOf]
        · have Hgo := Lib.hid (show f.writeAll k [recHead l.length, recBody l, zero4] = fj.program kj (recHead l.length) from by rw [hwr.out, hps1]; exact if_neg he)
          have hen : ¬ (((fj.program kj (recHead l.length)).2 : Nat) : Int) = 0 := by omega
          generalize fj.program kj (recHead l.length) = r at *
          generalize hlen : (recHead l.length).length = pl at *
          obtain ⟨f2, e2⟩ := r
          simp only at hen he
          go_wp2_with fail
          refine hprog.mono ?_
          rintro e w2 ⟨rfl, hF2, hO2⟩
          have HF2 := Lib.hid hF2; clear hF2
          have HO2 := Lib.hid (hon.out.trans hO2); clear hO2
          go_wp2_with fail
          go_ret
          rw [Hgo.out]
          exact ⟨rfl, HF2.out, (Only.of_below Hbe.out).trans HO2.out⟩
      · subst hj
        obtain ⟨A1, c1, e1, hc1, _⟩ := HB.out
        subst e1
        have hps1 : ps = recBody l :: [zero4] := hps.out
        have hprog := key _ _ HB.out (by rw [recBody_length]; unfold padN; omega)
        by_cases he : (fj.program kj (recBody l)).2 = 0
        · have hfit := program_fits _ _ _ he
          have Hgo := Lib.hid (show f.writeAll k [recHead l.length, recBody l, zero4] = (fj.program kj (recBody l)).1.writeAll (kj + (recBody l).length) [zero4] from by rw [hwr.out, hps1]; exact if_pos he)
          have Hp2 := Lib.hid (program_power fj hpwj kj (recBody l))
          rw [he] at hprog
          generalize hlen : (recBody l).length = pl at *
          generalize (fj.program kj (recBody l)).1 = f2 at *
          go_wp2_with fail
          refine hprog.mono ?_
          rintro e w2 ⟨rfl, hF2, hO2⟩
          have HF2 := Lib.hid hF2; clear hF2
          have HO2 := Lib.hid (hon.out.trans hO2); clear hO2
          go_wp2_with fail
          go_roundw
          case rel => exact ⟨2, f2, kj + pl, _, by omega, by go_num, by go_num, by omega, rfl, Hgo, Hp2.out, HF2, HO2⟩
          case measure => simp [intOf]
        · have Hgo := Lib.hid (show f.writeAll k [recHead l.length, recBody l, zero4] = fj.program kj (recBody l) from by rw [hwr.out, hps1]; exact if_neg he)
          have hen : ¬ (((fj.program kj (recBody l)).2 : Nat) : Int) = 0 := by omega
          generalize fj.program kj (recBody l) = r at *
          generalize hlen : (recBody l).length = pl at *
          obtain ⟨f2, e2⟩ := r
          simp only at hen he
          go_wp2_with fail
          refine hprog.mono ?_
          rintro e w2 ⟨rfl, hF2, hO2⟩
          have HF2 := Lib.hid hF2; clear hF2
          have HO2 := Lib.hid (hon.out.trans hO2); clear hO2
          go_wp2_with fail
          go_ret
          rw [Hgo.out]
          exact ⟨rfl, HF2.out, (Only.of_below Hbe.out).trans HO2.out⟩
      · subst hj
        obtain ⟨A1, c1, e1, hc1, _⟩ := HZ.out
        subst e1
        have hps1 : ps = zero4 :: [] := hps.out
        have hprog := key _ _ HZ.out (by simp [zero4])
        by_cases he : (fj.program kj (zero4)).2 = 0
        · have hfit := program_fits _ _ _ he
          have Hgo := Lib.hid (show f.writeAll k [recHead l.length, recBody l, zero4] = (fj.program kj (zero4)).1.writeAll (kj + (zero4).length) [] from by rw [hwr.out, hps1]; exact if_pos he)
          have Hp2 := Lib.hid (program_power fj hpwj kj (zero4))
          rw [he] at hprog
          generalize hlen : (zero4).length = pl at *
          generalize (fj.program kj (zero4)).1 = f2 at *
          go_wp2_with fail
          refine hprog.mono ?_
          rintro e w2 ⟨rfl, hF2, hO2⟩
          have HF2 := Lib.hid hF2; clear hF2
          have HO2 := Lib.hid (hon.out.trans hO2); clear hO2
          go_wp2_with fail
          go_roundw
          case rel => exact ⟨3, f2, kj + pl, _, by omega, by go_num, by go_num, by omega, rfl, Hgo, Hp2.out, HF2, HO2⟩
          case measure => simp [intOf]
        · have Hgo := Lib.hid (show f.writeAll k [recHead l.length, recBody l, zero4] = fj.program kj (zero4) from by rw [hwr.out, hps1]; exact if_neg he)
          have hen : ¬ (((fj.program kj (zero4)).2 : Nat) : Int) = 0 := by omega
          generalize fj.program kj (zero4) = r at *
          generalize hlen : (zero4).length = pl at *
          obtain ⟨f2, e2⟩ := r
          simp only at hen he
          go_wp2_with fail
          refine hprog.mono ?_
          rintro e w2 ⟨rfl, hF2, hO2⟩
          have HF2 := Lib.hid hF2; clear hF2
          have HO2 := Lib.hid (hon.out.trans hO2); clear hO2
          go_wp2_with fail
          go_ret
          rw [Hgo.out]
          exact ⟨rfl, HF2.out, (Only.of_below Hbe.out).trans HO2.out⟩
      · subst hj
        have Hgo := Lib.hid (show f.writeAll k [recHead l.length, recBody l, zero4] = (fj, 0) from by rw [hwr.out, hps.out]; rfl)
        go_wp2_with fail
        go_ret
        rw [Hgo.out]
        exact ⟨rfl, hfj.out, (Only.of_below Hbe.out).trans hon.out⟩
end Go.Proofs.Ytmejngojpffcgaa

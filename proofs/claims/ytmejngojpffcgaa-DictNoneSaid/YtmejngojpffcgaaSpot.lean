import Derived.Test.YtmejngojpffcgaaTab
import Derived.Test.YtmejngojpffcgaaPchk
namespace Go.Ls
def spotN (n : UInt32) : Option Nat := if 1 ≤ n ∧ n ≤ 73 then some (n.toNat - 1) else if 101 ≤ n ∧ n < 141 then some (n.toNat - 28) else none
def spotZ (n : UInt32) : Int := match spotN n with
  | some i => i
  | none => -1
theorem find_of_idx {α : Type} (p : α → Bool) : ∀ l : List α, l.find? p = (l.findIdx? p).bind (l[·]?)
  | [] => rfl
  | a :: l => by
    rw [List.find?_cons, List.findIdx?_cons]
    cases p a with
    | true => rfl
    | false =>
      rw [find_of_idx p l]
      simp only [Bool.false_eq_true, if_false]
      cases l.findIdx? p <;> rfl
theorem spots : (List.range 256).all (fun k => prims.findIdx? (fun p => p.number == UInt32.ofNat k) == spotN (UInt32.ofNat k)) = true := by kernel_rfl
theorem spot_idx (n : UInt32) : prims.findIdx? (fun p => p.number == n) = spotN n := by
  by_cases h : n < 256
  · have hn : n.toNat < 256 := by simpa [UInt32.lt_iff_toNat_lt] using h
    have := List.all_eq_true.1 spots n.toNat (List.mem_range.2 hn)
    rw [UInt32.ofNat_toNat] at this
    simpa using this
  · have hn : 256 ≤ n.toNat := by
      have h' : ¬ n.toNat < 256 := by simpa [UInt32.lt_iff_toNat_lt] using h
      omega
    have h1 : prims.findIdx? (fun p => p.number == n) = none := by
      rw [List.findIdx?_eq_none_iff]
      intro p hp
      have := List.all_eq_true.1 prims_sound p hp
      simp only [Bool.and_eq_true, decide_eq_true_eq] at this
      have h2 := this.2
      rw [beq_eq_false_iff_ne]
      rintro rfl
      exact h h2
    rw [h1]
    unfold spotN
    rw [if_neg, if_neg]
    · rintro ⟨_, h3⟩
      have : n.toNat < 141 := by simpa [UInt32.lt_iff_toNat_lt] using h3
      omega
    · rintro ⟨_, h3⟩
      have : n.toNat ≤ 73 := by simpa [UInt32.le_iff_toNat_le] using h3
      omega
theorem primAt_spot (n : UInt32) : primAt n = (spotN n).bind (prims[·]?) := by
  unfold primAt
  rw [find_of_idx, spot_idx]
theorem spotN_lt {n : UInt32} {i : Nat} (h : spotN n = some i) : i < 113 := by
  unfold spotN at h
  split at h
  · rename_i h1
    have : n.toNat ≤ 73 := by simpa [UInt32.le_iff_toNat_le] using h1.2
    cases h; omega
  · split at h
    · rename_i _ h1
      have : n.toNat < 141 := by simpa [UInt32.lt_iff_toNat_lt] using h1.2
      cases h; omega
    · cases h
theorem prims_length : prims.length = 113 := by kernel_rfl
theorem extract_flat {α : Type} (f : α → List Value) (k : Nat) : ∀ (l : List α) (i : Nat) (x : α), (∀ y ∈ l, (f y).length = k) → l[i]? = some x → ((l.flatMap f).drop (i * k)).take k = f x
  | [], i, x, _, h => by simp at h
  | y :: l, 0, x, hf, h => by
    obtain rfl : y = x := by simpa using h
    rw [Nat.zero_mul, List.drop_zero, List.flatMap_cons, ← hf y (by simp), List.take_left]
  | y :: l, i + 1, x, hf, h => by
    rw [List.flatMap_cons, show (i + 1) * k = (f y).length + i * k by rw [hf y (by simp), Nat.add_mul]; omega, List.drop_append, List.drop_of_length_le (by omega), List.nil_append, show (f y).length + i * k - (f y).length = i * k by omega]
    exact extract_flat f k l i x (fun z hz => hf z (by simp [hz])) (by simpa using h)
def primV (o : Option Prm) : Value := match o with
  | some p => .agg p.cells.toArray
  | none => .agg #[.int .u32 0, .string ⟨#[]⟩, .int .i64 0, .int .i64 0, .int .i64 0, .bool false, .bool false]
end Go.Ls
namespace Go.Proofs.Ytmejngojpffcgaa
open Go.RowKit Go.Ls
set_option maxRecDepth 100000 in
theorem prim_spot (n : UInt32) (w : World) : Calls Try.prog 110 #[.int .u32 (w32 n)] w fun e w' => e = .returned (.int .i64 (spotZ n)) ∧ Below w.heap.size w w' := by
  have hr := w32_range n
  by_cases c1 : 1 ≤ w32 n ∧ w32 n ≤ 73
  · have hz : spotZ n = w32 n - 1 := by
      unfold spotZ spotN
      rw [if_pos ⟨by rw [UInt32.le_iff_toNat_le]; unfold w32 at c1; simp; omega, by rw [UInt32.le_iff_toNat_le]; unfold w32 at c1; simp; omega⟩]
      unfold w32 at *
      simp only
      omega
    rw [hz]
    obtain ⟨c1, c2⟩ := c1
    go_enter Try.func110, Try.ntmps110
    go_wp2_with fail
    go_ret
    exact ⟨rfl, Below.refl _ _⟩
  · have c1' : ¬ (1 ≤ n ∧ n ≤ 73) := fun h => c1 ⟨by have := UInt32.le_iff_toNat_le.1 h.1; unfold w32; simp at this; omega, by have := UInt32.le_iff_toNat_le.1 h.2; unfold w32; simp at this; omega⟩
    by_cases c2 : 101 ≤ w32 n
    · have T := prim_table w
      by_cases c3 : w32 n < 141
      · have hz : spotZ n = w32 n - 101 + 73 := by
          unfold spotZ spotN
          rw [if_neg c1', if_pos ⟨by rw [UInt32.le_iff_toNat_le]; unfold w32 at c2; simp; omega, by rw [UInt32.lt_iff_toNat_lt]; unfold w32 at c3; simp; omega⟩]
          unfold w32 at *
          simp only
          omega
        rw [hz]
        have c4 : ¬ w32 n ≤ 73 := by omega
        have c5 : 1 ≤ w32 n := by omega
        clear c1 c1' hz
        go_enter Try.func110, Try.ntmps110
        go_wp2_with fail
        refine T.mono ?_
        rintro e w2 ⟨rfl, hb⟩
        go_wp2_with fail
        go_ret
        exact ⟨rfl, hb⟩
      · have hz : spotZ n = -1 := by
          unfold spotZ spotN
          rw [if_neg c1', if_neg]
          intro h
          have := UInt32.lt_iff_toNat_lt.1 h.2
          unfold w32 at c3
          simp at this
          omega
        rw [hz]
        have c4 : ¬ w32 n ≤ 73 := by omega
        have c5 : 1 ≤ w32 n := by omega
        clear c1 c1' hz
        go_enter Try.func110, Try.ntmps110
        go_wp2_with fail
        refine T.mono ?_
        rintro e w2 ⟨rfl, hb⟩
        go_wp2_with fail
        go_ret
        exact ⟨rfl, hb⟩
    · have hz : spotZ n = -1 := by
        unfold spotZ spotN
        rw [if_neg c1', if_neg]
        intro h
        have := UInt32.le_iff_toNat_le.1 h.1
        unfold w32 at c2
        simp at this
        omega
      rw [hz]
      have hc : (1 ≤ w32 n ∧ ¬ w32 n ≤ 73) ∨ ¬ 1 ≤ w32 n := by omega
      clear c1 c1' hz
      rcases hc with ⟨c4, c5⟩ | c4
      · go_enter Try.func110, Try.ntmps110
        go_wp2_with fail
        go_ret
        exact ⟨rfl, Below.refl _ _⟩
      · go_enter Try.func110, Try.ntmps110
        go_wp2_with fail
        go_ret
        exact ⟨rfl, Below.refl _ _⟩
theorem prim_index (i : Nat) (p : Prm) (hi : i < 113) (hp : prims[i]? = some p) (W : World) : (Instr.index 174 (.agg primCells) (.int .i64 i)).run Try.prog W = .ok (primV (some p)) W := by
  have hu : Try.prog.underlying 174 = some (.array 113 173) := by kernel_rfl
  have hu2 : (Try.prog.underlying 173).map (fun d => match d with | .struct _ | .array _ _ => true | _ => false) = some true := by kernel_rfl
  have hs : (Try.prog.info? 173).map (·.size) = some 7 := by kernel_rfl
  obtain ⟨d, hd, hda⟩ := Option.map_eq_some_iff.1 hu2
  obtain ⟨i0, hi0, hs0⟩ := Option.map_eq_some_iff.1 hs
  have he : (primCells.extract (i * 7) (i * 7 + 7)) = p.cells.toArray := by
    have := extract_flat Prm.cells 7 prims i p (fun y _ => rfl) hp
    rw [← this]
    apply Array.toList_inj.1
    simp [primCells, List.extract_eq_take_drop]
  simp [Instr.index, asIntOf, run_underlying hu, hi, part, isAgg, run_underlying hd, sizeOf, typeInfo, hi0, hs0, he, primV]
  cases d <;> simp_all [Result.andThen]
end Go.Proofs.Ytmejngojpffcgaa

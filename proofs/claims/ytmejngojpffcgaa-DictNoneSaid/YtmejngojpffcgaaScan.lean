import Derived.Test.YtmejngojpffcgaaPure
/- The records of a log, one behind the other: no Go in this text. -/
namespace Go.Ls

theorem recLen_size {b : List UInt8} {n : Nat} (h : recLen b = some n) : n ≤ 4080 ∧ recSize n ≤ b.length ∧ n + 12 ≤ recSize n ∧ recSize n ≤ 4092 := by
  unfold recLen at h
  split at h
  · cases h
  · split at h
    · cases h
    · simp only [] at h
      split at h
      · cases h
      · rename_i hx
        cases h
        refine ⟨by omega, by omega, ?_, ?_⟩
        · unfold recSize padN; rw [if_neg (by omega)]; omega
        · unfold recSize padN; split <;> omega
theorem recAt_size (l : List UInt8) : (0 < l.length → 0 < (recAt l).size) ∧ (recAt l).size ≤ l.length ∧ (recAt l).place = 0 := by
  unfold recAt
  split
  · exact ⟨fun h => h, Nat.le_refl _, rfl⟩
  · split
    · refine ⟨fun h => ?_, ?_, rfl⟩
      · show 0 < min 4 l.length; omega
      · show min 4 l.length ≤ l.length; omega
    · rename_i n hn
      have := recLen_size hn
      split
      · refine ⟨fun _ => ?_, ?_, rfl⟩
        · show 0 < recSize n; omega
        · show recSize n ≤ l.length; omega
      · refine ⟨fun _ => ?_, ?_, rfl⟩
        · show 0 < recSize n; omega
        · show recSize n ≤ l.length; omega

/-- The record at one place, told with the place. -/
def recOf (b : List UInt8) (at_ : Nat) : Rec := { recAt (b.drop at_) with place := at_ }
theorem recOf_size (b : List UInt8) (k : Nat) : (k < b.length → 0 < (recOf b k).size) ∧ ((recOf b k).size ≤ b.length - k) := by
  have := recAt_size (b.drop k)
  rw [List.length_drop] at this
  exact ⟨fun h => this.1 (by omega), this.2.1⟩
/-- All records from one place on, till the blank one or the end. -/
def scanAt (b : List UInt8) (k : Nat) : List Rec :=
  if _h : k < b.length then if (recOf b k).kind = 0 then [] else recOf b k :: scanAt b (k + (recOf b k).size) else []
termination_by b.length - k
decreasing_by have := (recOf_size b k).1 _h; omega
def recScan (b : List UInt8) : List Rec := scanAt b 0
def recEnd (b : List UInt8) : Nat := match (recScan b).getLast? with
  | none => 0
  | some r => r.place + r.size
theorem scanAt_end {b : List UInt8} {k : Nat} (h : b.length ≤ k) : scanAt b k = [] := by unfold scanAt; rw [dif_neg (by omega)]
theorem scanAt_blank {b : List UInt8} {k : Nat} (h : (recOf b k).kind = 0) : scanAt b k = [] := by
  unfold scanAt
  simp only [h, if_true, dite_eq_ite, ite_self]
theorem scanAt_more {b : List UInt8} {k : Nat} (h : k < b.length) (hk : (recOf b k).kind ≠ 0) : scanAt b k = recOf b k :: scanAt b (k + (recOf b k).size) := by rw [scanAt, dif_pos h, if_neg hk]
end Go.Ls

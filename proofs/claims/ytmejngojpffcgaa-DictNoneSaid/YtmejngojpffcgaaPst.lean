import Derived.Test.YtmejngojpffcgaaMap
namespace Go.Ls
theorem startsFrom_ge (code : List UInt32) : ∀ (f i : Nat) (l : List Nat), startsFrom code f i = some l → (∀ j ∈ l, i ≤ j) ∧ l.Pairwise (· < ·) := by
  intro f
  induction f with
  | zero => intro i l h; cases h; simp
  | succ f ih =>
    intro i l h
    rw [startsFrom] at h
    split at h
    · split at h
      · cases h
      · rename_i h1 h2
        cases hs : startsFrom code f (i + longP code i) with
        | none => rw [hs] at h; cases h
        | some m =>
          rw [hs] at h
          cases h
          obtain ⟨a, b⟩ := ih _ _ hs
          refine ⟨fun j hj => ?_, List.pairwise_cons.2 ⟨fun j hj => ?_, b⟩⟩
          · rcases List.mem_cons.1 hj with rfl | hj
            · omega
            · have := a j hj; omega
          · have := a j hj; omega
    · cases h; simp
theorem startsP_sorted {code : List UInt32} {l : List Nat} (h : startsP code = some l) : l.Pairwise (· < ·) := (startsFrom_ge code _ _ l h).2
theorem long_next {code : List UInt32} {i : Nat} {x : UInt32} (hx : code[i]? = some x) (h : longP code i ≠ 0) (hlt : ¬ 256 ≤ x) : ∃ p, primAt x = some p ∧ i + p.operands < code.length := by
  have hi := (List.getElem?_eq_some_iff.1 hx).1
  unfold longP at h
  rw [hx] at h
  simp only at h
  rw [if_neg hlt] at h
  cases hp : primAt x with
  | none => rw [hp] at h; exact absurd rfl h
  | some p =>
    rw [hp] at h
    simp only at h
    refine ⟨p, rfl, ?_⟩
    by_cases c : code.length - i < 1 + p.operands
    · rw [if_pos c] at h; exact absurd rfl h
    · omega
theorem jumps_next {code : List UInt32} {i : Nat} {x : UInt32} (hx : code[i]? = some x) (h : longP code i ≠ 0) (hlt : ¬ 256 ≤ x) (hj : jumpsP x = true) : i + 1 < code.length ∧ x ≠ 139 := by
  obtain ⟨p, hp, hl⟩ := long_next hx h hlt
  have hs := primAt_sound hp
  unfold jumpsP at hj
  rw [hp] at hj
  have := hs.2.2.1 hj
  refine ⟨by omega, fun e => ?_⟩
  have := (hs.2.2.2.1 e).1
  omega
theorem away_next {code : List UInt32} {i : Nat} (hx : code[i]? = some 139) (h : longP code i ≠ 0) : i + 2 < code.length := by
  obtain ⟨p, hp, hl⟩ := long_next hx h (by decide)
  have := ((primAt_sound hp).2.2.2.1 rfl).1
  omega
theorem jumps_away : jumpsP 139 = false := by decide
theorem jumps_big {x : UInt32} (h : 256 ≤ x) : jumpsP x = false := by
  unfold jumpsP
  cases hp : primAt x with
  | none => rfl
  | some p =>
    have := (primAt_sound hp).2.2.2.2
    rw [UInt32.lt_iff_toNat_lt] at this
    rw [UInt32.le_iff_toNat_le] at h
    omega
theorem ones_snoc (S : List Pl) (p : Pl) : ones (S ++ [p]) = ones S ++ [(p, 1)] := by simp [ones]
theorem places_take {k j : Nat} {l : List Nat} {a : Nat} (h : l[j]? = some a) : placesOf k (l.take (j + 1)) = placesOf k (l.take j) ++ [(UInt32.ofNat k, UInt32.ofNat a)] := by
  rw [List.take_add_one, h]; simp [placesOf]
theorem places_new {k j : Nat} {l : List Nat} {a : Nat} {P : List Pl} (hl : l.Pairwise (· < ·)) (hb : ∀ x ∈ l, x < 4294967296) (h : l[j]? = some a) (hk : k < 4294967296) (hP : ∀ q ∈ P, q.1.toNat < k) :
    ∀ q ∈ ones (P ++ placesOf k (l.take j)), q.1 ≠ ((UInt32.ofNat k, UInt32.ofNat a) : Pl) := by
  intro q hq e
  simp only [ones, List.mem_map] at hq
  obtain ⟨p, hp, rfl⟩ := hq
  simp only at e
  subst e
  rcases List.mem_append.1 hp with h1 | h1
  · have := hP _ h1
    simp only [UInt32.toNat_ofNat'] at this
    omega
  · simp only [placesOf, List.mem_map, Prod.mk.injEq] at h1
    obtain ⟨x, hx, _, e2⟩ := h1
    obtain ⟨i, hi, rfl⟩ := List.mem_take_iff_getElem.1 hx
    have hjl := (List.getElem?_eq_some_iff.1 h).1
    have hlt := List.pairwise_iff_getElem.1 hl i j (by omega) hjl (by omega)
    have ha : l[j] = a := (List.getElem?_eq_some_iff.1 h).2
    have b1 := hb _ (List.getElem_mem (show i < l.length by omega))
    have b2 := hb _ (List.getElem_mem hjl)
    have := congrArg UInt32.toNat e2
    simp only [UInt32.toNat_ofNat'] at this
    omega
theorem places_lt {k : Nat} {l : List Nat} {P : List Pl} (hk : k < 4294967295) (hP : ∀ q ∈ P, q.1.toNat < k) : ∀ q ∈ P ++ placesOf k l, q.1.toNat < k + 1 := by
  intro q hq
  rcases List.mem_append.1 hq with h | h
  · have := hP _ h; omega
  · simp only [placesOf, List.mem_map] at h
    obtain ⟨a, _, rfl⟩ := h
    simp only [UInt32.toNat_ofNat']
    omega
end Go.Ls

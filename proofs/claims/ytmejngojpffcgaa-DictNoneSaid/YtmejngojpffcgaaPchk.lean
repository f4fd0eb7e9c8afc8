import Derived.Test.YtmejngojpffcgaaPrm
/- Instructions, their starts, which words are right behind which: no Go in this text. -/
namespace Go.Ls
theorem prims_sound : prims.all (fun p => p.operands ≤ 2 && (!p.text || p.operands == 1) && (!p.jump || p.operands == 1) && (!(p.number == 139) || (p.operands == 2 && !p.text)) && p.number < 256) = true := by decide
theorem primAt_number {n : UInt32} {p : Prm} (h : primAt n = some p) : p.number = n := by
  have := List.find?_some h
  simpa using this
theorem primAt_sound {n : UInt32} {p : Prm} (h : primAt n = some p) : p.operands ≤ 2 ∧ (p.text = true → p.operands = 1) ∧ (p.jump = true → p.operands = 1) ∧ (n = 139 → p.operands = 2 ∧ p.text = false) ∧ n < 256 := by
  have hm : p ∈ prims := List.mem_of_find?_eq_some h
  have := List.all_eq_true.1 prims_sound p hm
  have hn := primAt_number h
  subst hn
  simp only [Bool.and_eq_true, Bool.or_eq_true, Bool.not_eq_true', decide_eq_true_eq, beq_iff_eq, beq_eq_false_iff_ne] at this
  obtain ⟨⟨⟨⟨h1, h2⟩, h3⟩, h4⟩, h5⟩ := this
  refine ⟨h1, ?_, ?_, ?_, h5⟩
  · intro e; rcases h2 with h | h
    · rw [e] at h; cases h
    · exact h
  · intro e; rcases h3 with h | h
    · rw [e] at h; cases h
    · exact h
  · intro e; rcases h4 with h | h
    · exact absurd e h
    · exact h
/-- How many cells an instruction has. -/
def longP (code : List UInt32) (i : Nat) : Nat :=
  match code[i]? with
  | none => 0
  | some x =>
    if 256 ≤ x then 1
    else match primAt x with
      | none => 0
      | some p =>
        if code.length - i < 1 + p.operands then 0
        else if p.text then
          match code[i+1]? with
          | some t => if 1000 < t then 0 else if code.length - i < 1 + p.operands + (t.toNat + 3) / 4 then 0 else 1 + p.operands + (t.toNat + 3) / 4
          | none => 0
        else 1 + p.operands
theorem longP_le (code : List UInt32) (i : Nat) (h : i < code.length) : longP code i ≤ code.length - i := by
  unfold longP
  split
  · omega
  · split
    · omega
    · split
      · omega
      · split
        · omega
        · split
          · split
            · split
              · omega
              · split <;> omega
            · omega
          · omega
/-- Where instructions stand, from one place on; none: they are not whole. -/
def startsFrom (code : List UInt32) : Nat → Nat → Option (List Nat)
  | 0, _ => some []
  | f + 1, i => if i < code.length then if longP code i = 0 then none else (startsFrom code f (i + longP code i)).map (i :: ·) else some []
theorem startsFrom_fuel (code : List UInt32) : ∀ (f g i : Nat), code.length - i ≤ f → code.length - i ≤ g → startsFrom code f i = startsFrom code g i := by
  intro f
  induction f with
  | zero =>
    intro g i hf _
    cases g with
    | zero => rfl
    | succ g => unfold startsFrom; rw [if_neg (by omega)]
  | succ f ih =>
    intro g i hf hg
    cases g with
    | zero => rw [startsFrom, startsFrom, if_neg (by omega)]
    | succ g =>
      rw [startsFrom, startsFrom]
      split
      · split
        · rfl
        · rw [ih g _ (by omega) (by omega)]
      · rfl
def startsP (code : List UInt32) : Option (List Nat) := startsFrom code code.length 0
def startsAt (code : List UInt32) (i : Nat) : Option (List Nat) := startsFrom code code.length i
theorem startsAt_end {code : List UInt32} {i : Nat} (h : code.length ≤ i) : startsAt code i = some [] := by
  unfold startsAt
  rw [startsFrom_fuel code _ 0 i (by omega) (by omega)]; rfl
theorem startsAt_bad {code : List UInt32} {i : Nat} (h : i < code.length) (h0 : longP code i = 0) : startsAt code i = none := by
  unfold startsAt
  rw [startsFrom_fuel code _ (code.length + 1) i (by omega) (by omega), startsFrom, if_pos h, if_pos h0]
theorem startsAt_more {code : List UInt32} {i : Nat} (h : i < code.length) (h0 : longP code i ≠ 0) : startsAt code i = (startsAt code (i + longP code i)).map (i :: ·) := by
  unfold startsAt
  rw [startsFrom_fuel code _ (code.length + 1) i (by omega) (by omega), startsFrom, if_pos h, if_neg h0]
theorem startsFrom_mem (code : List UInt32) : ∀ (f i : Nat) (l : List Nat), startsFrom code f i = some l → ∀ j ∈ l, j < code.length ∧ longP code j ≠ 0 := by
  intro f
  induction f with
  | zero => intro i l h; cases h; simp
  | succ f ih =>
    intro i l h
    rw [startsFrom] at h
    split at h
    · split at h
      · cases h
      · rename_i h1 h2
        cases hs : startsFrom code f (i + longP code i) with
        | none => rw [hs] at h; cases h
        | some m =>
          rw [hs] at h
          cases h
          intro j hj
          rcases List.mem_cons.1 hj with rfl | hj
          · exact ⟨h1, h2⟩
          · exact ih _ _ hs j hj
    · cases h; simp
theorem startsP_mem {code : List UInt32} {l : List Nat} (h : startsP code = some l) : ∀ j ∈ l, j < code.length ∧ longP code j ≠ 0 := startsFrom_mem code _ _ l h
theorem startsFrom_len (code : List UInt32) : ∀ (f i : Nat) (l : List Nat), startsFrom code f i = some l → l.length ≤ code.length - i := by
  intro f
  induction f with
  | zero => intro i l h; cases h; simp
  | succ f ih =>
    intro i l h
    rw [startsFrom] at h
    split at h
    · split at h
      · cases h
      · rename_i h1 h2
        cases hs : startsFrom code f (i + longP code i) with
        | none => rw [hs] at h; cases h
        | some m =>
          rw [hs] at h
          cases h
          have := ih _ _ hs
          simp
          omega
    · cases h; simp
def jumpsP (n : UInt32) : Bool := match primAt n with
  | some p => p.jump
  | none => false
/-- The starts of a word's instructions, if it ends as it must. -/
def wordStarts (x : Wd) : Option (List Nat) := if x.right then match startsP x.code with
  | none => none
  | some l => match l.getLast? with
    | none => none
    | some j => if x.code[j]? = some 101 then some l else none
  else none
/-- Is one instruction right? S: all starts. -/
def instrOk (S : List (UInt32 × UInt32)) (me : UInt32) (code : List UInt32) (i : Nat) : Bool :=
  match code[i]? with
  | none => false
  | some x =>
    if 256 ≤ x then !(decide (me < x - 256))
    else if jumpsP x && !S.contains (me, code[i+1]?.getD 0) then false
    else if x == 139 then !(decide (me ≤ code[i+1]?.getD 0) || !S.contains (code[i+1]?.getD 0, code[i+2]?.getD 0))
    else true
def placesOf (i : Nat) (l : List Nat) : List (UInt32 × UInt32) := l.map fun a => (UInt32.ofNat i, UInt32.ofNat a)
def checkFrom (S : List (UInt32 × UInt32)) (i : Nat) : List Wd → Option Nat
  | [] => none
  | x :: xs => match wordStarts x with
    | none => some i
    | some l => if l.all (instrOk (S ++ placesOf i l) (UInt32.ofNat i) x.code) then checkFrom (S ++ placesOf i l) (i + 1) xs else some i
/-- The first word that is not right. -/
def checkP (l : List Wd) : Option Nat := checkFrom [] 0 l
def checkZ (l : List Wd) : Int := match checkP l with
  | none => -1
  | some i => i
end Go.Ls

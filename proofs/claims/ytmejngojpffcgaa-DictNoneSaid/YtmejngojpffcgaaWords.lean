import Derived.Test.YtmejngojpffcgaaWd
/- Words in memory: rows of three cells a word. -/
namespace Go.Ls
open Go.RowKit

def wcells (p : Wd × Value) : List Value := [str p.1.name, .int .u8 (b8 p.1.flags), p.2]
/-- A row of words; S: the blocks in which all of it may lie. -/
def WordsAt (S : Nat → Prop) (w : World) (v : Value) (l : List Wd) : Prop :=
  ∃ ps : List (Wd × Value), ps.map (·.1) = l ∧ Sl S w v l.length (ps.flatMap wcells) ∧ ∀ p ∈ ps, Sl32 S w p.2 p.1.code
theorem wcells_get (ps : List (Wd × Value)) (i r : Nat) (hr : r < 3) (p : Wd × Value) (hp : ps[i]? = some p) : (ps.flatMap wcells)[i * 3 + r]? = (wcells p)[r]? := by
  induction ps generalizing i with
  | nil => simp at hp
  | cons q qs ih =>
    rw [List.flatMap_cons]
    cases i with
    | zero =>
      obtain rfl : q = p := by simpa using hp
      rw [List.getElem?_append_left (by simp [wcells]; omega)]
      congr 1; omega
    | succ i =>
      rw [List.getElem?_append_right (by simp [wcells]; omega)]
      rw [← ih i (by simpa using hp)]
      congr 1
      simp [wcells]; omega
theorem wcells_length (ps : List (Wd × Value)) : (ps.flatMap wcells).length = ps.length * 3 := by
  induction ps with
  | nil => rfl
  | cons q qs ih => rw [List.flatMap_cons, List.length_append, ih]; simp [wcells]; omega
section
variable {S S' : Nat → Prop} {w w' : World} {v : Value} {l : List Wd}
theorem WordsAt.mono (h : WordsAt S w v l) (hS : ∀ b, S b → S' b) : WordsAt S' w v l := by
  obtain ⟨ps, h1, h2, h3⟩ := h
  exact ⟨ps, h1, h2.mono hS, fun p hp => Sl.mono (h3 p hp) hS⟩
theorem WordsAt.keep (h : WordsAt S w v l) (hk : ∀ b, b < w.heap.size → S b → w'.heap[b]? = w.heap[b]?) : WordsAt S w' v l := by
  obtain ⟨ps, h1, h2, h3⟩ := h
  exact ⟨ps, h1, h2.keep hk, fun p hp => Sl.keep (h3 p hp) hk⟩
theorem WordsAt.below (h : WordsAt S w v l) (hb : Below w.heap.size w w') : WordsAt S w' v l := h.keep fun b hlt _ => hb.block b hlt
theorem WordsAt.bound (h : WordsAt S w v l) : WordsAt (fun b => S b ∧ b < w.heap.size) w v l := by
  obtain ⟨ps, h1, h2, h3⟩ := h
  exact ⟨ps, h1, h2.bound, fun p hp => Sl.bound (h3 p hp)⟩
theorem WordsAt.nil (S : Nat → Prop) (w : World) : WordsAt S w (.slice none 0 0) [] := ⟨[], rfl, ⟨_, 0, rfl, Nat.le_refl _, Row.none_ _ _ _⟩, fun p hp => by cases hp⟩
/-- One word of a row: its three cells, and its code. -/
theorem WordsAt.word {A : Option Addr} {n c : Nat} (h : WordsAt S w (.slice A n c) l) {i : Nat} {x : Wd} (hx : l[i]? = some x) :
    n = l.length ∧ ∃ b o cv, A = some ⟨b, o, none⟩ ∧ S b ∧ w.cell? ⟨b, o + i * 3, none⟩ = some (str x.name) ∧ w.cell? ⟨b, o + i * 3 + 1, none⟩ = some (.int .u8 (b8 x.flags)) ∧ w.cell? ⟨b, o + i * 3 + 2, none⟩ = some cv ∧ Sl32 S w cv x.code := by
  obtain ⟨ps, h1, ⟨A', c', e, hc, hr⟩, h3⟩ := h
  cases e
  refine ⟨rfl, ?_⟩
  rw [← h1, List.getElem?_map, Option.map_eq_some_iff] at hx
  obtain ⟨p, hp, rfl⟩ := hx
  have hlt := (List.getElem?_eq_some_iff.1 hp).1
  obtain ⟨b, o, e, hs, hcell⟩ := hr (by rw [wcells_length]; omega)
  refine ⟨b, o, p.2, e, hs, ?_, ?_, ?_, h3 p (List.mem_of_getElem? hp)⟩
  · exact hcell (i * 3) _ ((wcells_get ps i 0 (by omega) p hp).trans rfl)
  · rw [Nat.add_assoc]; exact hcell (i * 3 + 1) _ ((wcells_get ps i 1 (by omega) p hp).trans rfl)
  · rw [Nat.add_assoc]; exact hcell (i * 3 + 2) _ ((wcells_get ps i 2 (by omega) p hp).trans rfl)
end
end Go.Ls

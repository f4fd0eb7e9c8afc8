import Derived.Test.YtmejngojpffcgaaBase
/- A flash as Lean's own data: no Go in this text, but for the row of cells. -/
namespace Go.Ls

/-- Some cells of a row, told anew. -/
def patch (l : List UInt8) (k : Nat) (m : List UInt8) : List UInt8 := l.take k ++ (m ++ l.drop (k + m.length))
theorem patch_length (l : List UInt8) (k : Nat) (m : List UInt8) (h : k + m.length ≤ l.length) : (patch l k m).length = l.length := by
  simp only [patch, List.length_append, List.length_take, List.length_drop]; omega
theorem patch_nil (l : List UInt8) (k : Nat) : patch l k [] = l := by simp [patch]
theorem patch_get (l : List UInt8) (k : Nat) (m : List UInt8) (h : k + m.length ≤ l.length) (j : Nat) :
    (patch l k m)[j]? = if k ≤ j ∧ j < k + m.length then m[j - k]? else l[j]? := by
  unfold patch
  rw [List.getElem?_append, List.getElem?_append, List.length_take, List.getElem?_take, List.getElem?_drop]
  by_cases h1 : j < k
  · rw [if_pos (by omega), if_pos (by omega), if_neg (by omega)]
  · rw [if_neg (by omega), show min k l.length = k by omega]
    by_cases h2 : j - k < m.length
    · rw [if_pos h2, if_pos (by omega)]
    · rw [if_neg h2, if_neg (by omega), show k + m.length + (j - k - m.length) = j by omega]
theorem patch_snoc (l : List UInt8) (k : Nat) (m : List UInt8) (x : UInt8) (h : k + m.length < l.length) : patch l k (m ++ [x]) = (patch l k m).set (k + m.length) x := by
  apply List.ext_getElem?
  intro j
  rw [patch_get _ _ _ (by simp; omega), List.getElem?_set, patch_get _ _ _ (by omega), patch_length _ _ _ (by omega)]
  simp only [List.length_append, List.length_singleton]
  by_cases h1 : k + m.length = j
  · subst h1
    rw [if_pos (by omega), if_pos rfl, if_pos h, List.getElem?_append_right (by omega)]
    simp
  · rw [if_neg h1]
    by_cases h2 : k ≤ j ∧ j < k + m.length
    · rw [if_pos (by omega), if_pos h2, List.getElem?_append_left (by omega)]
    · rw [if_neg (by omega), if_neg h2]

structure Fl where
  cells : List UInt8
  sectors : Nat
  power : Option (Nat × List UInt8)
  down : Bool
def Fl.seg (f : Fl) (k n : Nat) : List UInt8 := (f.cells.drop k).take n
def Fl.may (f : Fl) : Nat := if f.sectors = 0 then 1 else if f.down then 12 else 0
def Fl.change (f : Fl) (k n : Nat) (whole : Nat → UInt8 → UInt8) (torn : Nat → UInt8 → UInt8 → UInt8) : Fl × Nat :=
  match f.power with
  | some (0, mask) => ({ f with cells := patch f.cells k ((f.seg k n).mapIdx fun i x => torn i x (mask.getD i 0)), power := none, down := true }, 12)
  | some (p + 1, mask) => ({ f with cells := patch f.cells k ((f.seg k n).mapIdx whole), power := some (p, mask) }, 0)
  | none => ({ f with cells := patch f.cells k ((f.seg k n).mapIdx whole) }, 0)
def Fl.program (f : Fl) (k : Nat) (b : List UInt8) : Fl × Nat :=
  if f.may ≠ 0 then (f, f.may)
  else if f.cells.length < k + b.length then (f, 10)
  else if k % 4 ≠ 0 ∨ b.length % 4 ≠ 0 then (f, 11)
  else if b.length = 0 then (f, 0)
  else f.change k b.length (fun i x => x &&& b.getD i 0) (fun i x m => x &&& ~~~(m &&& ~~~(b.getD i 0)))
def Fl.new (n : Nat) : Fl := ⟨List.replicate (n * 256) 255, n, none, false⟩
theorem Fl.seg_length (f : Fl) (k n : Nat) (h : k + n ≤ f.cells.length) : (f.seg k n).length = n := by simp only [Fl.seg, List.length_take, List.length_drop]; omega
theorem Fl.seg_get (f : Fl) (k n : Nat) {j : Nat} (hj : j < n) : (f.seg k n)[j]? = f.cells[k + j]? := by
  simp [Fl.seg, hj]

/-! ### A row of bytes that may be written -/
def Cells (w : World) (b o : Nat) (l : List UInt8) : Prop := ∀ (j : Nat) (v : Value), (u8s l)[j]? = some v → w.cell? ⟨b, o + j, none⟩ = some v ∧ w.frozen? ⟨b, o + j, none⟩ = false
theorem Cells.keep {w w' : World} {b o : Nat} {l : List UInt8} (h : Cells w b o l) (hk : w'.heap[b]? = w.heap[b]?) : Cells w' b o l := fun j v hj =>
  ⟨(World.cell?_of_block (a := ⟨b, o + j, none⟩) hk).trans (h j v hj).1, (World.frozen?_of_block (a := ⟨b, o + j, none⟩) hk).trans (h j v hj).2⟩
theorem Cells.at_ {w : World} {b o : Nat} {l : List UInt8} (h : Cells w b o l) {j : Nat} {x : UInt8} (hj : l[j]? = some x) : w.cell? ⟨b, o + j, none⟩ = some (.int .u8 (b8 x)) ∧ w.frozen? ⟨b, o + j, none⟩ = false :=
  h j _ (by simp [u8s, hj])
theorem Cells.set {w : World} {b o : Nat} {l : List UInt8} (h : Cells w b o l) (k : Nat) (x : UInt8) : Cells (w.setCell ⟨b, o + k, none⟩ (.int .u8 (b8 x))) b o (l.set k x) := by
  intro j v hj
  have hlt : j < l.length := by have := (List.getElem?_eq_some_iff.1 hj).1; simpa [u8s] using this
  obtain ⟨h1, h2⟩ := h.at_ (List.getElem?_eq_getElem hlt)
  refine ⟨?_, by rw [World.frozen?_setCell]; exact h2⟩
  by_cases he : k = j
  · subst he
    have : v = .int .u8 (b8 x) := by simpa [u8s, hlt] using hj.symm
    rw [this]
    exact World.cell?_setCell_same' _ _ _ (by rw [h1]; rfl)
  · have hv : v = .int .u8 (b8 l[j]) := by simpa [u8s, List.getElem?_set, he, hlt] using hj.symm
    rw [hv, ← h1]
    exact World.cell?_setCell_other w ⟨b, o + k, none⟩ ⟨b, o + j, none⟩ _ (fun e => by injection e with _ e2; omega)
theorem Cells.row {w : World} {b o : Nat} {l : List UInt8} (h : Cells w b o l) (S : Nat → Prop) (hS : S b) (k n : Nat) : Row S w (some ⟨b, o + k, none⟩) (u8s ((l.drop k).take n)) := fun _ => by
  refine ⟨b, o + k, rfl, hS, fun j v hj => ?_⟩
  rw [Nat.add_assoc]
  refine (h (k + j) v ?_).1
  simp only [u8s, List.map_take, List.map_drop, List.getElem?_take, List.getElem?_drop] at hj ⊢
  split at hj
  · exact hj
  · cases hj
theorem Cells.of_own {S : Nat → Prop} {w : World} {v : Value} {l : List UInt8} (h : Own8 S w v l) (h0 : 0 < l.length) : ∃ b o c, v = .slice (some ⟨b, o, none⟩) l.length c ∧ l.length ≤ c ∧ S b ∧ Cells w b o l := by
  obtain ⟨A, c, e, hc, hr⟩ := h
  obtain ⟨b, o, rfl, hs, hx⟩ := hr (by rw [u8s_length]; exact h0)
  exact ⟨b, o, c, e, hc, hs, hx⟩
end Go.Ls

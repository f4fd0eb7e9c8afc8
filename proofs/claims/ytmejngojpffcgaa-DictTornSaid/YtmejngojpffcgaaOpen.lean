/- What a reading of an argument gives a walk: bytes, cells of code, words. No condition beyond those each theorem names. -/
import Derived.Test.YtmejngojpffcgaaKdict
import Derived.ProofKit
import Derived.Deep.Strs
import Derived.SizedLaws
namespace Go.Proofs.Ytmejngojpffcgaa
open Go.ChangeShapes Go.WideShapes Go.Deep Go.RowKit Go.Ls
section
variable {H : Type} {enc : TypeId × Value → H} {W : World} {sp : Nat → Bool} {held : Bool}
/-- The blocks that are there. -/
def There (W : World) : Nat → Prop := fun z => z < W.heap.size
theorem row_of_cells {a : Addr} {vs : List Value} (h : ∀ (i : Nat) (v : Value), vs[i]? = some v → W.cell? (a.add i) = some v) : Row (There W) W (some a) vs := fun hp => by
  have h0 := h 0 _ (List.getElem?_eq_getElem hp)
  obtain ⟨b, o, s⟩ := a
  have hs : s = none := by
    cases s with
    | none => rfl
    | some s =>
      simp only [Addr.add, if_true] at h0
      simp only [World.cell?] at h0
      split at h0 <;> simp at h0
  subst hs
  refine ⟨b, o, rfl, ?_, fun j v hv => by rw [← addr_add]; exact h j v hv⟩
  rw [addr_add] at h0
  exact World.block_lt_of_cell? W _ h0
def lit8 (x : UInt8) : DataW H := .lit (.int .u8 (b8 x))
def lit32 (x : UInt32) : DataW H := .lit (.int .u32 (w32 x))
/-- The datum of a row of numbers. -/
def RowD (ds : List (DataW H)) (d : DataW H) : Prop := (d = .nil ∧ ds = []) ∨ ∃ spare, d = .slice ds spare
theorem cells_u8 : Try.prog.cellsOf 5 = 1 := by kernel_rfl
theorem cells_u32 : Try.prog.cellsOf 51 = 1 := by kernel_rfl
theorem cells_str : Try.prog.cellsOf 9 = 1 := by kernel_rfl
theorem cells_code : Try.prog.cellsOf 23 = 1 := by kernel_rfl
theorem cells_bytes : Try.prog.cellsOf 27 = 1 := by kernel_rfl
theorem cells_word : Try.prog.cellsOf 25 = 3 := by kernel_rfl
theorem u8_of_wf {n : Int} (h : (Lit.int .u8 n).wf = true) : ∃ x : UInt8, n = b8 x := by
  have hm : IntKind.u8.max = 255 := by decide
  have hz : IntKind.u8.min = 0 := by decide
  simp only [Lit.wf, Bool.and_eq_true, decide_eq_true_eq, hm, hz] at h
  refine ⟨UInt8.ofNat n.toNat, ?_⟩
  simp only [b8, UInt8.toNat_ofNat']
  omega
theorem u32_of_wf {n : Int} (h : (Lit.int .u32 n).wf = true) : ∃ x : UInt32, n = w32 x := by
  have hm : IntKind.u32.max = 4294967295 := by decide
  have hz : IntKind.u32.min = 0 := by decide
  simp only [Lit.wf, Bool.and_eq_true, decide_eq_true_eq, hm, hz] at h
  refine ⟨UInt32.ofNat n.toNat, ?_⟩
  simp only [w32, UInt32.toNat_ofNat']
  omega
instance : Inhabited UInt8 := ⟨0⟩
instance : Inhabited UInt32 := ⟨0⟩
theorem open_u8s {fuel : Nat} {cs : List Value} {x : DataW H × List MemPlace} (h : DataW.trod enc Try.prog W 0 sp held fuel 27 cs = some x) :
    ∃ v l, cs = [v] ∧ Sl8 (There W) W v l ∧ l.length ≤ maxLen ∧ RowD (l.map lit8) x.1 := by
  rcases open_slice1 Try.underlying27 cells_u8 h with ⟨rfl, rfl⟩ | ⟨a, len, cap, m, n, V, D, Pl, rfl, hb, hl, hm, hmm, rfl, hx⟩
  · exact ⟨_, [], rfl, ⟨none, 0, rfl, Nat.le_refl _, Row.none_ _ _ _⟩, Nat.zero_le _, .inl ⟨rfl, rfl⟩⟩
  · have hlm : len ≤ m := by rw [hmm]; split <;> omega
    obtain ⟨X, hX⟩ := choose_lt (α := UInt8) (p := fun i x => W.cell? (a.add i) = some (.int .u8 (b8 x)) ∧ D i = lit8 x) (n := len) (fun i hi => by
      obtain ⟨h1, h2⟩ := hx i (by omega)
      obtain ⟨k, e, e2, hw⟩ := DataW.trod_int Try.underlying5 h2
      obtain ⟨z, rfl⟩ := u8_of_wf hw
      simp only [List.cons.injEq, and_true] at e
      simp only [Prod.mk.injEq] at e2
      exact ⟨z, by rw [h1, e], e2.1⟩)
    refine ⟨_, (List.range len).map X, rfl, ⟨some a, cap, by simp, by simpa using hl, row_of_cells fun i v hv => ?_⟩, by simp; omega, .inr ⟨(List.range (m - len)).map fun j => D (len + j), ?_⟩⟩
    · simp only [u8s, List.getElem?_map, Option.map_eq_some_iff] at hv
      obtain ⟨y, ⟨k, hk, rfl⟩, rfl⟩ := hv
      obtain ⟨hi, rfl⟩ := List.getElem?_eq_some_iff.1 hk
      rw [List.length_range] at hi
      rw [List.getElem_range]
      exact (hX i hi).1
    · show DataW.slice _ _ = _
      congr 1
      rw [List.map_map]
      exact List.map_congr_left fun i hi => (hX i (List.mem_range.1 hi)).2
theorem open_u32s {fuel : Nat} {cs : List Value} {x : DataW H × List MemPlace} (h : DataW.trod enc Try.prog W 0 sp held fuel 23 cs = some x) :
    ∃ v l, cs = [v] ∧ Sl32 (There W) W v l ∧ l.length ≤ maxLen ∧ RowD (l.map lit32) x.1 := by
  rcases open_slice1 Try.underlying23 cells_u32 h with ⟨rfl, rfl⟩ | ⟨a, len, cap, m, n, V, D, Pl, rfl, hb, hl, hm, hmm, rfl, hx⟩
  · exact ⟨_, [], rfl, ⟨none, 0, rfl, Nat.le_refl _, Row.none_ _ _ _⟩, Nat.zero_le _, .inl ⟨rfl, rfl⟩⟩
  · have hlm : len ≤ m := by rw [hmm]; split <;> omega
    obtain ⟨X, hX⟩ := choose_lt (α := UInt32) (p := fun i x => W.cell? (a.add i) = some (.int .u32 (w32 x)) ∧ D i = lit32 x) (n := len) (fun i hi => by
      obtain ⟨h1, h2⟩ := hx i (by omega)
      obtain ⟨k, e, e2, hw⟩ := DataW.trod_int Try.underlying51 h2
      obtain ⟨z, rfl⟩ := u32_of_wf hw
      simp only [List.cons.injEq, and_true] at e
      simp only [Prod.mk.injEq] at e2
      exact ⟨z, by rw [h1, e], e2.1⟩)
    refine ⟨_, (List.range len).map X, rfl, ⟨some a, cap, by simp, by simpa using hl, row_of_cells fun i v hv => ?_⟩, by simp; omega, .inr ⟨(List.range (m - len)).map fun j => D (len + j), ?_⟩⟩
    · simp only [u32s, List.getElem?_map, Option.map_eq_some_iff] at hv
      obtain ⟨y, ⟨k, hk, rfl⟩, rfl⟩ := hv
      obtain ⟨hi, rfl⟩ := List.getElem?_eq_some_iff.1 hk
      rw [List.length_range] at hi
      rw [List.getElem_range]
      exact (hX i hi).1
    · show DataW.slice _ _ = _
      congr 1
      rw [List.map_map]
      exact List.map_congr_left fun i hi => (hX i (List.mem_range.1 hi)).2
/-- The datum of a word. -/
def WdD (x : Wd) (d : DataW H) : Prop := ∃ c, d = .agg [.lit (.string x.name), lit8 x.flags, c] ∧ RowD (x.code.map lit32) c
set_option maxRecDepth 100000 in
theorem open_word {fuel : Nat} {cs : List Value} {y : DataW H × List MemPlace} (h : DataW.trod enc Try.prog W 0 sp held fuel 25 cs = some y) :
    ∃ x cv, cs = wcells (x, cv) ∧ Sl32 (There W) W cv x.code ∧ x.code.length ≤ maxLen ∧ x.name.length ≤ maxLen ∧ WdD x y.1 := by
  obtain ⟨y0, y1, y2, n, rfl, hlen, t0, t1, t2⟩ := trod_struct3 Try.underlying25 h
  rw [cells_word] at hlen
  match cs, hlen with
  | [c0, c1, c2], _ =>
    simp only [cells_str, cells_u8, cells_code, List.drop, List.take] at t0 t1 t2
    obtain ⟨s, e0, rfl, hs⟩ := DataW.trod_string Try.underlying9 t0
    obtain ⟨k, e1, rfl, hw⟩ := DataW.trod_int Try.underlying5 t1
    obtain ⟨z, rfl⟩ := u8_of_wf hw
    obtain ⟨v, l, e2, hsl, hll, hd⟩ := open_u32s t2
    simp only [List.cons.injEq, and_true] at e0 e1 e2
    subst e0; subst e1; subst e2
    refine ⟨⟨s.data.toList, z, l⟩, c2, ?_, hsl, hll, by simpa using hs, ⟨_, rfl, hd⟩⟩
    simp only [wcells, str]
/-- The datum of a list of words. -/
def WdsD (L : List Wd) (d : DataW H) : Prop := (d = .nil ∧ L = []) ∨ ∃ (D : Nat → DataW H) (spare : List (DataW H)), d = .slice ((List.range L.length).map D) spare ∧ ∀ (i : Nat) (x : Wd), L[i]? = some x → WdD x (D i)
instance : Inhabited Wd := ⟨⟨[], 0, []⟩⟩
theorem open_words {fuel : Nat} {cs : List Value} {y : DataW H × List MemPlace} (h : DataW.trod enc Try.prog W 0 sp held fuel 29 cs = some y) :
    ∃ v L, cs = [v] ∧ WordsAt (There W) W v L ∧ L.length ≤ maxLen ∧ (∀ x ∈ L, x.code.length ≤ maxLen ∧ x.name.length ≤ maxLen) ∧ WdsD L y.1 := by
  rcases open_slice Try.underlying29 h with ⟨rfl, rfl⟩ | ⟨a, len, cap, m, n, D, Pl, rfl, hb, hl, hm, hmm, rfl, hx⟩
  · exact ⟨_, [], rfl, WordsAt.nil _ _, Nat.zero_le _, fun x hx => (by cases hx), .inl ⟨rfl, rfl⟩⟩
  · have hlm : len ≤ m := by rw [hmm]; split <;> omega
    obtain ⟨X, hX⟩ := choose_lt (α := Wd × Value) (p := fun i p => (∀ r v, (wcells p)[r]? = some v → W.cell? (a.add (i * 3 + r)) = some v) ∧ Sl32 (There W) W p.2 p.1.code ∧ p.1.code.length ≤ maxLen ∧ p.1.name.length ≤ maxLen ∧ WdD p.1 (D i)) (n := len) (fun i hi => by
      obtain ⟨cs', h1, h2⟩ := hx i (by omega)
      rw [cells_word] at h1
      obtain ⟨_, hlen, hcell⟩ := World.cells?_some h1
      obtain ⟨x, cv, rfl, hs, hc, hn, hd⟩ := open_word h2
      refine ⟨(x, cv), fun r v hv => ?_, hs, hc, hn, hd⟩
      have hr : r < 3 := by
        have := (List.getElem?_eq_some_iff.1 hv).1
        simpa [wcells] using this
      rw [← add_add, hcell r hr]
      exact hv)
    refine ⟨_, (List.range len).map fun i => (X i).1, rfl, ⟨(List.range len).map X, by simp [List.map_map, Function.comp_def], ⟨some a, cap, by simp, by simpa using hl, row_of_cells fun j v hv => ?_⟩, fun p hp => ?_⟩, by simp; omega, fun x hx => ?_, .inr ⟨D, (List.range (m - len)).map fun j => D (len + j), by simp, fun i x hi => ?_⟩⟩
    · have hj : j / 3 * 3 + j % 3 = j := by omega
      have hlt : j < ((List.range len).map X).length * 3 := by
        have := (List.getElem?_eq_some_iff.1 hv).1
        rwa [wcells_length] at this
      have hlt' : j / 3 < len := by simp at hlt; omega
      rw [← hj, wcells_get _ (j / 3) (j % 3) (by omega) (X (j / 3)) (by simp [hlt'])] at hv
      rw [← hj]
      exact (hX (j / 3) hlt').1 _ v hv
    · obtain ⟨i, hi, rfl⟩ := List.mem_map.1 hp
      exact (hX i (List.mem_range.1 hi)).2.1
    · obtain ⟨i, hi, rfl⟩ := List.mem_map.1 hx
      exact ⟨(hX i (List.mem_range.1 hi)).2.2.1, (hX i (List.mem_range.1 hi)).2.2.2.1⟩
    · have hi' : i < len := by
        have := (List.getElem?_eq_some_iff.1 hi).1
        simpa using this
      obtain rfl : (X i).1 = x := by simpa [hi'] using hi
      exact (hX i hi').2.2.2.2
set_option maxRecDepth 100000 in
theorem arg_words {r : Reach} {base : Nat} {v : Value} {d : DataW H} {ps : List MemPlace} (hval : Value.okWide Try.prog W r base 29 v) (h : DataW.Trod enc Try.prog W 0 sp held 29 v d ps) :
    ∃ L, WordsAt (There W) W v L ∧ L.length ≤ maxLen ∧ (∀ x ∈ L, x.code.length ≤ maxLen ∧ x.name.length ≤ maxLen) ∧ WdsD L d := by
  obtain ⟨a, len, cap, rfl⟩ := okWide_slice Try.underlying29 hval
  obtain ⟨fuel, h⟩ := h
  obtain ⟨v, L, e, h1, h2, h3, h4⟩ := open_words h
  obtain rfl : Value.slice a len cap = v := by simpa [Value.cells] using e
  exact ⟨L, h1, h2, h3, h4⟩
set_option maxRecDepth 100000 in
theorem arg_bytes {r : Reach} {base : Nat} {v : Value} {d : DataW H} {ps : List MemPlace} (hval : Value.okWide Try.prog W r base 27 v) (h : DataW.Trod enc Try.prog W 0 sp held 27 v d ps) :
    ∃ l, Sl8 (There W) W v l ∧ l.length ≤ maxLen ∧ RowD (l.map lit8) d := by
  obtain ⟨a, len, cap, rfl⟩ := okWide_slice Try.underlying27 hval
  obtain ⟨fuel, h⟩ := h
  obtain ⟨v, l, e, h1, h2, h3⟩ := open_u8s h
  obtain rfl : Value.slice a len cap = v := by simpa [Value.cells] using e
  exact ⟨l, h1, h2, h3⟩
set_option maxRecDepth 100000 in
theorem arg_word {r : Reach} {base : Nat} {v : Value} {d : DataW H} {ps : List MemPlace} (hval : Value.okWide Try.prog W r base 25 v) (h : DataW.Trod enc Try.prog W 0 sp held 25 v d ps) :
    ∃ x, WdAt (There W) W v x ∧ x.code.length ≤ maxLen ∧ x.name.length ≤ maxLen ∧ WdD x d := by
  obtain ⟨cs, rfl, _⟩ := okWide_struct Try.underlying25 hval
  obtain ⟨fuel, h⟩ := h
  obtain ⟨x, cv, e, h1, h2, h3, h4⟩ := open_word h
  refine ⟨x, ⟨cv, ?_, h1⟩, h2, h3, h4⟩
  have : cs.toList = wcells (x, cv) := by simpa [Value.cells] using e
  rw [wdV, show cs = #[str x.name, .int .u8 (b8 x.flags), cv] from Array.toList_inj.1 (by rw [this]; rfl)]
theorem bytes_u8 : Try.prog.bytesOf 5 = 1 := by kernel_rfl
theorem bytes_reach {ts : List TypeId} {ds : List (DataW H)} {l : List UInt8} {d : DataW H} (h : (DataW.weightsEach Try.prog ts ds).all (· ≤ reachBytes) = true) {j : Nat} (ht : ts[j]? = some 27) (hd : ds[j]? = some d) (hr : RowD (l.map lit8) d) : l.length ≤ 140737488351232 := by
  rcases hr with ⟨rfl, h0⟩ | ⟨spare, rfl⟩
  · obtain rfl : l = [] := List.map_eq_nil_iff.1 h0
    exact Nat.zero_le _
  · have := sized_slice h ht hd Try.underlying27
    rw [bytes_u8, List.length_map] at this
    simp only [reachBytes] at this
    omega
end
end Go.Proofs.Ytmejngojpffcgaa

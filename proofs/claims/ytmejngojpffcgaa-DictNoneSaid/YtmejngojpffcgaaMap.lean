import Derived.Test.YtmejngojpffcgaaStarts
import Derived.Carry
import Derived.RangeFuncRecord
/- A map keyed by places (pairs of 32-bit numbers) that the call has made, and to which keys are added. -/
namespace Go.Ls
open Go.RowKit
abbrev Pl := UInt32 × UInt32
def plV (p : Pl) : Value := .agg #[.int .u32 (w32 p.1), .int .u32 (w32 p.2)]
def entAt (n : Nat) : List (Pl × Int) → List MapEntry
  | [] => []
  | p :: L => ⟨plV p.1, .int .i64 p.2, n⟩ :: entAt (n + 1) L
def mapObj (L : List (Pl × Int)) : Obj := .map (entAt 0 L).toArray L.length
def MapAt (w : World) (b : Nat) (L : List (Pl × Int)) : Prop := w.heap[b]? = some (mapObj L)
theorem entAt_snoc (L : List (Pl × Int)) (p : Pl × Int) : ∀ n, entAt n (L ++ [p]) = entAt n L ++ [⟨plV p.1, .int .i64 p.2, n + L.length⟩] := by
  induction L with
  | nil => intro n; rfl
  | cons q L ih => intro n; simp only [List.cons_append, entAt, ih, List.length_cons]; congr 4; omega
theorem entAt_length (L : List (Pl × Int)) : ∀ n, (entAt n L).length = L.length := by
  induction L with
  | nil => intro n; rfl
  | cons q L ih => intro n; simp [entAt, ih]
theorem entAt_born (L : List (Pl × Int)) : ∀ n, ∀ e ∈ entAt n L, e.born < n + L.length := by
  induction L with
  | nil => intro n e h; cases h
  | cons q L ih =>
    intro n e h
    rcases List.mem_cons.1 h with rfl | h
    · simp
    · have := ih (n + 1) e h
      simp only [List.length_cons]; omega
theorem modify_snoc {α : Type} (f : α → α) (l : List α) (a : α) : (l ++ [a]).modify l.length f = l ++ [f a] := by
  induction l with
  | nil => rfl
  | cons x l ih => simp only [List.cons_append, List.length_cons, List.modify_succ_cons, ih]
/-- How often a place was counted. -/
def cnt : List (Pl × Int) → Pl → Int
  | [], _ => 0
  | q :: L, p => if q.1 = p then q.2 else cnt L p
theorem cnt_snoc {L : List (Pl × Int)} {p : Pl} {c : Int} (h : ∀ q ∈ L, q.1 ≠ p) : cnt (L ++ [(p, c)]) p = c := by
  induction L with
  | nil => simp [cnt]
  | cons q L ih =>
    simp only [List.cons_append, cnt]
    rw [if_neg (h q (by simp))]
    exact ih fun q hq => h q (by simp [hq])
def ones (S : List Pl) : List (Pl × Int) := S.map fun p => (p, 1)
theorem cnt_ones (S : List Pl) (p : Pl) : cnt (ones S) p = if S.contains p then 1 else 0 := by
  induction S with
  | nil => rfl
  | cons q S ih =>
    simp only [ones, List.map_cons, cnt]
    by_cases h : q = p
    · subst h; simp
    · rw [if_neg h]
      have h' : (p == q) = false := by simpa using fun e => h e.symm
      rw [List.contains_cons, h', Bool.false_or]
      exact ih
end Go.Ls
namespace Go.Proofs.Ytmejngojpffcgaa
open Go.RowKit Go.Ls
theorem pl_check (em : Bool) (p : Pl) (W : World) : (Instr.checkKey em 10000 105 (plV p)).run Try.prog W = .ok () W := by
  have h : ∀ a b, (Instr.checkKey em 10000 105 (.agg #[.int .u32 a, .int .u32 b])).run Try.prog W = .ok () W := fun a b => by kernel_rfl
  exact h _ _
theorem pl_u32 : Try.prog.underlying 51 = some (.int .u32) := by kernel_rfl
theorem pl_size : (Try.prog.info? 51).map (·.size) = some 1 := by kernel_rfl
theorem pl_held : Try.prog.stoodInHeld 105 = false := by kernel_rfl
theorem pl_eq1 (n : Nat) (a c : Int) (W : World) : (Op.equalIn (n + 1) 51 (.int .u32 a) (.int .u32 c)).run Try.prog W = .ok (a == c) W := by
  rw [Op.equalIn]
  simp [run_underlying pl_u32, Result.andThen]
theorem pl_eq2 (n : Nat) (a b c d : Int) (W : World) : (Op.equalIn (n + 1 + 1) 105 (.agg #[.int .u32 a, .int .u32 b]) (.agg #[.int .u32 c, .int .u32 d])).run Try.prog W = .ok (a == c && b == d) W := by
  obtain ⟨i0, hi0, hs0⟩ := Option.map_eq_some_iff.1 pl_size
  have hu := Try.underlying105
  rw [Op.equalIn]
  by_cases h1 : a = c <;> by_cases h2 : b = d <;>
  simp [run_underlying hu, part, isAgg, run_underlying pl_u32, pl_eq1, Result.andThen, h1, h2]
theorem pl_equal (p q : Pl) (W : World) : (Op.equal 105 (plV p) (plV q)).run Try.prog W = .ok (p == q) W := by
  have := pl_eq2 9998 (w32 p.1) (w32 p.2) (w32 q.1) (w32 q.2) W
  rw [show (p == q) = (w32 p.1 == w32 q.1 && w32 p.2 == w32 q.2) from ?_]
  · exact this
  · obtain ⟨a, b⟩ := p
    obtain ⟨c, d⟩ := q
    rw [Bool.eq_iff_iff]
    simp only [beq_iff_eq, Prod.mk.injEq, Bool.and_eq_true]
    exact ⟨fun ⟨e, f⟩ => ⟨by rw [e], by rw [f]⟩, fun ⟨e, f⟩ => ⟨w32_inj e, w32_inj f⟩⟩
theorem pl_ask (p : Pl) (W : World) : ∀ (L : List (Pl × Int)) (n i : Nat), (Instr.findAsking 105 (plV p) (entAt n L) i).run Try.prog W = .ok (match L.findIdx? (fun q => q.1 = p) with | some j => some (i + j, .int .i64 (cnt L p)) | none => none) W
  | [], n, i => rfl
  | q :: L, n, i => by
    simp only [entAt, Instr.findAsking, Sem.run_bind, pl_equal, Result.andThen_ok, List.findIdx?_cons, cnt]
    by_cases h : q.1 = p
    · rw [if_pos (by simpa using h.symm)]
      simp [h]
    · rw [if_neg (by simpa using fun e => h e.symm), pl_ask p W L (n + 1) (i + 1)]
      simp only [h, decide_false, if_false, Bool.false_eq_true]
      cases L.findIdx? (fun q => q.1 = p) <;> simp <;> omega
theorem pl_find (p : Pl) (W : World) (L : List (Pl × Int)) : (Instr.findKey 105 (plV p) (entAt 0 L)).run Try.prog W = .ok (match L.findIdx? (fun q => q.1 = p) with | some j => some (j, .int .i64 (cnt L p)) | none => none) W := by
  have hu := Try.underlying105
  cases L with
  | nil => simp [Instr.findKey, run_underlying hu, entAt, Instr.findNow]
  | cons q L =>
    have := pl_ask p W (q :: L) 0 0
    simp only [Instr.findKey, Sem.run_bind, run_underlying hu, Result.andThen_ok, entAt, Instr.findNow, Instr.sameNow]
    simp only [entAt] at this
    rw [this]
    cases (q :: L).findIdx? (fun q => q.1 = p) <;> simp
theorem idx_none {L : List (Pl × Int)} {p : Pl} (h : ∀ q ∈ L, q.1 ≠ p) : L.findIdx? (fun q => q.1 = p) = none := by
  rw [List.findIdx?_eq_none_iff]
  intro q hq
  simpa using h q hq
theorem cnt_none (L : List (Pl × Int)) (p : Pl) (h : L.findIdx? (fun q => q.1 = p) = none) : cnt L p = 0 := by
  induction L with
  | nil => rfl
  | cons q L ih =>
    rw [List.findIdx?_cons] at h
    by_cases e : q.1 = p
    · simp [e] at h
    · simp only [e, decide_false, if_false, Bool.false_eq_true] at h
      rw [cnt, if_neg e]
      exact ih (by simpa using h)
theorem map_lookup {W : World} {b : Nat} {L : List (Pl × Int)} (h : MapAt W b L) (p : Pl) : (Instr.lookup 100 (.map (some b)) (plV p) false).run Try.prog W = .ok (.int .i64 (cnt L p)) W := by
  have hu := Try.underlying100
  have hz : (zeroValue 3).run Try.prog W = .ok (.int .i64 0) W := by kernel_rfl
  have hf := pl_find p W L
  have hc := cnt_none L p
  unfold MapAt mapObj at h
  simp [Instr.lookup, run_underlying hu, MapKept.run_getObj_map h, pl_check, hf, Result.andThen]
  cases hi : L.findIdx? (fun q => q.1 = p) with
  | none => simp [hz, hc hi]
  | some j => simp
theorem map_entry {W : World} {b : Nat} {L : List (Pl × Int)} (h : MapAt W b L) (p : Pl) (hn : ∀ q ∈ L, q.1 ≠ p) : (Instr.mapEntry 100 (.map (some b)) (plV p)).run Try.prog W = .ok (.tuple #[.int .i64 0, .int .i64 L.length]) (W.putObj b (mapObj (L ++ [(p, 0)]))) := by
  have hu := Try.underlying100
  have hz : (zeroValue 3).run Try.prog W = .ok (.int .i64 0) W := by kernel_rfl
  have hf := pl_find p W L
  rw [idx_none hn] at hf
  unfold MapAt mapObj at h
  simp [Instr.mapEntry, run_underlying hu, MapKept.run_getObj_map h, pl_check, hf, hz, MapKept.run_setObj_map _ h, Result.andThen, goInt, World.putObj, mapObj, entAt_snoc]
theorem map_store {W : World} {b : Nat} {L : List (Pl × Int)} (p : Pl) (c : Int) (h : MapAt W b (L ++ [(p, 0)])) : (Instr.entryStore 100 (.map (some b)) (.int .i64 L.length) (.int .i64 c)).run Try.prog W = .ok () (W.putObj b (mapObj (L ++ [(p, c)]))) := by
  have hi : (entAt 0 (L ++ [(p, 0)])).findIdx? (fun e => (e.born : Int) == L.length) = some L.length := by
    rw [entAt_snoc, List.findIdx?_append, List.findIdx?_eq_none_iff.2]
    · simp [entAt_length, List.findIdx?_cons]
    · intro e he
      have := entAt_born L 0 e he
      simp; omega
  have hm : (entAt 0 (L ++ [(p, 0)])).modify L.length (fun e => { e with val := Value.int .i64 c }) = entAt 0 (L ++ [(p, c)]) := by
    have := modify_snoc (fun e : MapEntry => { e with val := Value.int .i64 c }) (entAt 0 L) ⟨plV p, .int .i64 0, 0 + L.length⟩
    rw [entAt_length] at this
    rw [entAt_snoc, entAt_snoc, this]
  unfold MapAt mapObj at h
  simp [Instr.entryStore, MapKept.run_getObj_map h, asInt, asIntOf, MapKept.run_setObj_map _ h, Result.andThen, World.putObj, mapObj, hi, hm]
end Go.Proofs.Ytmejngojpffcgaa

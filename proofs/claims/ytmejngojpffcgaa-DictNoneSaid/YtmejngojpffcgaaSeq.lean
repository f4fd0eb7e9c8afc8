import Derived.RangeFuncNested
import Derived.RangeFuncBound
import Derived.RangeFuncCalls
import Derived.RangeFuncLeaves
import Derived.Test.YtmejngojpffcgaaBase
/- A range over an iterator that hands out elements in new memory: what an element says holds in the world of its round, and at the end. -/
namespace Go.Ls
open Go.RowKit

/-- What a round keeps: what lay below B, and every block of the types t. -/
structure Keep (t : TypeId → Prop) (B : Nat) (w w' : World) : Prop where
  below : Below B w w'
  blk : ∀ ty b cs, t ty → Blk w b ty cs → Blk w' b ty cs
theorem Keep.refl (t : TypeId → Prop) (B : Nat) (w : World) : Keep t B w w := ⟨.refl _ _, fun _ _ _ _ h => h⟩
theorem Keep.trans {t : TypeId → Prop} {B : Nat} {u v w : World} (h : Keep t B u v) (k : Keep t B v w) : Keep t B u w := ⟨h.below.trans k.below, fun ty b cs ht x => k.blk ty b cs ht (h.blk ty b cs ht x)⟩
theorem putObj_below {B : Nat} {w : World} {l : Nat} {o : Obj} (hB : B ≤ l) : Below B w (w.putObj l o) := ⟨rfl, rfl, rfl, by simp, fun k hk => World.putObj_heap_other (by omega)⟩
theorem putObj_keep {t : TypeId → Prop} {B : Nat} {w : World} {l : Nat} {o o' : Obj} (hB : B ≤ l) (hl : w.heap[l]? = some o) (ho : o.isCells = false) : Keep t B w (w.putObj l o') :=
  ⟨putObj_below hB, fun ty b cs _ hb => (World.putObj_heap_other (fun e => by subst e; rw [show w.heap[b]? = _ from hb] at hl; cases hl; cases ho)).trans hb⟩

/-- .. and what lies from M on. -/
def Mid (M : Nat) (w w' : World) : Prop := ∀ b, M ≤ b → b < w.heap.size → w'.heap[b]? = w.heap[b]?
theorem Mid.trans {M : Nat} {u v w : World} (h : Mid M u v) (k : Mid M v w) (hs : u.heap.size ≤ v.heap.size) : Mid M u w := fun b h1 h2 => (k b h1 (by omega)).trans (h b h1 h2)
theorem putObj_mid {M : Nat} {w : World} {l : Nat} {o : Obj} (hl : l < M) : Mid M w (w.putObj l o) := fun b h1 _ => World.putObj_heap_other (by omega)

/-- An iterator's word: X holds of each element in the world of its round; S of all in the last world. -/
def Seq {α : Type} (F : Fence) (n : Nat) (P : Program) (g : Nat) (lb : Array Value) (encs : α → Array Value) (t : TypeId → Prop) (B : Nat) (X : List α → α → World → Prop) (S : List α → World → Prop) (w : World) : Prop :=
  ∀ (l : Nat) (J : List α → World → Prop) (W : World), Below w.heap.size w W →
    (∀ s A A', J s A → Below A.heap.size A A' → J s A') →
    (∀ pre x A0 A, X pre x A → J pre A0 → Below A0.heap.size A0 A → YieldAt F (n - 1) P l (encs x) A fun e A' => e = .returned (.bool true) ∧ J (pre ++ [x]) A' ∧ Keep t B A A' ∧ Mid A0.heap.size A A') →
    J [] W → CallsIn F n P g (#[.func (.yield l) #[] #[]] ++ lb) W fun e A => (∃ v, e = .returned v) ∧ ∃ xs, S xs A ∧ J xs A

/-- How a round ends: it goes on. -/
def RoundEnd (D : Nat) (t : TypeId → Prop) (B M : Nat) (W : World) (I : World → Prop) : Exit → Act → World → Prop
  | .normal, _, W' => KeepsFrom D W W' ∧ Keep t B W W' ∧ Mid M W W' ∧ I W'
  | _, _, _ => False

variable {F : Fence} {n : Nat} {P : Program}
theorem range_seq {α : Type} {g : Operand} {ps : Array Tmp} {assign body : Code} {Q : Exit → Act → World → Prop} {a : Act} {w : World}
    (hro : F.round = none) (h1 : 1 ≤ n) {gf : Nat} {lb : Array Value} (hg : a.eval g = .func (.func gf) #[] lb) (hFg : F.fn gf) (eg : ∀ args w, (callFunc gf args).run P w = .ok (.enter gf args) w)
    {encs : α → Array Value} {t : TypeId → Prop} {B : Nat} {X : List α → α → World → Prop} {S : List α → World → Prop} {w0 : World} (hseq : Seq F (n - 1) P gf lb encs t B X S w0)
    (hB : B ≤ w.heap.size) (hb0 : Below w0.heap.size w0 w) (hps : ∀ x, (encs x).size = ps.size)
    (I : List α → World → Prop) (hIb : ∀ s A A', I s A → Below A.heap.size A A' → I s A') (hIp : ∀ s A l o o', I s A → w.heap.size ≤ l → A.heap[l]? = some o → o.isCells = false → I s (A.putObj l o'))
    (Y : Nat → List α → α → Act → World → Prop) (hYp : ∀ M s x a' A l o o', Y M s x a' A → w.heap.size ≤ l → A.heap[l]? = some o → o.isCells = false → Y M s x a' (A.putObj l o'))
    (hSp : ∀ s A l o o', S s A → w.heap.size ≤ l → A.heap[l]? = some o → o.isCells = false → S s (A.putObj l o'))
    (h0 : I [] w)
    (hassign : ∀ (l : Nat) (pre : List α) (x : α) (A0 W : World) (K : Act → World → Prop), X pre x W → I pre A0 → Below A0.heap.size A0 W → (∀ a' W', KeepsFrom w.heap.size W W' → Keep t B W W' → Mid A0.heap.size W W' → Y A0.heap.size pre x a' W' → K a' W') →
      assign.wpIn (F.inRound l) (n - 1 - 1) P (Exit.then K (fun _ _ _ => False)) { tmps := (ps.zip (encs x)).foldl (fun t (p, v) => t.setIfInBounds p v) a.tmps, defers := [] } W)
    (hbody : ∀ (M l : Nat) (pre : List α) (x : α) (a' : Act) (W : World), Y M pre x a' W → body.wpIn (F.inRound l) (n - 1 - 1) P (RoundEnd w.heap.size t B M W (I (pre ++ [x]))) a' W)
    (hdone : ∀ (D : Nat) (xs : List α) (W : World), w.heap.size ≤ D → S xs W → I xs W → W.heap[D]? = some (.deferred (some [])) → Q .normal { a with defers := { target := .collected D, args := #[] } :: a.defers } W) :
    (Code.rangeFunc g ps assign body).wpIn F n P Q a w := by
  refine wpIn_rangeFunc fun fn hfn => ?_
  rw [hro]
  let rec0 : LoopState → Option Code → Loop := fun st pe => { state := st, pending := pe, fn, tmps := a.tmps, params := ps, assign, body, defers := w.heap.size }
  obtain ⟨W1, hW1⟩ : ∃ W1, (w.alloc (.deferred (some []))).alloc (.loop (rec0 .ready none)) = W1 := ⟨_, rfl⟩
  have hbw : Below w.heap.size w W1 := by rw [← hW1]; exact ((Below.refl _ w).alloc (Nat.le_refl _) _).alloc (by simp) _
  have hL1 : W1.heap[w.heap.size + 1]? = some (.loop (rec0 .ready none)) := by
    rw [← hW1]; have := World.alloc_heap_new (w.alloc (.deferred (some []))) (.loop (rec0 .ready none)); rwa [World.size_alloc] at this
  have hK1 : W1.heap[w.heap.size]? = some (.deferred (some [])) := by
    rw [← hW1]; exact (Below.heap_alloc _ _ _ (by simp)).trans (World.alloc_heap_new w _)
  refine ⟨w.heap.size + 1, [{ target := .collected w.heap.size, args := #[] }], W1, { target := .fn (.func gf) lb, args := #[.func (.yield (w.heap.size + 1)) #[] #[]] }, W1, gf,
    #[.func (.yield (w.heap.size + 1)) #[] #[]] ++ lb, W1, ?_, ?_, ?_, ?_, fun _ => h1, ?_⟩
  · rw [← hW1]; exact run_enterLoop_outer _ _ _ _ _
  · simp only [resolve, hg]
    simp [go_sem]
  · intro f' hf'; simp [Target.leads] at hf'; subst hf'; exact hFg
  · simp [invoke, go_sem, eg]
  · refine (hseq (w.heap.size + 1) (fun pre W => I pre W ∧ W.heap[w.heap.size + 1]? = some (.loop (rec0 .ready none)) ∧ W.heap[w.heap.size]? = some (.deferred (some []))) W1
      (hb0.trans (hbw.mono hb0.size)) ?_ ?_ ⟨hIb _ _ _ h0 hbw, hL1, hK1⟩).mono ?_
    · rintro s A A' ⟨hi, hl, hk⟩ hb
      exact ⟨hIb _ _ _ hi hb, (hb.block _ (Array.getElem?_eq_some_iff.1 hl).1).trans hl, (hb.block _ (Array.getElem?_eq_some_iff.1 hk).1).trans hk⟩
    · rintro pre x A0 W hx ⟨hi, hl, hk⟩ hb
      have hM : w.heap.size + 1 < A0.heap.size := (Array.getElem?_eq_some_iff.1 hl).1
      replace hl := (hb.block _ hM).trans hl
      replace hk := (hb.block _ (show w.heap.size < A0.heap.size by omega)).trans hk
      have hy := run_yield (P := P) (args := encs x) hl (hps x)
      refine ⟨fn, _, assign, body, hy, roundIn_of_wpIn hfn (hassign _ pre x A0 W _ hx hi hb fun a' W2 kf kp km yy => ?_)⟩
      have hl2 := kf.same _ _ (by omega) hl rfl
      have hk2 := kf.same _ _ (Nat.le_refl _) hk rfl
      have hlt2 : w.heap.size + 1 < W2.heap.size := (Array.getElem?_eq_some_iff.1 hl2).1
      refine ⟨_, run_beginRound hl2 rfl, ?_⟩
      have hl3 : (W2.putObj (w.heap.size + 1) (.loop (rec0 .busy none))).heap[w.heap.size + 1]? = some (.loop (rec0 .busy none)) := World.putObj_heap_same hlt2
      have hk3 : (W2.putObj (w.heap.size + 1) (.loop (rec0 .busy none))).heap[w.heap.size]? = some (.deferred (some [])) := (World.putObj_heap_other (by omega)).trans hk2
      refine wpIn_mono (hbody A0.heap.size _ pre x a' _ (hYp _ _ _ _ _ _ _ _ yy (by omega) hl2 rfl)) ?_
      rintro e a3 W3 hp
      cases e with
      | normal =>
        obtain ⟨kf3, kp3, km3, hi3⟩ := hp
        have hl4 := kf3.same _ _ (by omega) hl3 rfl
        have hk4 := kf3.same _ _ (Nat.le_refl _) hk3 rfl
        refine ⟨_, _, run_endRound none hl4, rfl, ⟨hIp _ _ _ _ _ hi3 (by omega) hl4 rfl, World.putObj_heap_same (Array.getElem?_eq_some_iff.1 hl4).1, (World.putObj_heap_other (by omega)).trans hk4⟩, ?_, ?_⟩
        · exact (kp.trans (putObj_keep (by omega) hl2 rfl)).trans (kp3.trans (putObj_keep (by omega) hl4 rfl))
        · refine (km.trans (putObj_mid hM) kf.size).trans (km3.trans (putObj_mid hM) kf3.size) ?_
          have := kf.size
          simpa using this
      | ret => exact hp.elim
      | exit id => exact hp.elim
      | goto tgt => exact hp.elim
      | panic ch => exact hp.elim
      | outgrown => exact hp.elim
    · rintro e W2 ⟨⟨v, rfl⟩, xs, hS, hi, hl, hk⟩
      exact ⟨none, _, run_endLoop hl (by simp [rec0]), hdone _ xs _ (Nat.le_refl _) (hSp _ _ _ _ _ hS (by omega) hl rfl) (hIp _ _ _ _ _ hi (by omega) hl rfl) ((World.putObj_heap_other (by omega)).trans hk)⟩
end Go.Ls

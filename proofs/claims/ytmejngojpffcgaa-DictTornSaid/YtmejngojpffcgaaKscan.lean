/- Contracts of record.each, record.Scan and record.End. No condition beyond those each theorem names. -/
import Derived.RangeFuncNested
import Derived.RangeFuncBound
import Derived.RangeFuncCalls
import Derived.RangeFuncLeaves
import Derived.Test.YtmejngojpffcgaaKbase
import Derived.OwnWalkIn
import Derived.TacticsInMore
import Derived.LoopNIn
import Derived.LoopIn
import Derived.Shelf.Abstract
import Derived.RangeFuncBox
import Derived.Maps.AppendAt
section
/- A range over an iterator that hands out elements in new memory: what an element says holds in the world of its round, and at the end. -/
namespace Go.Ls
open Go.RowKit

/-- What a round keeps: what lay below B, and every block of the types t. -/
structure Keep (t : TypeId → Prop) (B : Nat) (w w' : World) : Prop where
  below : Below B w w'
  blk : ∀ ty b cs, t ty → Blk w b ty cs → Blk w' b ty cs
theorem Keep.refl (t : TypeId → Prop) (B : Nat) (w : World) : Keep t B w w := ⟨.refl _ _, fun _ _ _ _ h => h⟩
theorem Keep.trans {t : TypeId → Prop} {B : Nat} {u v w : World} (h : Keep t B u v) (k : Keep t B v w) : Keep t B u w := ⟨h.below.trans k.below, fun ty b cs ht x => k.blk ty b cs ht (h.blk ty b cs ht x)⟩
theorem putObj_below {B : Nat} {w : World} {l : Nat} {o : Obj} (hB : B ≤ l) : Below B w (w.putObj l o) := ⟨rfl, rfl, rfl, by simp, fun k hk => World.putObj_heap_other (by omega)⟩
theorem putObj_keep {t : TypeId → Prop} {B : Nat} {w : World} {l : Nat} {o o' : Obj} (hB : B ≤ l) (hl : w.heap[l]? = some o) (ho : o.isCells = false) : Keep t B w (w.putObj l o') :=
  ⟨putObj_below hB, fun ty b cs _ hb => (World.putObj_heap_other (fun e => by subst e; rw [show w.heap[b]? = _ from hb] at hl; cases hl; cases ho)).trans hb⟩

/-- .. and what lies from M on. -/
def Mid (M : Nat) (w w' : World) : Prop := ∀ b, M ≤ b → b < w.heap.size → w'.heap[b]? = w.heap[b]?
theorem Mid.trans {M : Nat} {u v w : World} (h : Mid M u v) (k : Mid M v w) (hs : u.heap.size ≤ v.heap.size) : Mid M u w := fun b h1 h2 => (k b h1 (by omega)).trans (h b h1 h2)
theorem putObj_mid {M : Nat} {w : World} {l : Nat} {o : Obj} (hl : l < M) : Mid M w (w.putObj l o) := fun b h1 _ => World.putObj_heap_other (by omega)

/-- An iterator's word: X holds of each element in the world of its round; S of all in the last world. -/
def Seq {α : Type} (F : Fence) (n : Nat) (P : Program) (g : Nat) (lb : Array Value) (encs : α → Array Value) (t : TypeId → Prop) (B : Nat) (X : List α → α → World → Prop) (S : List α → World → Prop) (w : World) : Prop :=
  ∀ (l : Nat) (J : List α → World → Prop) (W : World), Below w.heap.size w W →
    (∀ s A A', J s A → Below A.heap.size A A' → J s A') →
    (∀ pre x A0 A, X pre x A → J pre A0 → Below A0.heap.size A0 A → YieldAt F (n - 1) P l (encs x) A fun e A' => e = .returned (.bool true) ∧ J (pre ++ [x]) A' ∧ Keep t B A A' ∧ Mid A0.heap.size A A') →
    J [] W → CallsIn F n P g (#[.func (.yield l) #[] #[]] ++ lb) W fun e A => (∃ v, e = .returned v) ∧ ∃ xs, S xs A ∧ J xs A

/-- How a round ends: it goes on. -/
def RoundEnd (D : Nat) (t : TypeId → Prop) (B M : Nat) (W : World) (I : World → Prop) : Exit → Act → World → Prop
  | .normal, _, W' => KeepsFrom D W W' ∧ Keep t B W W' ∧ Mid M W W' ∧ I W'
  | _, _, _ => False

variable {F : Fence} {n : Nat} {P : Program}
theorem range_seq {α : Type} {g : Operand} {ps : Array Tmp} {assign body : Code} {Q : Exit → Act → World → Prop} {a : Act} {w : World}
    (hro : F.round = none) (h1 : 1 ≤ n) {gf : Nat} {lb : Array Value} (hg : a.eval g = .func (.func gf) #[] lb) (hFg : F.fn gf) (eg : ∀ args w, (callFunc gf args).run P w = .ok (.enter gf args) w)
    {encs : α → Array Value} {t : TypeId → Prop} {B : Nat} {X : List α → α → World → Prop} {S : List α → World → Prop} {w0 : World} (hseq : Seq F (n - 1) P gf lb encs t B X S w0)
    (hB : B ≤ w.heap.size) (hb0 : Below w0.heap.size w0 w) (hps : ∀ x, (encs x).size = ps.size)
    (I : List α → World → Prop) (hIb : ∀ s A A', I s A → Below A.heap.size A A' → I s A') (hIp : ∀ s A l o o', I s A → w.heap.size ≤ l → A.heap[l]? = some o → o.isCells = false → I s (A.putObj l o'))
    (Y : Nat → List α → α → Act → World → Prop) (hYp : ∀ M s x a' A l o o', Y M s x a' A → w.heap.size ≤ l → A.heap[l]? = some o → o.isCells = false → Y M s x a' (A.putObj l o'))
    (hSp : ∀ s A l o o', S s A → w.heap.size ≤ l → A.heap[l]? = some o → o.isCells = false → S s (A.putObj l o'))
    (h0 : I [] w)
    (hassign : ∀ (l : Nat) (pre : List α) (x : α) (A0 W : World) (K : Act → World → Prop), X pre x W → I pre A0 → Below A0.heap.size A0 W → (∀ a' W', KeepsFrom w.heap.size W W' → Keep t B W W' → Mid A0.heap.size W W' → Y A0.heap.size pre x a' W' → K a' W') →
      assign.wpIn (F.inRound l) (n - 1 - 1) P (Exit.then K (fun _ _ _ => False)) { tmps := (ps.zip (encs x)).foldl (fun t (p, v) => t.setIfInBounds p v) a.tmps, defers := [] } W)
    (hbody : ∀ (M l : Nat) (pre : List α) (x : α) (a' : Act) (W : World), Y M pre x a' W → body.wpIn (F.inRound l) (n - 1 - 1) P (RoundEnd w.heap.size t B M W (I (pre ++ [x]))) a' W)
    (hdone : ∀ (D : Nat) (xs : List α) (W : World), w.heap.size ≤ D → S xs W → I xs W → W.heap[D]? = some (.deferred (some [])) → Q .normal { a with defers := { target := .collected D, args := #[] } :: a.defers } W) :
    (Code.rangeFunc g ps assign body).wpIn F n P Q a w := by
  refine wpIn_rangeFunc fun fn hfn => ?_
  rw [hro]
  let rec0 : LoopState → Option Code → Loop := fun st pe => { state := st, pending := pe, fn, tmps := a.tmps, params := ps, assign, body, defers := w.heap.size }
  obtain ⟨W1, hW1⟩ : ∃ W1, (w.alloc (.deferred (some []))).alloc (.loop (rec0 .ready none)) = W1 := ⟨_, rfl⟩
  have hbw : Below w.heap.size w W1 := by rw [← hW1]; exact ((Below.refl _ w).alloc (Nat.le_refl _) _).alloc (by simp) _
  have hL1 : W1.heap[w.heap.size + 1]? = some (.loop (rec0 .ready none)) := by
    rw [← hW1]; have := World.alloc_heap_new (w.alloc (.deferred (some []))) (.loop (rec0 .ready none)); rwa [World.size_alloc] at this
  have hK1 : W1.heap[w.heap.size]? = some (.deferred (some [])) := by
    rw [← hW1]; exact (Below.heap_alloc _ _ _ (by simp)).trans (World.alloc_heap_new w _)
  refine ⟨w.heap.size + 1, [{ target := .collected w.heap.size, args := #[] }], W1, { target := .fn (.func gf) lb, args := #[.func (.yield (w.heap.size + 1)) #[] #[]] }, W1, gf,
    #[.func (.yield (w.heap.size + 1)) #[] #[]] ++ lb, W1, ?_, ?_, ?_, ?_, fun _ => h1, ?_⟩
  · rw [← hW1]; exact run_enterLoop_outer _ _ _ _ _
  · simp only [resolve, hg]
    simp [go_sem]
  · intro f' hf'; simp [Target.leads] at hf'; subst hf'; exact hFg
  · simp [invoke, go_sem, eg]
  · refine (hseq (w.heap.size + 1) (fun pre W => I pre W ∧ W.heap[w.heap.size + 1]? = some (.loop (rec0 .ready none)) ∧ W.heap[w.heap.size]? = some (.deferred (some []))) W1
      (hb0.trans (hbw.mono hb0.size)) ?_ ?_ ⟨hIb _ _ _ h0 hbw, hL1, hK1⟩).mono ?_
    · rintro s A A' ⟨hi, hl, hk⟩ hb
      exact ⟨hIb _ _ _ hi hb, (hb.block _ (Array.getElem?_eq_some_iff.1 hl).1).trans hl, (hb.block _ (Array.getElem?_eq_some_iff.1 hk).1).trans hk⟩
    · rintro pre x A0 W hx ⟨hi, hl, hk⟩ hb
      have hM : w.heap.size + 1 < A0.heap.size := (Array.getElem?_eq_some_iff.1 hl).1
      replace hl := (hb.block _ hM).trans hl
      replace hk := (hb.block _ (show w.heap.size < A0.heap.size by omega)).trans hk
      have hy := run_yield (P := P) (args := encs x) hl (hps x)
      refine ⟨fn, _, assign, body, hy, roundIn_of_wpIn hfn (hassign _ pre x A0 W _ hx hi hb fun a' W2 kf kp km yy => ?_)⟩
      have hl2 := kf.same _ _ (by omega) hl rfl
      have hk2 := kf.same _ _ (Nat.le_refl _) hk rfl
      have hlt2 : w.heap.size + 1 < W2.heap.size := (Array.getElem?_eq_some_iff.1 hl2).1
      refine ⟨_, run_beginRound hl2 rfl, ?_⟩
      have hl3 : (W2.putObj (w.heap.size + 1) (.loop (rec0 .busy none))).heap[w.heap.size + 1]? = some (.loop (rec0 .busy none)) := World.putObj_heap_same hlt2
      have hk3 : (W2.putObj (w.heap.size + 1) (.loop (rec0 .busy none))).heap[w.heap.size]? = some (.deferred (some [])) := (World.putObj_heap_other (by omega)).trans hk2
      refine wpIn_mono (hbody A0.heap.size _ pre x a' _ (hYp _ _ _ _ _ _ _ _ yy (by omega) hl2 rfl)) ?_
      rintro e a3 W3 hp
      cases e with
      | normal =>
        obtain ⟨kf3, kp3, km3, hi3⟩ := hp
        have hl4 := kf3.same _ _ (by omega) hl3 rfl
        have hk4 := kf3.same _ _ (Nat.le_refl _) hk3 rfl
        refine ⟨_, _, run_endRound none hl4, rfl, ⟨hIp _ _ _ _ _ hi3 (by omega) hl4 rfl, World.putObj_heap_same (Array.getElem?_eq_some_iff.1 hl4).1, (World.putObj_heap_other (by omega)).trans hk4⟩, ?_, ?_⟩
        · exact (kp.trans (putObj_keep (by omega) hl2 rfl)).trans (kp3.trans (putObj_keep (by omega) hl4 rfl))
        · refine (km.trans (putObj_mid hM) kf.size).trans (km3.trans (putObj_mid hM) kf3.size) ?_
          have := kf.size
          simpa using this
      | ret => exact hp.elim
      | exit id => exact hp.elim
      | goto tgt => exact hp.elim
      | panic ch => exact hp.elim
      | outgrown => exact hp.elim
    · rintro e W2 ⟨⟨v, rfl⟩, xs, hS, hi, hl, hk⟩
      exact ⟨none, _, run_endLoop hl (by simp [rec0]), hdone _ xs _ (Nat.le_refl _) (hSp _ _ _ _ _ hS (by omega) hl rfl) (hIp _ _ _ _ _ hi (by omega) hl rfl) ((World.putObj_heap_other (by omega)).trans hk)⟩
end Go.Ls
end

section
/- The records of a log, one behind the other: no Go in this text. -/
namespace Go.Ls

theorem recLen_size {b : List UInt8} {n : Nat} (h : recLen b = some n) : n ≤ 4080 ∧ recSize n ≤ b.length ∧ n + 12 ≤ recSize n ∧ recSize n ≤ 4092 := by
  unfold recLen at h
  split at h
  · cases h
  · split at h
    · cases h
    · simp only [] at h
      split at h
      · cases h
      · rename_i hx
        cases h
        refine ⟨by omega, by omega, ?_, ?_⟩
        · unfold recSize padN; rw [if_neg (by omega)]; omega
        · unfold recSize padN; split <;> omega
theorem recAt_size (l : List UInt8) : (0 < l.length → 0 < (recAt l).size) ∧ (recAt l).size ≤ l.length ∧ (recAt l).place = 0 := by
  unfold recAt
  split
  · exact ⟨fun h => h, Nat.le_refl _, rfl⟩
  · split
    · refine ⟨fun h => ?_, ?_, rfl⟩
      · show 0 < min 4 l.length; omega
      · show min 4 l.length ≤ l.length; omega
    · rename_i n hn
      have := recLen_size hn
      split
      · refine ⟨fun _ => ?_, ?_, rfl⟩
        · show 0 < recSize n; omega
        · show recSize n ≤ l.length; omega
      · refine ⟨fun _ => ?_, ?_, rfl⟩
        · show 0 < recSize n; omega
        · show recSize n ≤ l.length; omega

/-- The record at one place, told with the place. -/
def recOf (b : List UInt8) (at_ : Nat) : Rec := { recAt (b.drop at_) with place := at_ }
theorem recOf_size (b : List UInt8) (k : Nat) : (k < b.length → 0 < (recOf b k).size) ∧ ((recOf b k).size ≤ b.length - k) := by
  have := recAt_size (b.drop k)
  rw [List.length_drop] at this
  exact ⟨fun h => this.1 (by omega), this.2.1⟩
/-- All records from one place on, till the blank one or the end. -/
def scanAt (b : List UInt8) (k : Nat) : List Rec :=
  if _h : k < b.length then if (recOf b k).kind = 0 then [] else recOf b k :: scanAt b (k + (recOf b k).size) else []
termination_by b.length - k
decreasing_by have := (recOf_size b k).1 _h; omega
def recScan (b : List UInt8) : List Rec := scanAt b 0
def recEnd (b : List UInt8) : Nat := match (recScan b).getLast? with
  | none => 0
  | some r => r.place + r.size
theorem scanAt_end {b : List UInt8} {k : Nat} (h : b.length ≤ k) : scanAt b k = [] := by unfold scanAt; rw [dif_neg (by omega)]
theorem scanAt_blank {b : List UInt8} {k : Nat} (h : (recOf b k).kind = 0) : scanAt b k = [] := by
  unfold scanAt
  simp only [h, if_true, dite_eq_ite, ite_self]
theorem scanAt_more {b : List UInt8} {k : Nat} (h : k < b.length) (hk : (recOf b k).kind ≠ 0) : scanAt b k = recOf b k :: scanAt b (k + (recOf b k).size) := by rw [scanAt, dif_pos h, if_neg hk]
end Go.Ls
end

section
namespace Go.Ls
open Go.RowKit
section
variable {F : Fence} {n : Nat} {P : Program} {ops : Array Oper} {rest : List Oper} {o : Oper} {a : Act} {w : World} {Q : Exit → Act → World → Prop}
theorem storeIn_row (hgd : o.guard = none) (ty : TypeId) (x y : Operand) (ho : o.op = .store ty x y)
    (g : Nat) (cells : Array Value) (hx : a.eval x = .pointer (some ⟨g, 0, none⟩)) (hy : a.eval y = .agg cells)
    (t : TypeId) (old : Array Value) (hg : Blk w g t old) (hi : (P.info? ty).map (·.size) = some cells.size)
    (hold : old.size = cells.size) (h1 : cells.all (·.oneCell') = true)
    (h : wpListIn F n P ops Q rest (a.put o.dst undef) (w.setRow g cells)) : wpListIn F n P ops Q (o :: rest) a w :=
  wpListIn_plain hgd fun K hK => by
    unfold Oper.wpIn
    refine ⟨by simp [Oper.about, ho], ?_⟩
    rw [Oper.semAt_plain F _ _ (by rw [ho]; intro c hc'; cases hc')]
    unfold execOp
    simp only [ho, hx, hy, Instr.storeAt, Instr.sureAddr, Sem.run_bind, Sem.run_pure, Result.andThen_ok, run_storeVar_row w g t ty old cells hg hi hold h1]
    exact hK _ _ h
theorem loadIn_row (hgd : o.guard = none) (ty : TypeId) (x : Operand) (ho : o.op = .load ty x)
    (g : Nat) (hx : a.eval x = .pointer (some ⟨g, 0, none⟩)) (t : TypeId) (cs : Array Value) (d : TypeDesc) (hg : Blk w g t cs)
    (hu : P.underlying ty = some d) (hd : (match d with | .struct _ | .array _ _ => true | _ => false) = true) (hi : (P.info? ty).map (·.size) = some cs.size)
    (h : wpListIn F n P ops Q rest (a.put o.dst (.agg cs)) w) : wpListIn F n P ops Q (o :: rest) a w :=
  wpListIn_plain hgd fun K hK => by
    unfold Oper.wpIn
    refine ⟨by simp [Oper.about, ho], ?_⟩
    rw [Oper.semAt_plain F _ _ (by rw [ho]; intro c hc'; cases hc')]
    unfold execOp
    simp only [ho, hx, Instr.loadAt, Instr.sureAddr, Sem.run_bind, Sem.run_pure, Result.andThen_ok, run_loadVar_row w g t ty cs (0, 0) d hg hu hd hi]
    exact hK _ _ h
end
end Go.Ls
namespace Go.Proofs.Ytmejngojpffcgaa
open Go.RowKit Go.Ls
attribute [local go_sem] Oper.semAt_some

/-- The types of bytes and of slices of bytes: whoever goes over records turns no block of these. -/
def byteTypes (t : TypeId) : Prop := t = 5 ∨ t = 27
/-- The value of a record. -/
def recV (x : Value × Rec) : Value := .agg #[.int .i64 x.2.place, .int .i64 x.2.size, .int .u8 (b8 x.2.kind), x.1]
def RecX (b : List UInt8) (B : Nat) (pre : List (Value × Rec)) (x : Value × Rec) (A : World) : Prop :=
  Pay (From B) A x.1 x.2.payload ∧ pre.length < b.length ∧ x.2.place + x.2.size ≤ b.length ∧ ∃ k, k < b.length ∧ x.2 = recOf b k ∧ pre.map (·.2) ++ x.2 :: scanAt b (k + x.2.size) = recScan b
def RecS (b : List UInt8) (B : Nat) (xs : List (Value × Rec)) (A : World) : Prop :=
  xs.map (·.2) = recScan b ∧ ∀ x ∈ xs, Pay (From B) A x.1 x.2.payload
theorem RecX.put {b : List UInt8} {B : Nat} {pre : List (Value × Rec)} {x : Value × Rec} {A : World} {l : Nat} {o o' : Obj} (h : RecX b B pre x A) (hl : A.heap[l]? = some o) (ho : o.isCells = false) : RecX b B pre x (A.putObj l o') :=
  ⟨h.1.keep fun b cs _ hb => (World.putObj_heap_other (fun e => by subst e; rw [show A.heap[b]? = _ from hb] at hl; cases hl; cases ho)).trans hb, h.2⟩
theorem RecS.put {b : List UInt8} {B : Nat} {xs : List (Value × Rec)} {A : World} {l : Nat} {o o' : Obj} (h : RecS b B xs A) (hl : A.heap[l]? = some o) (ho : o.isCells = false) : RecS b B xs (A.putObj l o') :=
  ⟨h.1, fun x hx => (h.2 x hx).keep fun b cs _ hb => (World.putObj_heap_other (fun e => by subst e; rw [show A.heap[b]? = _ from hb] at hl; cases hl; cases ho)).trans hb⟩

set_option maxRecDepth 100000 in
set_option maxHeartbeats 1000000 in
theorem each1 {Sb : Nat → Prop} (m : Nat) (Bs : Nat) (v : Value) (b : List UInt8) (B : Nat) (w : World) (hl : Sl8 Sb w v b) (hSb : ∀ k, Sb k → k < B) (hn : b.length ≤ 140737488355328) (hB : B ≤ w.heap.size)
    (hbox : Blk w Bs 27 #[v]) :
    Seq Fence.wide m Try.prog 100 #[.pointer (some ⟨Bs, 0, none⟩)] (fun x : Value × Rec => #[recV x]) byteTypes B (RecX b B) (RecS b B) w := by
  intro l J W hW hJb hY h0
  have hl1 : Sl8 Sb W v b := Sl.below hl hW
  have hbox1 : Blk W Bs 27 #[v] := hbox.below hW hbox.lt
  have hsz := hW.size
  obtain ⟨A, c, rfl, hc, hr⟩ := hl1
  refine callsIn_of_wp Try.func100 rfl trivial ?_ rfl
  simp only [Try.ntmps100, List.size_toArray, List.length_cons, List.length_nil, Nat.reduceAdd, Nat.reduceSub, Array.replicate_succ, Array.replicate_zero, List.push_toArray, List.append_toArray, List.nil_append, List.cons_append]
  gi_wp2
  gi_loopw [3] (fun i wr => ∃ (k : Nat) (pre : List (Value × Rec)), i = .int .i64 k ∧ k ≤ b.length ∧ pre.length ≤ k ∧ pre.map (·.2) ++ scanAt b k = recScan b ∧ J pre wr ∧ Below B W wr ∧ Blk wr Bs 27 #[.slice A b.length c] ∧ (∀ x ∈ pre, Pay (From B) wr x.1 x.2.payload))
    (fun i _ => b.length - (intOf i).toNat)
  case atStart => exact ⟨0, [], rfl, Nat.zero_le _, Nat.zero_le _, by simp [recScan], h0, Below.refl _ _, hbox1, by simp⟩
  case round =>
    obtain ⟨k, pre, rfl, hk, hpk, hsc, hJs, hbe, hboxr, hpay⟩ := hrel
    by_cases hlt : k < b.length
    · have hr' : Row Sb wr A (u8s b) := hr.keep fun j _ hj => hbe.block j (hSb j hj)
      have hboxc := hboxr.cellv (j := 0) rfl
      obtain ⟨ba, o, rfl, _, _⟩ := hr' (by rw [u8s_length]; omega)
      have HD := Lib.hid (show Sl8 Sb wr (.slice (some ⟨ba, o + k, none⟩) (b.length - k) (c - k)) (b.drop k) from ⟨_, c - k, by rw [List.length_drop], by rw [List.length_drop]; omega, by
        have := hr'.drop k
        rw [show (u8s b).drop k = u8s (b.drop k) by simp [u8s, List.map_drop]] at this
        rwa [show (some (⟨ba, o, none⟩ : Addr)).map (·.add k) = some ⟨ba, o + k, none⟩ by simp [addr_add]] at this⟩)
      have hsl : ∀ W, (Instr.slice 27 (.slice (some ⟨ba, o, none⟩) b.length c) (some (.int .i64 (k : Int))) none none).run Try.prog W = .ok (.slice (some ⟨ba, o + k, none⟩) (b.length - k) (c - k)) W := fun W => by
        rw [run_slice_l W 27 _ _ _ Try.underlying27 .i64 (k : Int) (by omega) (by omega)]
        have h1 : ¬ c = k := by omega
        simp [sliced, Result.andThen, Program.elem, Try.underlying27, Try.sizeOf5, addr_add, h1]
      have Hr := Lib.hid hr'
      clear hr' hr hl hbox hbox1
      have Hpay := Lib.hid hpay; clear hpay
      have Hbe := Lib.hid hbe; clear hbe
      have Hz := Lib.hid zeroRec
      gi_wp2_with fail
      refine ⟨trivial, fun h => (by cases h), ?_⟩
      refine (callsIn_wide.2 (record_at _ (b.drop k) wr HD.out (by rw [List.length_drop]; omega))).mono ?_
      rintro e w2 ⟨pv, rfl, hpv, hb2⟩
      have hof : recOf b k = { recAt (b.drop k) with place := k } := rfl
      generalize recAt (b.drop k) = r at hof hpv
      obtain ⟨rp, rs, rk, rl⟩ := r
      have HP := Lib.hid hpv
      obtain ⟨A2, c2, rfl, hc2, _⟩ := hpv
      have HB2 := Lib.hid hb2
      have HZ := Lib.hid (Blk.new w2 86 #[.int .i64 0, .int .i64 0, .int .u8 0, .slice none 0 0])
      have hboxc2 : w2.cell? ⟨Bs, 0, none⟩ = _ := hb2.cell (p := ⟨Bs, 0, none⟩) (hboxr.lt) |>.trans hboxc
      clear hb2
      gi_wp2_with (refine storeIn_row rfl 86 _ _ rfl w2.heap.size #[.int .i64 rp, .int .i64 rs, .int .u8 (b8 rk), .slice A2 rl.length c2] rfl rfl 86 _ HZ.out Hz.out rfl (by simp [Value.oneCell']) ?_; refine stop_here ?_)
      have hrow := HZ.out.row #[.int .i64 rp, .int .i64 rs, .int .u8 (b8 rk), .slice A2 rl.length c2]
      have hb3 : Below w2.heap.size w2 _ := below_setRow ((Below.refl _ w2).alloc (Nat.le_refl _) (.cells #[.int .i64 0, .int .i64 0, .int .u8 0, .slice none 0 0] 86)) (Nat.le_refl _) #[.int .i64 rp, .int .i64 rs, .int .u8 (b8 rk), .slice A2 rl.length c2]
      obtain ⟨w3, hw3⟩ : ∃ w3, ((w2.alloc (.cells #[.int .i64 0, .int .i64 0, .int .u8 0, .slice none 0 0] 86)).setRow w2.heap.size #[.int .i64 rp, .int .i64 rs, .int .u8 (b8 rk), .slice A2 rl.length c2]) = w3 := ⟨_, rfl⟩
      rw [hw3] at hrow hb3 ⊢
      clear hw3
      have hr0 := hrow.cellv (j := 0) rfl
      have hf0 := hrow.frozen 0
      have hrow4 := hrow.set 0 (.int .i64 k)
      have hr2 := hrow4.cellv (j := 2) rfl
      have hr1 := hrow.cellv (j := 1) rfl
      have hr2' := hrow.cellv (j := 2) rfl
      have hr3 := hrow.cellv (j := 3) rfl
      simp only [List.getElem_toArray, List.getElem_cons_zero, List.getElem_cons_succ, List.setIfInBounds_toArray, List.set_cons_zero] at hr0 hr1 hr2 hr2' hr3
      have hboxb : Blk (w3.setCell ⟨w2.heap.size, 0, none⟩ (.int .i64 k)) Bs 27 #[.slice (some ⟨ba, o, none⟩) b.length c] := ((hboxr.below HB2.out hboxr.lt).below hb3 (by have := HB2.out.size; have := hboxr.lt; omega)).far (by have := HB2.out.size; have := hboxr.lt; show Bs ≠ w2.heap.size; omega) (p := ⟨w2.heap.size, 0, none⟩) _
      have hboxc3 := hboxb.cellv (j := 0) rfl
      have Hboxb := Lib.hid hboxb; clear hboxb
      have HB3 := Lib.hid (show Below wr.heap.size wr (w3.setCell ⟨w2.heap.size, 0, none⟩ (.int .i64 k)) from (below_next HB2.out hb3).setCell (p := ⟨w2.heap.size, 0, none⟩) HB2.out.size _)
      have HP3 := Lib.hid ((HP.out.below hb3).keep (w' := w3.setCell ⟨w2.heap.size, 0, none⟩ (.int .i64 k)) fun j cs _ hj => hj.far (fun e => by have e' : j = w2.heap.size := e; subst e'; have := hj.symm.trans hrow; simp at this) _)
      have Hrow4 := Lib.hid hrow4
      clear hrow4 hb3
      by_cases hk0 : b8 rk = 0
      · have hkind : (recOf b k).kind = 0 := by rw [hof]; exact b8_inj hk0
        have Hfin := Lib.hid (show RecS b B pre (w3.setCell ⟨w2.heap.size, 0, none⟩ (.int .i64 k)) from ⟨by rw [← hsc, scanAt_blank hkind, List.append_nil], fun x hx => (Hpay.out x hx).below HB3.out⟩)
        have HJ := Lib.hid (hJb _ _ _ hJs HB3.out)
        refine go_on ?_
        gi_wp2_with fail
        refine ⟨fun _ h => (by cases h), ?_⟩
        gi_wp2_with fail
        refine bodyPost_ret (results_none rfl _ _ _) rfl ?_
        exact ⟨⟨_, rfl⟩, pre, Hfin.out, HJ.out⟩
      · have hkind : (recOf b k).kind ≠ 0 := by rw [hof]; exact fun e => hk0 (by rw [show rk = 0 from e]; rfl)
        have hsize := recOf_size b k
        rw [hof] at hsize
        have hs1 := hsize.1 hlt
        have hs2 := hsize.2
        simp only at hs1 hs2
        have hsc2 : (pre ++ [((Value.slice A2 rl.length c2, (⟨k, rs, rk, rl⟩ : Rec)) : Value × Rec)]).map (·.2) ++ scanAt b (k + rs) = recScan b := by
          rw [← hsc, scanAt_more hlt hkind, hof]; simp
        have hB5 : B ≤ wr.heap.size := by have := Hbe.out.size; omega
        have hX : RecX b B pre (.slice A2 rl.length c2, ⟨k, rs, rk, rl⟩) (w3.setCell ⟨w2.heap.size, 0, none⟩ (.int .i64 k)) := by
          refine ⟨HP3.out.mono fun j hj => Nat.le_trans hB5 hj, by omega, ?_, k, hlt, hof.symm, ?_⟩
          · show k + rs ≤ b.length; omega
          · rw [← hsc2]; simp
        obtain ⟨fn, tmps, assign, body, hy, hR⟩ := hY pre _ wr _ hX hJs HB3.out
        simp only [recV] at hy
        refine go_on ?_
        gi_wp2_with fail
        refine ⟨fun h => (by cases h), hR.mono ?_⟩
        rintro e w5 ⟨rfl, hJ5, hk5, hm5⟩
        have hrow5 : Blk w5 w2.heap.size 86 _ := (hm5 w2.heap.size HB2.out.size Hrow4.out.lt).trans Hrow4.out
        have hsz5 := hrow5.cellv (j := 1) rfl
        simp only [List.getElem_toArray, List.getElem_cons_zero, List.getElem_cons_succ, List.setIfInBounds_toArray, List.set_cons_zero] at hsz5
        have Hpay5 := Lib.hid (show ∀ x ∈ pre ++ [((Value.slice A2 rl.length c2, (⟨k, rs, rk, rl⟩ : Rec)) : Value × Rec)], Pay (From B) w5 x.1 x.2.payload from fun x hx => by
          rcases List.mem_append.1 hx with h | h
          · exact ((Hpay.out x h).below HB3.out).keep fun j cs _ hj => hk5.blk _ j cs (.inl rfl) hj
          · obtain rfl : x = _ := by simpa using h
            exact (HP3.out.mono fun j hj => Nat.le_trans hB5 hj).keep fun j cs _ hj => hk5.blk _ j cs (.inl rfl) hj)
        have Hbox5 := Lib.hid (hk5.blk _ _ _ (.inr rfl) Hboxb.out)
        have HB5 := Lib.hid (show Below B W w5 from (Hbe.out.trans (HB3.out.mono hB5)).trans hk5.below)
        have Hsc2 := Lib.hid hsc2
        have HJ5 := Lib.hid hJ5
        clear hsc2 hJ5 hk5 hm5 hR hy hX hJs hsc hrow5 hboxc3 hr0 hr1 hr2 hr2' hr3 hf0 hrow
        gi_wp2_with fail
        go_roundw
        case rel =>
          refine ⟨k + rs, _, ?_, by omega, ?_, Hsc2.out, HJ5.out, HB5.out, Hbox5.out, Hpay5.out⟩
          · go_simp
          · simp; omega
        case measure => simp [intOf]; omega
    · obtain rfl : k = b.length := by omega
      have hboxc := hboxr.cellv (j := 0) rfl
      gi_wp2
      go_end0
      refine ⟨⟨_, rfl⟩, pre, ⟨?_, hpay⟩, hJs⟩
      rw [← hsc, scanAt_end (Nat.le_refl _), List.append_nil]
end Go.Proofs.Ytmejngojpffcgaa
end

section
namespace Go.Proofs.Ytmejngojpffcgaa
open Go.RowKit Go.Ls
attribute [local go_sem] Oper.semAt_some

def recCells (x : Value × Rec) : List Value := [.int .i64 x.2.place, .int .i64 x.2.size, .int .u8 (b8 x.2.kind), x.1]
def RetRecs (b : List UInt8) (w : World) (e : Ending) (w' : World) : Prop :=
  ∃ v xs, e = .returned v ∧ w'.ownsRow w.heap.size 86 4 v xs.length (xs.flatMap recCells) ∧ RecS b w.heap.size xs w' ∧ Below w.heap.size w w'
theorem infoRec : (Try.prog.info? 86).map (fun i => (i.zero, i.size, i.bytes)) = some (some (.agg #[.int .i64 0, .int .i64 0, .int .u8 0, .slice none 0 0]), 4, 48) := by kernel_rfl
theorem own_lt {w : World} {base : Nat} {e : TypeId} {size n : Nat} {v : Value} {xs : List Value} (h : w.ownsRow base e size v n xs) : ∀ g, v.ownBlock = some g → g < w.heap.size ∧ ∃ cs, Blk w g e cs := by
  intro g hg
  rcases h.2 with ⟨rfl, _⟩ | ⟨g', cap, cur, rfl, _, hgb, _⟩
  · cases hg
  · obtain rfl : g' = g := by simpa [Value.ownBlock] using hg
    exact ⟨(Array.getElem?_eq_some_iff.1 hgb).1, cur, hgb⟩

def CollI (w : World) (pre : List (Value × Rec)) (W : World) : Prop :=
  ∃ v, Boxed W w.heap.size 83 v ∧ W.ownsRow w.heap.size 86 4 v pre.length (pre.flatMap recCells) ∧ Below w.heap.size w W
def CollY (w : World) (b : List UInt8) (tm : Value → Value → Array Value) (M : Nat) (pre : List (Value × Rec)) (x : Value × Rec) (a' : Act) (W : World) : Prop :=
  ∃ v, Boxed W w.heap.size 83 v ∧ W.ownsRow w.heap.size 86 4 v pre.length (pre.flatMap recCells) ∧ Below w.heap.size w W ∧
    (∀ g, v.ownBlock = some g → g < M) ∧ w.heap.size < M ∧ RecX b w.heap.size pre x W ∧
    ∃ Bx, Blk W Bx 86 (recCells x).toArray ∧ a' = { tmps := tm (recV x) (.pointer (some ⟨Bx, 0, none⟩)), defers := [] }
theorem blk_put {A : World} {b : Nat} {t : TypeId} {cs : Array Value} {l : Nat} {o o' : Obj} (h : Blk A b t cs) (hl : A.heap[l]? = some o) (ho : o.isCells = false) : Blk (A.putObj l o') b t cs :=
  (World.putObj_heap_other (fun e => by subst e; rw [show A.heap[b]? = _ from h] at hl; cases hl; cases ho)).trans h
theorem CollI.put {w : World} {s : List (Value × Rec)} {A : World} {l : Nat} {o o' : Obj} (h : CollI w s A) (hl : A.heap[l]? = some o) (ho : o.isCells = false) (hB : w.heap.size ≤ l) : CollI w s (A.putObj l o') := by
  obtain ⟨v, hv, hr, hb⟩ := h
  exact ⟨v, blk_put hv hl ho, ownsRow_putObj hr _ hl ho, hb.trans (putObj_below hB)⟩

theorem keeps_of_below {D : Nat} {W W' : World} (h : Below W.heap.size W W') : KeepsFrom D W W' := ⟨h.size, fun k _ _ hk _ => (h.block k (Array.getElem?_eq_some_iff.1 hk).1).trans hk⟩
theorem keep_of_below {t : TypeId → Prop} {B : Nat} {W W' : World} (h : Below W.heap.size W W') (hB : B ≤ W.heap.size) : Keep t B W W' := ⟨h.mono hB, fun _ _ _ _ hb => hb.below h hb.lt⟩
theorem mid_of_below {M : Nat} {W W' : World} (h : Below W.heap.size W W') : Mid M W W' := fun b _ hlt => h.block b hlt

set_option maxRecDepth 100000 in
set_option maxHeartbeats 1000000 in
theorem append_seq {Sb : Nat → Prop} (Bs : Nat) (v : Value) (b : List UInt8) (w : World) (hl : Sl8 Sb w v b) (hSb : ∀ k, Sb k → k < w.heap.size) (hn : b.length ≤ 1000000)
    (hbox : Blk w Bs 27 #[v]) :
    Calls Try.prog 99 #[.slice none 0 0, .func (.func 100) #[] #[.pointer (some ⟨Bs, 0, none⟩)]] w (RetRecs b w) := by
  obtain ⟨i0, hi, hz0, hz1, hz2⟩ := info_parts infoRec
  refine (callsIn_wide (n := 6)).1 ?_
  refine callsIn_of_wp_marks Try.func99 rfl trivial ?_ rfl
  simp only [Try.ntmps99, List.size_toArray, List.length_cons, List.length_nil, Nat.reduceAdd, Nat.reduceSub, Array.replicate_succ, Array.replicate_zero, List.push_toArray, List.append_toArray, List.nil_append, List.cons_append]
  gi_wp2_with fail
  have hw1 : (w.alloc (.cells #[.slice none 0 0] 83)).heap.size = w.heap.size + 1 := by simp
  have hbw : Below w.heap.size w (w.alloc (.cells #[.slice none 0 0] 83)) := (Below.refl _ w).alloc (Nat.le_refl _) _
  have hbx := Boxed.new w 83 (.slice none 0 0)
  refine range_seq rfl (by omega) (gf := 100) (lb := #[.pointer (some ⟨Bs, 0, none⟩)]) rfl trivial (enters_of Try.func100 (by kernel_rfl) rfl)
    (each1 (6 - 1) Bs v b w.heap.size w hl hSb (by omega) (Nat.le_refl _) hbox) (by omega) hbw (fun _ => rfl)
    (CollI w) ?hIb ?hIp
    (CollY w b fun x q => #[.slice none 0 0, .func (.func 100) #[] #[.pointer (some ⟨Bs, 0, none⟩)], .pointer (some ⟨w.heap.size, 0, none⟩), undef, .slice none 0 0, q, .func (.func 100) #[] #[.pointer (some ⟨Bs, 0, none⟩)], x, undef, undef, undef, undef, undef]) ?hYp
    ?hSp ?h0 ?assign ?body ?done
  case hIb =>
    rintro s A A' ⟨v, hv, hr, hb⟩ hbe
    exact ⟨v, Blk.below hv hbe hv.lt, own_below hr hbe, below_then hb hb.size hbe⟩
  case hIp =>
    intro s A l o o' h hB hl ho
    exact h.put hl ho (by omega)
  case hYp =>
    rintro M s x a' A l o o' ⟨v, hv, hr, hb, h1, h2, h3, Bx, h4, h5⟩ hB hl ho
    exact ⟨v, blk_put hv hl ho, ownsRow_putObj hr _ hl ho, hb.trans (putObj_below (by omega)), h1, h2, h3.put hl ho, Bx, blk_put h4 hl ho, h5⟩
  case hSp => intro s A l o o' h _ hl ho; exact h.put hl ho
  case h0 => exact ⟨_, hbx, World.ownsRow_nil _ _ _ _, hbw⟩
  case assign =>
    rintro l pre x A0 W K hx ⟨v0, hv, hr, hb⟩ hbe hK
    obtain ⟨pv, rp, rs, rk, rl⟩ := x
    have hx' := hx.1
    obtain ⟨A2, c2, e2, _, _⟩ := hx'
    simp only at e2
    subst e2
    have Hz := Lib.hid zeroRec
    have HZ := Lib.hid (Blk.new W 86 #[.int .i64 0, .int .i64 0, .int .u8 0, .slice none 0 0])
    have hbe2 : Below W.heap.size W _ := below_setRow ((Below.refl _ W).alloc (Nat.le_refl _) (.cells #[.int .i64 0, .int .i64 0, .int .u8 0, .slice none 0 0] 86)) (Nat.le_refl _) #[.int .i64 rp, .int .i64 rs, .int .u8 (b8 rk), .slice A2 rl.length c2]
    have hwW : w.heap.size ≤ W.heap.size := Nat.le_trans hb.size hbe.size
    have HK := Lib.hid (hK _ _ (keeps_of_below hbe2) (keep_of_below hbe2 hwW) (mid_of_below hbe2) ⟨v0, Blk.below (Blk.below hv hbe hv.lt) hbe2 (by have := Blk.lt hv; have := hbe.size; omega), own_below (own_below hr hbe) hbe2, below_then (below_then hb hb.size hbe) hwW hbe2, fun g hg => (own_lt hr g hg).1, Blk.lt hv,
      ⟨hx.1.below hbe2, hx.2⟩, W.heap.size, HZ.out.row _, rfl⟩)
    clear hK
    gi_wp2_with (refine storeIn_row rfl 86 _ _ rfl W.heap.size #[.int .i64 rp, .int .i64 rs, .int .u8 (b8 rk), .slice A2 rl.length c2] rfl rfl 86 _ HZ.out Hz.out rfl (by simp [Value.oneCell']) ?_)
    exact HK.out
  case body =>
    rintro M l pre x a' W ⟨v0, hv, hr, hb, hM, hM', hx, Bx, hBx, rfl⟩
    obtain ⟨pv, rp, rs, rk, rl⟩ := x
    have hx' := hx.1
    obtain ⟨A2, c2, e2, _, _⟩ := hx'
    simp only at e2
    subst e2
    have Hz := Lib.hid zeroRec
    have hc := hv.cell
    have hwW := hb.size
    have hlen := hx.2.1
    have hBx' : Blk W Bx 86 #[.int .i64 rp, .int .i64 rs, .int .u8 (b8 rk), .slice A2 rl.length c2] := hBx
    gi_wp2_with first
      | (refine loadIn_row rfl 86 _ rfl Bx rfl _ _ _ hBx' Try.underlying86 rfl Hz.out ?_)
      | (gi_at_builtin; refine stop_here ?_)
    have hnew := Blk.new W 86 #[.int .i64 rp, .int .i64 rs, .int .u8 (b8 rk), .slice A2 rl.length c2]
    refine go_on (wpListIn_append_own _ rfl _ _ 83 rfl w.heap.size 86 i0 _ 4 48 Try.underlying83 hi hz0 hz1 hz2 rfl (by decide) v0 pre.length _ rfl (hr.alloc _) ⟨W.heap.size, 0, none⟩ 1 1
      [.int .i64 rp, .int .i64 rs, .int .u8 (b8 rk), .slice A2 rl.length c2] rfl rfl (fun j u hu => by rw [addr_add, Nat.zero_add]; exact hnew.cellv (by simpa using hu)) (by simp [Value.oneCell'])
      (by have : maxLen = 9223372036854775807 := rfl; omega) (by omega) (by simp; omega) ?_)
    intro v' w1 hown' hgrow _
    obtain ⟨g', cap', rfl⟩ := ownsRow_succ hown'
    obtain ⟨hv1, hv2, hr2, hk2, hb2⟩ := hv.appended (by decide) hr hb.size (Nat.le_refl _) hown' hgrow
    have hc1 := hv1.cell
    have hf1 := hv1.frozen
    have HKK := Lib.hid (show Keep byteTypes w.heap.size W (w1.setCell ⟨w.heap.size, 0, none⟩ (.slice (some ⟨g', 0, none⟩) (pre.length + 1) cap')) from ⟨hb2, fun ty j cs hty hj => by
      refine Blk.far ((hgrow.block j (by have := hj.lt; simp; omega) fun e => ?_).trans (hj.alloc _)) (fun e => ?_) _
      · obtain ⟨_, cs', h⟩ := own_lt hr j e.symm
        have h2 := hj.symm.trans h
        rcases hty with rfl | rfl <;> simp at h2
      · have e' : j = w.heap.size := e
        subst e'
        have h2 := hj.symm.trans hv
        rcases hty with rfl | rfl <;> simp at h2⟩)
    have HM := Lib.hid (show Mid M W (w1.setCell ⟨w.heap.size, 0, none⟩ (.slice (some ⟨g', 0, none⟩) (pre.length + 1) cap')) from fun j hj hlt => by
      refine (heap_setCell_other w1 _ j _ (by show j ≠ w.heap.size; omega)).trans ((hgrow.block j (by simp; omega) fun e => ?_).trans (Below.heap_alloc _ _ _ hlt))
      have := hM j e.symm
      omega)
    have HK2 := Lib.hid hk2
    have HI := Lib.hid (show CollI w (pre ++ [((.slice A2 rl.length c2, ⟨rp, rs, rk, rl⟩) : Value × Rec)]) (w1.setCell ⟨w.heap.size, 0, none⟩ (.slice (some ⟨g', 0, none⟩) (pre.length + 1) cap')) from
      ⟨_, hv2, by simpa [recCells] using hr2, hb.trans hb2⟩)
    clear hk2 hr2 hb2 hown' hgrow
    gi_wp2_with fail
    exact ⟨HK2.out.from _, HKK.out, HM.out, HI.out⟩
  case done =>
    rintro D xs W hD hS ⟨v0, hv, hr, hb⟩ hK
    have hc := Boxed.cell hv
    gi_wp2
    refine ⟨by simp, .inl ⟨_, _, rfl, run_takeDeferred hK, ?_⟩⟩
    refine ⟨_, results_tmp rfl _ _ _, v0, xs, rfl, ownsRow_putObj hr _ hK rfl, hS.put hK rfl, hb.trans (putObj_below (by omega))⟩
end Go.Proofs.Ytmejngojpffcgaa
end

section
namespace Go.Proofs.Ytmejngojpffcgaa
open Go.RowKit Go.Ls
attribute [local go_sem] Oper.semAt_some

theorem record_each (A : Option Addr) (n c : Nat) (w : World) :
    Calls Try.prog 79 #[.slice A n c] w fun e w' => e = .returned (.func (.func 100) #[] #[.pointer (some ⟨w.heap.size, 0, none⟩)]) ∧ w' = w.alloc (.cells #[.slice A n c] 27) := by
  go_enter Try.func79, Try.ntmps79
  go_wp2_with fail
  go_ret
  exact ⟨rfl, rfl⟩
theorem collect_recs {Sb : Nat → Prop} (Bs : Nat) (v : Value) (b : List UInt8) (w : World) (hl : Sl8 Sb w v b) (hSb : ∀ k, Sb k → k < w.heap.size) (hn : b.length ≤ 1000000)
    (hbox : Blk w Bs 27 #[v]) :
    Calls Try.prog 78 #[.func (.func 100) #[] #[.pointer (some ⟨Bs, 0, none⟩)]] w (RetRecs b w) := by
  have H := append_seq Bs v b w hl hSb hn hbox
  go_enter Try.func78, Try.ntmps78
  go_wp2_with fail
  refine H.mono ?_
  rintro e w' ⟨v', xs, rfl, h⟩
  go_wp2_with fail
  go_ret
  exact ⟨_, xs, rfl, h⟩
theorem record_scan {Sb : Nat → Prop} (v : Value) (b : List UInt8) (w : World) (hl : Sl8 Sb w v b) (hn : b.length ≤ 1000000) :
    Calls Try.prog 41 #[v] w (RetRecs b w) := by
  have Hl := Lib.hid (Sl.bound hl)
  obtain ⟨A, c, rfl, hc, hr⟩ := hl
  have HB := Lib.hid ((Below.refl w.heap.size w).alloc (Nat.le_refl _) (.cells #[.slice A b.length c] 27))
  go_enter Try.func41, Try.ntmps41
  go_wp2_with fail
  refine (record_each A b.length c w).mono ?_
  rintro e w' ⟨rfl, rfl⟩
  go_wp2_with fail
  refine (collect_recs (Sb := fun k => Sb k ∧ k < w.heap.size) w.heap.size _ b _ (Sl.below Hl.out HB.out) (fun k h => by simp; omega) hn (Blk.new _ _ _)).mono ?_
  rintro e w' ⟨v', xs, rfl, h1, h2, h3⟩
  go_wp2_with fail
  go_ret
  refine ⟨_, xs, rfl, own_lower h1 (by simp), ⟨h2.1, fun x hx => (h2.2 x hx).mono fun j hj => ?_⟩, below_then HB.out (by simp) h3⟩
  unfold From at *
  simp at hj
  omega
end Go.Proofs.Ytmejngojpffcgaa
end

section
namespace Go.Proofs.Ytmejngojpffcgaa
open Go.RowKit Go.Ls
attribute [local go_sem] Oper.semAt_some

def endOf (xs : List (Value × Rec)) : Nat := match (xs.map (·.2)).getLast? with
  | none => 0
  | some r => r.place + r.size
theorem endOf_snoc (pre : List (Value × Rec)) (x : Value × Rec) : endOf (pre ++ [x]) = x.2.place + x.2.size := by simp [endOf]
def EndI (w : World) (pre : List (Value × Rec)) (W : World) : Prop := Blk W w.heap.size 3 #[.int .i64 (endOf pre)] ∧ Below w.heap.size w W
def EndY (w : World) (b : List UInt8) (tm : Value → Value → Array Value) (M : Nat) (pre : List (Value × Rec)) (x : Value × Rec) (a' : Act) (W : World) : Prop :=
  EndI w pre W ∧ w.heap.size < M ∧ RecX b w.heap.size pre x W ∧ ∃ Bx, Blk W Bx 86 (recCells x).toArray ∧ a' = { tmps := tm (recV x) (.pointer (some ⟨Bx, 0, none⟩)), defers := [] }
theorem EndI.put {w : World} {s : List (Value × Rec)} {A : World} {l : Nat} {o o' : Obj} (h : EndI w s A) (hl : A.heap[l]? = some o) (ho : o.isCells = false) (hB : w.heap.size ≤ l) : EndI w s (A.putObj l o') :=
  ⟨blk_put h.1 hl ho, h.2.trans (putObj_below hB)⟩
theorem EndI.below {w : World} {s : List (Value × Rec)} {A A' : World} (h : EndI w s A) (hb : Below A.heap.size A A') : EndI w s A' := ⟨h.1.below hb h.1.lt, below_then h.2 h.2.size hb⟩

set_option maxRecDepth 100000 in
set_option maxHeartbeats 1000000 in
theorem record_end {Sb : Nat → Prop} (v : Value) (b : List UInt8) (w : World) (hl : Sl8 Sb w v b) (hn : b.length ≤ 1000000) :
    Calls Try.prog 44 #[v] w fun e w' => e = .returned (.int .i64 (recEnd b)) ∧ Below w.heap.size w w' := by
  have hl0 := Sl.bound hl
  obtain ⟨A, c, rfl, hc, hr⟩ := hl
  refine (callsIn_wide (n := 6)).1 ?_
  refine callsIn_of_wp_marks Try.func44 rfl trivial ?_ rfl
  simp only [Try.ntmps44, List.size_toArray, List.length_cons, List.length_nil, Nat.reduceAdd, Nat.reduceSub, Array.replicate_succ, Array.replicate_zero, List.push_toArray, List.append_toArray, List.nil_append, List.cons_append]
  gi_wp2_with fail
  refine ⟨trivial, (callsIn_wide.2 (record_each A b.length c _)).mono ?_⟩
  rintro e w' ⟨rfl, rfl⟩
  gi_wp2_with fail
  have hb1 : Below w.heap.size w (w.alloc (.cells #[.int .i64 0] 3)) := (Below.refl _ w).alloc (Nat.le_refl _) _
  have hb2 : Below w.heap.size w ((w.alloc (.cells #[.int .i64 0] 3)).alloc (.cells #[.slice A b.length c] 27)) := hb1.alloc (by simp) _
  have hbx := Blk.new (w.alloc (.cells #[.int .i64 0] 3)) 27 #[.slice A b.length c]
  have hwe := (Blk.new w 3 #[.int .i64 0]).alloc (.cells #[.slice A b.length c] 27)
  rw [World.size_alloc] at hbx
  have hsz : ((w.alloc (.cells #[.int .i64 0] 3)).alloc (.cells #[.slice A b.length c] 27)).heap.size = w.heap.size + 2 := by simp
  obtain ⟨w1, hw1⟩ : ∃ w1, ((w.alloc (.cells #[.int .i64 0] 3)).alloc (.cells #[.slice A b.length c] 27)) = w1 := ⟨_, rfl⟩
  rw [hw1] at hb2 hbx hsz hwe ⊢
  clear hw1
  refine range_seq rfl (by omega) (gf := 100) (lb := #[.pointer (some ⟨w.heap.size + 1, 0, none⟩)]) rfl trivial (enters_of Try.func100 (by kernel_rfl) rfl)
    (each1 (Sb := fun j => Sb j ∧ j < w.heap.size) (6 - 1) (w.heap.size + 1) _ b w.heap.size w1 (Sl.below hl0 hb2) (fun k h => h.2) (by omega) hb2.size hbx) (by omega) (Below.refl _ _) (fun _ => rfl)
    (EndI w) ?hIb ?hIp
    (EndY w b fun x q => #[.slice A b.length c, undef, .int .i64 0, .pointer (some ⟨w.heap.size, 0, none⟩), q, .slice A b.length c, .func (.func 100) #[] #[.pointer (some ⟨w.heap.size + 1, 0, none⟩)], x, undef, undef, undef, undef, undef, undef]) ?hYp
    ?hSp ?h0 ?assign ?body ?done
  case hIb => intro s A A' h hbe; exact h.below hbe
  case hIp =>
    intro s A l o o' h hB hl ho
    exact h.put hl ho (by omega)
  case hYp =>
    rintro M s x a' A l o o' ⟨h0, h1, h2, Bx, h4, h5⟩ hB hl ho
    exact ⟨h0.put hl ho (by omega), h1, h2.put hl ho, Bx, blk_put h4 hl ho, h5⟩
  case hSp => intro s A l o o' h _ hl ho; exact h.put hl ho
  case h0 => exact ⟨hwe, hb2⟩
  case assign =>
    rintro l pre x A0 W K hx hi hbe hK
    obtain ⟨pv, rp, rs, rk, rl⟩ := x
    have hx' := hx.1
    obtain ⟨A2, c2, e2, _, _⟩ := hx'
    simp only at e2
    subst e2
    have Hz := Lib.hid zeroRec
    have HZ := Lib.hid (Blk.new W 86 #[.int .i64 0, .int .i64 0, .int .u8 0, .slice none 0 0])
    have hbe2 : Below W.heap.size W _ := below_setRow ((Below.refl _ W).alloc (Nat.le_refl _) (.cells #[.int .i64 0, .int .i64 0, .int .u8 0, .slice none 0 0] 86)) (Nat.le_refl _) #[.int .i64 rp, .int .i64 rs, .int .u8 (b8 rk), .slice A2 rl.length c2]
    have hwW : w.heap.size ≤ W.heap.size := Nat.le_trans hi.2.size hbe.size
    have HK := Lib.hid (hK _ _ (keeps_of_below hbe2) (keep_of_below hbe2 hwW) (mid_of_below hbe2) ⟨(hi.below hbe).below hbe2, hi.1.lt,
      ⟨hx.1.below hbe2, hx.2⟩, W.heap.size, HZ.out.row _, rfl⟩)
    clear hK
    gi_wp2_with (refine storeIn_row rfl 86 _ _ rfl W.heap.size #[.int .i64 rp, .int .i64 rs, .int .u8 (b8 rk), .slice A2 rl.length c2] rfl rfl 86 _ HZ.out Hz.out rfl (by simp [Value.oneCell']) ?_)
    exact HK.out
  case body =>
    rintro M l pre x a' W ⟨⟨h0, hb⟩, hM, hx, Bx, hBx, rfl⟩
    obtain ⟨pv, rp, rs, rk, rl⟩ := x
    have hc0 := h0.cellv (j := 0) rfl
    have hf0 := h0.frozen 0
    have hBx' : Blk W Bx 86 #[.int .i64 rp, .int .i64 rs, .int .u8 (b8 rk), pv] := hBx
    have hr0 := hBx'.cellv (j := 0) rfl
    have hr1 := hBx'.cellv (j := 1) rfl
    simp only [List.getElem_toArray, List.getElem_cons_zero, List.getElem_cons_succ] at hr0 hr1 hc0
    have hle : rp + rs ≤ b.length := hx.2.2.1
    have hset : ∀ u, Below w.heap.size W (W.setCell ⟨w.heap.size, 0, none⟩ u) := fun u => (Below.refl _ W).setCell (p := ⟨w.heap.size, 0, none⟩) (Nat.le_refl _) u
    have HF := Lib.hid (show KeepsFrom w1.heap.size W (W.setCell ⟨w.heap.size, 0, none⟩ (.int .i64 ((rp : Int) + rs))) ∧ Keep byteTypes w.heap.size W (W.setCell ⟨w.heap.size, 0, none⟩ (.int .i64 ((rp : Int) + rs))) ∧ Mid M W (W.setCell ⟨w.heap.size, 0, none⟩ (.int .i64 ((rp : Int) + rs))) ∧ EndI w (pre ++ [((pv, ⟨rp, rs, rk, rl⟩) : Value × Rec)]) (W.setCell ⟨w.heap.size, 0, none⟩ (.int .i64 ((rp : Int) + rs))) from by
      refine ⟨(KeepsOthers.setCell W _ _).from _, ⟨hset _, fun ty j cs hty hj => hj.far (fun e => ?_) _⟩, fun j hj _ => heap_setCell_other W _ j _ (by show j ≠ w.heap.size; omega), ?_, hb.trans (hset _)⟩
      · have e' : j = w.heap.size := e
        subst e'
        have h2 := hj.symm.trans h0
        rcases hty with rfl | rfl <;> simp at h2
      · have := h0.set 0 (.int .i64 ((rp : Int) + rs))
        rw [endOf_snoc]
        simpa using this)
    gi_wp2_with fail
    exact HF.out
  case done =>
    rintro D xs W hD hS ⟨h0, hb⟩ hK
    have hc0 := h0.cellv (j := 0) rfl
    simp only [List.getElem_toArray, List.getElem_cons_zero] at hc0
    have he : endOf xs = recEnd b := by unfold endOf recEnd; rw [hS.1]; first | done | (cases (recScan b).getLast? <;> rfl)
    rw [he] at hc0
    clear h0
    gi_wp2
    refine ⟨by simp, .inl ⟨_, _, rfl, run_takeDeferred hK, ?_⟩⟩
    exact ⟨_, results_tmp rfl _ _ _, rfl, hb.trans (putObj_below (by omega))⟩
end Go.Proofs.Ytmejngojpffcgaa
end

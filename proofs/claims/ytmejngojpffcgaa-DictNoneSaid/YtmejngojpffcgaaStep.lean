import Derived.Test.YtmejngojpffcgaaPdec
import Derived.Test.YtmejngojpffcgaaMarks
import Derived.Test.YtmejngojpffcgaaColl
/- One more cell behind a word's code. -/
namespace Go.Proofs.Ytmejngojpffcgaa
open Go.RowKit Go.Ls
def CodeI (w1 : World) (Bw : Nat) (sv fv : Value) (pre : List (Value × List UInt8)) (W : World) : Prop :=
  ∃ cV, Blk W Bw 25 #[sv, fv, cV] ∧ W.ownsRow Bw 51 1 cV pre.length (u32s (pre.map fun x => cellL x.2)) ∧ Below Bw w1 W
theorem CodeI.below {w1 : World} {Bw : Nat} {sv fv : Value} {pre : List (Value × List UInt8)} {W W' : World} (h : CodeI w1 Bw sv fv pre W) (hb : Below W.heap.size W W') : CodeI w1 Bw sv fv pre W' := by
  obtain ⟨cV, h1, h2, h3⟩ := h
  exact ⟨cV, h1.below hb h1.lt, own_below h2 hb, h3.trans (hb.mono (Nat.le_of_lt h1.lt))⟩
theorem CodeI.put {w1 : World} {Bw : Nat} {sv fv : Value} {pre : List (Value × List UInt8)} {A : World} {l : Nat} {o o' : Obj} (h : CodeI w1 Bw sv fv pre A) (hB : Bw ≤ l) (hl : A.heap[l]? = some o) (ho : o.isCells = false) : CodeI w1 Bw sv fv pre (A.putObj l o') := by
  obtain ⟨cV, h1, h2, h3⟩ := h
  exact ⟨cV, blk_put h1 hl ho, ownsRow_putObj h2 _ hl ho, h3.trans (putObj_below hB)⟩
def CodeY (B : Nat) (w1 : World) (Bw : Nat) (sv fv : Value) (cb : List UInt8) (tm : Value × List UInt8 → Array Value) (M : Nat) (pre : List (Value × List UInt8)) (x : Value × List UInt8) (a' : Act) (W : World) : Prop :=
  ∃ cV, Blk W Bw 25 #[sv, fv, cV] ∧ W.ownsRow Bw 51 1 cV pre.length (u32s (pre.map fun x => cellL x.2)) ∧ Below Bw w1 W ∧ (∀ g, cV.ownBlock = some g → g < M) ∧ Bw < M ∧ ChX (fun b => b < B) cb pre x W ∧ a' = { tmps := tm x, defers := [] }
theorem chX_put {Sb : Nat → Prop} {cb : List UInt8} {pre : List (Value × List UInt8)} {x : Value × List UInt8} {A : World} {l : Nat} {o' : Obj} (h : ChX Sb cb pre x A) (hS : ∀ b, Sb b → b < l) : ChX Sb cb pre x (A.putObj l o') :=
  ⟨Sl.keep h.1 fun b _ hb => World.putObj_heap_other (Nat.ne_of_lt (hS b hb)), h.2⟩
theorem elem32 : ElemOK Try.prog 23 51 (.int .u32 0) 1 4 := ⟨Try.underlying23, by kernel_rfl, rfl, by omega⟩
theorem code_step {B D M Bw : Nat} {w1 W : World} {sv fv cV : Value} {pre : List (Value × List UInt8)} {x : Value × List UInt8} (nq : Nat) (hB : B ≤ Bw) (h1 : Blk W Bw 25 #[sv, fv, cV]) (h2 : W.ownsRow Bw 51 1 cV pre.length (u32s (pre.map fun x => cellL x.2)))
    (h3 : Below Bw w1 W) (h4 : ∀ g, cV.ownBlock = some g → g < M) (h5 : Bw < M) (hp : pre.length ≤ 1000000000) (z : UInt32) (hz : z = cellL x.2) :
    ∃ A5 c5 w5, (Builtin.append_ #[23, 23] 23 #[cV, .slice (some ⟨W.heap.size, 0, none⟩) 1 1]).run Try.prog ((W.drew.drewN nq).alloc (.cells #[.int .u32 (w32 z)] 51)) = .ok (.slice A5 (pre.length + 1) c5) w5 ∧
      w5.cell? ⟨Bw, 2, none⟩ = some cV ∧ w5.frozen? ⟨Bw, 2, none⟩ = false ∧ KeepsFrom D W (w5.setCell ⟨Bw, 2, none⟩ (.slice A5 (pre.length + 1) c5)) ∧ Keep boxTypes B W (w5.setCell ⟨Bw, 2, none⟩ (.slice A5 (pre.length + 1) c5)) ∧ Mid M W (w5.setCell ⟨Bw, 2, none⟩ (.slice A5 (pre.length + 1) c5)) ∧
      CodeI w1 Bw sv fv (pre ++ [x]) (w5.setCell ⟨Bw, 2, none⟩ (.slice A5 (pre.length + 1) c5)) := by
  have hbV : Below W.heap.size W ((W.drew.drewN nq).alloc (.cells #[.int .u32 (w32 z)] 51)) :=
    (below_drewN (⟨rfl, rfl, rfl, Nat.le_refl _, fun _ _ => rfl⟩ : Below W.heap.size W W.drew) nq).alloc (Nat.le_refl _) _
  have hVs : ((W.drew.drewN nq).alloc (.cells #[.int .u32 (w32 z)] 51)).heap.size = W.heap.size + 1 := by rw [World.size_alloc]; rfl
  have hnew : Blk ((W.drew.drewN nq).alloc (.cells #[.int .u32 (w32 z)] 51)) W.heap.size 51 #[.int .u32 (w32 z)] := Blk.new (W.drew.drewN nq) _ _
  have hlt := h1.lt
  generalize ((W.drew.drewN nq).alloc (.cells #[.int .u32 (w32 z)] 51)) = V at *
  have hown := own_below h2 hbV
  have hne : ∀ (W' : World) g cs, cV.ownBlock = some g → Blk W g 51 cs → g ≠ Bw := fun _ g cs _ hg e => by
    subst e
    have := hg.symm.trans h1
    simp at this
  obtain ⟨v', w5, hrun, ho5, hg5, hor⟩ := run_app elem32 V Bw 23 cV pre.length _ hown (some ⟨W.heap.size, 0, none⟩) 1 1 (u32s [z]) (Row.blk (S := fun _ => True) hnew trivial (n := 1) rfl) rfl (one32 _) (by omega) (by omega) (by omega)
  obtain ⟨A5, c5, rfl, _⟩ := own_form ho5
  have hBV := h1.below hbV hlt
  have hB5 : Blk w5 Bw 25 #[sv, fv, cV] := (hg5.block Bw hBV.lt (fun e => by
    obtain ⟨_, cs, hcs⟩ := own_lt hown Bw e.symm
    have := hcs.symm.trans hBV
    simp at this)).trans hBV
  have hrow : ∀ g, cV.ownBlock = some g → Bw ≤ g := fun g hg => (hown.lt g hg).1
  have hbe5 : Below Bw W w5 := below_grown (hbV.mono (Nat.le_of_lt hlt)) hg5 (by omega) hrow
  have hbe6 : Below Bw W (w5.setCell ⟨Bw, 2, none⟩ (.slice A5 (pre.length + 1) c5)) := hbe5.setCell (p := ⟨Bw, 2, none⟩) (Nat.le_refl _) _
  have hblk : ∀ b o, W.heap[b]? = some o → (∀ cs f, o ≠ .cells cs 51 f) → b ≠ Bw → (w5.setCell ⟨Bw, 2, none⟩ (.slice A5 (pre.length + 1) c5)).heap[b]? = some o := fun b o hb ho hne => by
    have hbl := (Array.getElem?_eq_some_iff.1 hb).1
    have hb1 := (hbV.block b hbl).trans hb
    rw [heap_setCell_other w5 ⟨Bw, 2, none⟩ b _ hne]
    refine (hg5.block b (by omega) fun e => ?_).trans hb1
    obtain ⟨_, cs, hcs⟩ := own_lt hown b e.symm
    have := hcs.symm.trans hb1
    cases this
    exact ho _ _ rfl
  refine ⟨A5, c5, w5, hrun, hB5.cellv (j := 2) rfl, hB5.frozen 2, ⟨hbe6.size, fun k o _ hk ho => hblk k o hk (fun cs f e => by rw [e] at ho; cases ho) (fun e => by subst e; rw [show W.heap[k]? = _ from h1] at hk; cases hk; cases ho)⟩, ⟨hbe6.mono hB, fun ty b cs ht hb => hblk b _ hb (fun cs' f e => ?_) (fun e => ?_)⟩, fun b hb hbl => ?_, ?_⟩
  · cases e
    rcases ht with h | h <;> simp at h
  · subst e
    have := hb.symm.trans h1
    rcases ht with rfl | rfl <;> simp at this
  · rw [heap_setCell_other w5 ⟨Bw, 2, none⟩ b _ (by show b ≠ Bw; omega)]
    refine (hg5.block b (by omega) fun e => ?_).trans (hbV.block b hbl)
    have := h4 b e.symm
    omega
  · refine ⟨.slice A5 (pre.length + 1) c5, by simpa using hB5.set 2 (.slice A5 (pre.length + 1) c5), ?_, h3.trans hbe6⟩
    have hk : Keep (fun t => t = 51) 0 w5 (w5.setCell ⟨Bw, 2, none⟩ (.slice A5 (pre.length + 1) c5)) := ⟨(Below.refl 0 w5).setCell (p := ⟨Bw, 2, none⟩) (Nat.zero_le _) _, fun ty b cs ht hb => hb.far (fun e => by
      have e' : b = Bw := e
      subst e' ht
      have := hb.symm.trans hB5
      simp at this) _⟩
    have := own_keep (t := fun t => t = 51) rfl ho5 hk
    rw [← u32s_append] at this
    rw [List.length_append, List.map_append]
    simpa [hz] using this
end Go.Proofs.Ytmejngojpffcgaa

import Derived.Test.YtmejngojpffcgaaRnd
import Derived.Test.YtmejngojpffcgaaApp
/- A function that goes over iterators more than once: the marks among its deferred calls, when it returns. -/
namespace Go.Ls
open Go.RowKit
def markOf (D : Nat) : Deferred := { target := .collected D, args := #[] }
def Marked (B : Nat) (ds : List Deferred) (W : World) : Prop := ∃ Ds : List Nat, ds = Ds.map markOf ∧ Ds.Nodup ∧ ∀ D ∈ Ds, B ≤ D ∧ W.heap[D]? = some (.deferred (some []))
theorem Marked.nil (B : Nat) (W : World) : Marked B [] W := ⟨[], rfl, List.nodup_nil, fun _ h => by cases h⟩
/-- What shutting the marks leaves. -/
abbrev Shut (B : Nat) (W W' : World) : Prop := Keep (fun _ => True) B W W'
theorem leaves_marks {F : Fence} {n : Nat} {P : Program} {fn : Func} {tmps : Array Value} {R : Ending → World → Prop} {v : Value} {B : Nat} (hres : ∀ W, (results fn tmps).run P W = .ok v W) : ∀ (Ds : List Nat) (W : World), Ds.Nodup → (∀ D ∈ Ds, B ≤ D ∧ W.heap[D]? = some (.deferred (some []))) →
    (∀ W', Shut B W W' → R (.returned v) W') → LeavesInM F n P fn tmps R (Ds.map markOf) .returning W
  | [], W, _, _, hR => ⟨v, hres W, hR W (Keep.refl _ _ _)⟩
  | D :: Ds, W, hn, hm, hR => by
    obtain ⟨hb, hD⟩ := hm D (by simp)
    refine ⟨by simp, .inl ⟨D, W.putObj D (.deferred none), rfl, run_takeDeferred hD, ?_⟩⟩
    have hk : Shut B W (W.putObj D (.deferred none)) := putObj_keep hb hD rfl
    refine leaves_marks hres Ds _ (List.nodup_cons.1 hn).2 (fun E hE => ?_) (fun W' hW' => hR W' (hk.trans hW'))
    obtain ⟨h1, h2⟩ := hm E (by simp [hE])
    refine ⟨h1, ?_⟩
    rw [World.putObj_heap_other (fun e => by subst e; exact (List.nodup_cons.1 hn).1 hE)]
    exact h2
theorem leaves_marked {F : Fence} {n : Nat} {P : Program} {fn : Func} {tmps : Array Value} {R : Ending → World → Prop} {v : Value} {B : Nat} {W : World} {ds : List Deferred} (hres : ∀ W, (results fn tmps).run P W = .ok v W) (hm : Marked B ds W)
    (hR : ∀ W', Shut B W W' → R (.returned v) W') : LeavesInM F n P fn tmps R ds .returning W := by
  obtain ⟨Ds, rfl, hn, h⟩ := hm
  exact leaves_marks hres Ds W hn h hR
theorem Marked.keep {B : Nat} {ds : List Deferred} {W W' : World} (h : Marked B ds W) (hk : ∀ D, B ≤ D → W.heap[D]? = some (.deferred (some [])) → W'.heap[D]? = some (.deferred (some []))) : Marked B ds W' := by
  obtain ⟨Ds, e, hn, hd⟩ := h
  exact ⟨Ds, e, hn, fun D hD => ⟨(hd D hD).1, hk D (hd D hD).1 (hd D hD).2⟩⟩
theorem Marked.below {B : Nat} {ds : List Deferred} {W W' : World} (h : Marked B ds W) (hb : Below W.heap.size W W') : Marked B ds W' :=
  h.keep fun D _ hD => (hb.block D (Array.getElem?_eq_some_iff.1 hD).1).trans hD
theorem Marked.cons {B D : Nat} {ds : List Deferred} {w W : World} (h : Marked B ds w) (hb : Below w.heap.size w W) (hD : w.heap.size ≤ D) (hB : B ≤ D) (hk : W.heap[D]? = some (.deferred (some []))) : Marked B (markOf D :: ds) W := by
  obtain ⟨Ds, e, hn, hd⟩ := h
  refine ⟨D :: Ds, by rw [e]; rfl, List.nodup_cons.2 ⟨fun hm => ?_, hn⟩, fun E hE => ?_⟩
  · have := (Array.getElem?_eq_some_iff.1 (hd D hm).2).1
    omega
  · rcases List.mem_cons.1 hE with rfl | hE
    · exact ⟨hB, hk⟩
    · obtain ⟨h1, h2⟩ := hd E hE
      exact ⟨h1, (hb.block E (Array.getElem?_eq_some_iff.1 h2).1).trans h2⟩
theorem own_keep {t : TypeId → Prop} {B : Nat} {W W' : World} {base : Nat} {e : TypeId} {size n : Nat} {v : Value} {xs : List Value} (ht : t e) (h : W.ownsRow base e size v n xs) (hk : Keep t B W W') : W'.ownsRow base e size v n xs := by
  refine ⟨h.1, ?_⟩
  rcases h.2 with h2 | ⟨g, cap, cur, h2, h3, h4, h5⟩
  · exact .inl h2
  · exact .inr ⟨g, cap, cur, h2, h3, hk.blk _ _ _ ht h4, h5⟩
end Go.Ls

import Derived.RangeFuncBox
import Derived.Maps.AppendAt
import Derived.Test.YtmejngojpffcgaaEach
namespace Go.Proofs.Ytmejngojpffcgaa
open Go.RowKit Go.Ls
attribute [local go_sem] Oper.semAt_some

def recCells (x : Value × Rec) : List Value := [.int .i64 x.2.place, .int .i64 x.2.size, .int .u8 (b8 x.2.kind), x.1]
def RetRecs (b : List UInt8) (w : World) (e : Ending) (w' : World) : Prop :=
  ∃ v xs, e = .returned v ∧ w'.ownsRow w.heap.size 86 4 v xs.length (xs.flatMap recCells) ∧ RecS b w.heap.size xs w' ∧ Below w.heap.size w w'
theorem infoRec : (Try.prog.info? 86).map (fun i => (i.zero, i.size, i.bytes)) = some (some (.agg #[.int .i64 0, .int .i64 0, .int .u8 0, .slice none 0 0]), 4, 48) := by kernel_rfl
theorem own_lt {w : World} {base : Nat} {e : TypeId} {size n : Nat} {v : Value} {xs : List Value} (h : w.ownsRow base e size v n xs) : ∀ g, v.ownBlock = some g → g < w.heap.size ∧ ∃ cs, Blk w g e cs := by
  intro g hg
  rcases h.2 with ⟨rfl, _⟩ | ⟨g', cap, cur, rfl, _, hgb, _⟩
  · cases hg
  · obtain rfl : g' = g := by simpa [Value.ownBlock] using hg
    exact ⟨(Array.getElem?_eq_some_iff.1 hgb).1, cur, hgb⟩

def CollI (w : World) (pre : List (Value × Rec)) (W : World) : Prop :=
  ∃ v, Boxed W w.heap.size 83 v ∧ W.ownsRow w.heap.size 86 4 v pre.length (pre.flatMap recCells) ∧ Below w.heap.size w W
def CollY (w : World) (b : List UInt8) (tm : Value → Value → Array Value) (M : Nat) (pre : List (Value × Rec)) (x : Value × Rec) (a' : Act) (W : World) : Prop :=
  ∃ v, Boxed W w.heap.size 83 v ∧ W.ownsRow w.heap.size 86 4 v pre.length (pre.flatMap recCells) ∧ Below w.heap.size w W ∧
    (∀ g, v.ownBlock = some g → g < M) ∧ w.heap.size < M ∧ RecX b w.heap.size pre x W ∧
    ∃ Bx, Blk W Bx 86 (recCells x).toArray ∧ a' = { tmps := tm (recV x) (.pointer (some ⟨Bx, 0, none⟩)), defers := [] }
theorem blk_put {A : World} {b : Nat} {t : TypeId} {cs : Array Value} {l : Nat} {o o' : Obj} (h : Blk A b t cs) (hl : A.heap[l]? = some o) (ho : o.isCells = false) : Blk (A.putObj l o') b t cs :=
  (World.putObj_heap_other (fun e => by subst e; rw [show A.heap[b]? = _ from h] at hl; cases hl; cases ho)).trans h
theorem CollI.put {w : World} {s : List (Value × Rec)} {A : World} {l : Nat} {o o' : Obj} (h : CollI w s A) (hl : A.heap[l]? = some o) (ho : o.isCells = false) (hB : w.heap.size ≤ l) : CollI w s (A.putObj l o') := by
  obtain ⟨v, hv, hr, hb⟩ := h
  exact ⟨v, blk_put hv hl ho, ownsRow_putObj hr _ hl ho, hb.trans (putObj_below hB)⟩

theorem keeps_of_below {D : Nat} {W W' : World} (h : Below W.heap.size W W') : KeepsFrom D W W' := ⟨h.size, fun k _ _ hk _ => (h.block k (Array.getElem?_eq_some_iff.1 hk).1).trans hk⟩
theorem keep_of_below {t : TypeId → Prop} {B : Nat} {W W' : World} (h : Below W.heap.size W W') (hB : B ≤ W.heap.size) : Keep t B W W' := ⟨h.mono hB, fun _ _ _ _ hb => hb.below h hb.lt⟩
theorem mid_of_below {M : Nat} {W W' : World} (h : Below W.heap.size W W') : Mid M W W' := fun b _ hlt => h.block b hlt

set_option maxRecDepth 100000 in
set_option maxHeartbeats 1000000 in
theorem append_seq {Sb : Nat → Prop} (Bs : Nat) (v : Value) (b : List UInt8) (w : World) (hl : Sl8 Sb w v b) (hSb : ∀ k, Sb k → k < w.heap.size) (hn : b.length ≤ 1000000)
    (hbox : Blk w Bs 27 #[v]) :
    Calls Try.prog 99 #[.slice none 0 0, .func (.func 100) #[] #[.pointer (some ⟨Bs, 0, none⟩)]] w (RetRecs b w) := by
  obtain ⟨i0, hi, hz0, hz1, hz2⟩ := info_parts infoRec
  refine (callsIn_wide (n := 6)).1 ?_
  refine callsIn_of_wp_marks Try.func99 rfl trivial ?_ rfl
  simp only [Try.ntmps99, List.size_toArray, List.length_cons, List.length_nil, Nat.reduceAdd, Nat.reduceSub, Array.replicate_succ, Array.replicate_zero, List.push_toArray, List.append_toArray, List.nil_append, List.cons_append]
  gi_wp2_with fail
  have hw1 : (w.alloc (.cells #[.slice none 0 0] 83)).heap.size = w.heap.size + 1 := by simp
  have hbw : Below w.heap.size w (w.alloc (.cells #[.slice none 0 0] 83)) := (Below.refl _ w).alloc (Nat.le_refl _) _
  have hbx := Boxed.new w 83 (.slice none 0 0)
  refine range_seq rfl (by omega) (gf := 100) (lb := #[.pointer (some ⟨Bs, 0, none⟩)]) rfl trivial (enters_of Try.func100 (by kernel_rfl) rfl)
    (each1 (6 - 1) Bs v b w.heap.size w hl hSb (by omega) (Nat.le_refl _) hbox) (by omega) hbw (fun _ => rfl)
    (CollI w) ?hIb ?hIp
    (CollY w b fun x q => #[.slice none 0 0, .func (.func 100) #[] #[.pointer (some ⟨Bs, 0, none⟩)], .pointer (some ⟨w.heap.size, 0, none⟩), undef, .slice none 0 0, q, .func (.func 100) #[] #[.pointer (some ⟨Bs, 0, none⟩)], x, undef, undef, undef, undef, undef]) ?hYp
    ?hSp ?h0 ?assign ?body ?done
  case hIb =>
    rintro s A A' ⟨v, hv, hr, hb⟩ hbe
    exact ⟨v, Blk.below hv hbe hv.lt, own_below hr hbe, below_then hb hb.size hbe⟩
  case hIp =>
    intro s A l o o' h hB hl ho
    exact h.put hl ho (by omega)
  case hYp =>
    rintro M s x a' A l o o' ⟨v, hv, hr, hb, h1, h2, h3, Bx, h4, h5⟩ hB hl ho
    exact ⟨v, blk_put hv hl ho, ownsRow_putObj hr _ hl ho, hb.trans (putObj_below (by omega)), h1, h2, h3.put hl ho, Bx, blk_put h4 hl ho, h5⟩
  case hSp => intro s A l o o' h _ hl ho; exact h.put hl ho
  case h0 => exact ⟨_, hbx, World.ownsRow_nil _ _ _ _, hbw⟩
  case assign =>
    rintro l pre x A0 W K hx ⟨v0, hv, hr, hb⟩ hbe hK
    obtain ⟨pv, rp, rs, rk, rl⟩ := x
    have hx' := hx.1
    obtain ⟨A2, c2, e2, _, _⟩ := hx'
    simp only at e2
    subst e2
    have Hz := Lib.hid zeroRec
    have HZ := Lib.hid (Blk.new W 86 #[.int .i64 0, .int .i64 0, .int .u8 0, .slice none 0 0])
    have hbe2 : Below W.heap.size W _ := below_setRow ((Below.refl _ W).alloc (Nat.le_refl _) (.cells #[.int .i64 0, .int .i64 0, .int .u8 0, .slice none 0 0] 86)) (Nat.le_refl _) #[.int .i64 rp, .int .i64 rs, .int .u8 (b8 rk), .slice A2 rl.length c2]
    have hwW : w.heap.size ≤ W.heap.size := Nat.le_trans hb.size hbe.size
    have HK := Lib.hid (hK _ _ (keeps_of_below hbe2) (keep_of_below hbe2 hwW) (mid_of_below hbe2) ⟨v0, Blk.below (Blk.below hv hbe hv.lt) hbe2 (by have := Blk.lt hv; have := hbe.size; omega), own_below (own_below hr hbe) hbe2, below_then (below_then hb hb.size hbe) hwW hbe2, fun g hg => (own_lt hr g hg).1, Blk.lt hv,
      ⟨hx.1.below hbe2, hx.2⟩, W.heap.size, HZ.out.row _, rfl⟩)
    clear hK
    gi_wp2_with (refine storeIn_row rfl 86 _ _ rfl W.heap.size #[.int .i64 rp, .int .i64 rs, .int .u8 (b8 rk), .slice A2 rl.length c2] rfl rfl 86 _ HZ.out Hz.out rfl (by simp [Value.oneCell']) ?_)
    exact HK.out
  case body =>
    rintro M l pre x a' W ⟨v0, hv, hr, hb, hM, hM', hx, Bx, hBx, rfl⟩
    obtain ⟨pv, rp, rs, rk, rl⟩ := x
    have hx' := hx.1
    obtain ⟨A2, c2, e2, _, _⟩ := hx'
    simp only at e2
    subst e2
    have Hz := Lib.hid zeroRec
    have hc := hv.cell
    have hwW := hb.size
    have hlen := hx.2.1
    have hBx' : Blk W Bx 86 #[.int .i64 rp, .int .i64 rs, .int .u8 (b8 rk), .slice A2 rl.length c2] := hBx
    gi_wp2_with first
      | (refine loadIn_row rfl 86 _ rfl Bx rfl _ _ _ hBx' Try.underlying86 rfl Hz.out ?_)
      | (gi_at_builtin; refine stop_here ?_)
    have hnew := Blk.new W 86 #[.int .i64 rp, .int .i64 rs, .int .u8 (b8 rk), .slice A2 rl.length c2]
    refine go_on (wpListIn_append_own _ rfl _ _ 83 rfl w.heap.size 86 i0 _ 4 48 Try.underlying83 hi hz0 hz1 hz2 rfl (by decide) v0 pre.length _ rfl (hr.alloc _) ⟨W.heap.size, 0, none⟩ 1 1
      [.int .i64 rp, .int .i64 rs, .int .u8 (b8 rk), .slice A2 rl.length c2] rfl rfl (fun j u hu => by rw [addr_add, Nat.zero_add]; exact hnew.cellv (by simpa using hu)) (by simp [Value.oneCell'])
      (by have : maxLen = 9223372036854775807 := rfl; omega) (by omega) (by simp; omega) ?_)
    intro v' w1 hown' hgrow _
    obtain ⟨g', cap', rfl⟩ := ownsRow_succ hown'
    obtain ⟨hv1, hv2, hr2, hk2, hb2⟩ := hv.appended (by decide) hr hb.size (Nat.le_refl _) hown' hgrow
    have hc1 := hv1.cell
    have hf1 := hv1.frozen
    have HKK := Lib.hid (show Keep byteTypes w.heap.size W (w1.setCell ⟨w.heap.size, 0, none⟩ (.slice (some ⟨g', 0, none⟩) (pre.length + 1) cap')) from ⟨hb2, fun ty j cs hty hj => by
      refine Blk.far ((hgrow.block j (by have := hj.lt; simp; omega) fun e => ?_).trans (hj.alloc _)) (fun e => ?_) _
      · obtain ⟨_, cs', h⟩ := own_lt hr j e.symm
        have h2 := hj.symm.trans h
        rcases hty with rfl | rfl <;> simp at h2
      · have e' : j = w.heap.size := e
        subst e'
        have h2 := hj.symm.trans hv
        rcases hty with rfl | rfl <;> simp at h2⟩)
    have HM := Lib.hid (show Mid M W (w1.setCell ⟨w.heap.size, 0, none⟩ (.slice (some ⟨g', 0, none⟩) (pre.length + 1) cap')) from fun j hj hlt => by
      refine (heap_setCell_other w1 _ j _ (by show j ≠ w.heap.size; omega)).trans ((hgrow.block j (by simp; omega) fun e => ?_).trans (Below.heap_alloc _ _ _ hlt))
      have := hM j e.symm
      omega)
    have HK2 := Lib.hid hk2
    have HI := Lib.hid (show CollI w (pre ++ [((.slice A2 rl.length c2, ⟨rp, rs, rk, rl⟩) : Value × Rec)]) (w1.setCell ⟨w.heap.size, 0, none⟩ (.slice (some ⟨g', 0, none⟩) (pre.length + 1) cap')) from
      ⟨_, hv2, by simpa [recCells] using hr2, hb.trans hb2⟩)
    clear hk2 hr2 hb2 hown' hgrow
    gi_wp2_with fail
    exact ⟨HK2.out.from _, HKK.out, HM.out, HI.out⟩
  case done =>
    rintro D xs W hD hS ⟨v0, hv, hr, hb⟩ hK
    have hc := Boxed.cell hv
    gi_wp2
    refine ⟨by simp, .inl ⟨_, _, rfl, run_takeDeferred hK, ?_⟩⟩
    refine ⟨_, results_tmp rfl _ _ _, v0, xs, rfl, ownsRow_putObj hr _ hK rfl, hS.put hK rfl, hb.trans (putObj_below (by omega))⟩
end Go.Proofs.Ytmejngojpffcgaa

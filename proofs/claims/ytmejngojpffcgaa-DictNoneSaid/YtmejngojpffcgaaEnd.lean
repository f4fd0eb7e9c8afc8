import Derived.Test.YtmejngojpffcgaaScn
namespace Go.Proofs.Ytmejngojpffcgaa
open Go.RowKit Go.Ls
attribute [local go_sem] Oper.semAt_some

def endOf (xs : List (Value × Rec)) : Nat := match (xs.map (·.2)).getLast? with
  | none => 0
  | some r => r.place + r.size
theorem endOf_snoc (pre : List (Value × Rec)) (x : Value × Rec) : endOf (pre ++ [x]) = x.2.place + x.2.size := by simp [endOf]
def EndI (w : World) (pre : List (Value × Rec)) (W : World) : Prop := Blk W w.heap.size 3 #[.int .i64 (endOf pre)] ∧ Below w.heap.size w W
def EndY (w : World) (b : List UInt8) (tm : Value → Value → Array Value) (M : Nat) (pre : List (Value × Rec)) (x : Value × Rec) (a' : Act) (W : World) : Prop :=
  EndI w pre W ∧ w.heap.size < M ∧ RecX b w.heap.size pre x W ∧ ∃ Bx, Blk W Bx 86 (recCells x).toArray ∧ a' = { tmps := tm (recV x) (.pointer (some ⟨Bx, 0, none⟩)), defers := [] }
theorem EndI.put {w : World} {s : List (Value × Rec)} {A : World} {l : Nat} {o o' : Obj} (h : EndI w s A) (hl : A.heap[l]? = some o) (ho : o.isCells = false) (hB : w.heap.size ≤ l) : EndI w s (A.putObj l o') :=
  ⟨blk_put h.1 hl ho, h.2.trans (putObj_below hB)⟩
theorem EndI.below {w : World} {s : List (Value × Rec)} {A A' : World} (h : EndI w s A) (hb : Below A.heap.size A A') : EndI w s A' := ⟨h.1.below hb h.1.lt, below_then h.2 h.2.size hb⟩

set_option maxRecDepth 100000 in
set_option maxHeartbeats 1000000 in
theorem record_end {Sb : Nat → Prop} (v : Value) (b : List UInt8) (w : World) (hl : Sl8 Sb w v b) (hn : b.length ≤ 1000000) :
    Calls Try.prog 44 #[v] w fun e w' => e = .returned (.int .i64 (recEnd b)) ∧ Below w.heap.size w w' := by
  have hl0 := Sl.bound hl
  obtain ⟨A, c, rfl, hc, hr⟩ := hl
  refine (callsIn_wide (n := 6)).1 ?_
  refine callsIn_of_wp_marks Try.func44 rfl trivial ?_ rfl
  simp only [Try.ntmps44, List.size_toArray, List.length_cons, List.length_nil, Nat.reduceAdd, Nat.reduceSub, Array.replicate_succ, Array.replicate_zero, List.push_toArray, List.append_toArray, List.nil_append, List.cons_append]
  gi_wp2_with fail
  refine ⟨trivial, (callsIn_wide.2 (record_each A b.length c _)).mono ?_⟩
  rintro e w' ⟨rfl, rfl⟩
  gi_wp2_with fail
  have hb1 : Below w.heap.size w (w.alloc (.cells #[.int .i64 0] 3)) := (Below.refl _ w).alloc (Nat.le_refl _) _
  have hb2 : Below w.heap.size w ((w.alloc (.cells #[.int .i64 0] 3)).alloc (.cells #[.slice A b.length c] 27)) := hb1.alloc (by simp) _
  have hbx := Blk.new (w.alloc (.cells #[.int .i64 0] 3)) 27 #[.slice A b.length c]
  have hwe := (Blk.new w 3 #[.int .i64 0]).alloc (.cells #[.slice A b.length c] 27)
  rw [World.size_alloc] at hbx
  have hsz : ((w.alloc (.cells #[.int .i64 0] 3)).alloc (.cells #[.slice A b.length c] 27)).heap.size = w.heap.size + 2 := by simp
  obtain ⟨w1, hw1⟩ : ∃ w1, ((w.alloc (.cells #[.int .i64 0] 3)).alloc (.cells #[.slice A b.length c] 27)) = w1 := ⟨_, rfl⟩
  rw [hw1] at hb2 hbx hsz hwe ⊢
  clear hw1
  refine range_seq rfl (by omega) (gf := 100) (lb := #[.pointer (some ⟨w.heap.size + 1, 0, none⟩)]) rfl trivial (enters_of Try.func100 (by kernel_rfl) rfl)
    (each1 (Sb := fun j => Sb j ∧ j < w.heap.size) (6 - 1) (w.heap.size + 1) _ b w.heap.size w1 (Sl.below hl0 hb2) (fun k h => h.2) (by omega) hb2.size hbx) (by omega) (Below.refl _ _) (fun _ => rfl)
    (EndI w) ?hIb ?hIp
    (EndY w b fun x q => #[.slice A b.length c, undef, .int .i64 0, .pointer (some ⟨w.heap.size, 0, none⟩), q, .slice A b.length c, .func (.func 100) #[] #[.pointer (some ⟨w.heap.size + 1, 0, none⟩)], x, undef, undef, undef, undef, undef, undef]) ?hYp
    ?hSp ?h0 ?assign ?body ?done
  case hIb => intro s A A' h hbe; exact h.below hbe
  case hIp =>
    intro s A l o o' h hB hl ho
    exact h.put hl ho (by omega)
  case hYp =>
    rintro M s x a' A l o o' ⟨h0, h1, h2, Bx, h4, h5⟩ hB hl ho
    exact ⟨h0.put hl ho (by omega), h1, h2.put hl ho, Bx, blk_put h4 hl ho, h5⟩
  case hSp => intro s A l o o' h _ hl ho; exact h.put hl ho
  case h0 => exact ⟨hwe, hb2⟩
  case assign =>
    rintro l pre x A0 W K hx hi hbe hK
    obtain ⟨pv, rp, rs, rk, rl⟩ := x
    have hx' := hx.1
    obtain ⟨A2, c2, e2, _, _⟩ := hx'
    simp only at e2
    subst e2
    have Hz := Lib.hid zeroRec
    have HZ := Lib.hid (Blk.new W 86 #[.int .i64 0, .int .i64 0, .int .u8 0, .slice none 0 0])
    have hbe2 : Below W.heap.size W _ := below_setRow ((Below.refl _ W).alloc (Nat.le_refl _) (.cells #[.int .i64 0, .int .i64 0, .int .u8 0, .slice none 0 0] 86)) (Nat.le_refl _) #[.int .i64 rp, .int .i64 rs, .int .u8 (b8 rk), .slice A2 rl.length c2]
    have hwW : w.heap.size ≤ W.heap.size := Nat.le_trans hi.2.size hbe.size
    have HK := Lib.hid (hK _ _ (keeps_of_below hbe2) (keep_of_below hbe2 hwW) (mid_of_below hbe2) ⟨(hi.below hbe).below hbe2, hi.1.lt,
      ⟨hx.1.below hbe2, hx.2⟩, W.heap.size, HZ.out.row _, rfl⟩)
    clear hK
    gi_wp2_with (refine storeIn_row rfl 86 _ _ rfl W.heap.size #[.int .i64 rp, .int .i64 rs, .int .u8 (b8 rk), .slice A2 rl.length c2] rfl rfl 86 _ HZ.out Hz.out rfl (by simp [Value.oneCell']) ?_)
    exact HK.out
  case body =>
    rintro M l pre x a' W ⟨⟨h0, hb⟩, hM, hx, Bx, hBx, rfl⟩
    obtain ⟨pv, rp, rs, rk, rl⟩ := x
    have hc0 := h0.cellv (j := 0) rfl
    have hf0 := h0.frozen 0
    have hBx' : Blk W Bx 86 #[.int .i64 rp, .int .i64 rs, .int .u8 (b8 rk), pv] := hBx
    have hr0 := hBx'.cellv (j := 0) rfl
    have hr1 := hBx'.cellv (j := 1) rfl
    simp only [List.getElem_toArray, List.getElem_cons_zero, List.getElem_cons_succ] at hr0 hr1 hc0
    have hle : rp + rs ≤ b.length := hx.2.2.1
    have hset : ∀ u, Below w.heap.size W (W.setCell ⟨w.heap.size, 0, none⟩ u) := fun u => (Below.refl _ W).setCell (p := ⟨w.heap.size, 0, none⟩) (Nat.le_refl _) u
    have HF := Lib.hid (show KeepsFrom w1.heap.size W (W.setCell ⟨w.heap.size, 0, none⟩ (.int .i64 ((rp : Int) + rs))) ∧ Keep byteTypes w.heap.size W (W.setCell ⟨w.heap.size, 0, none⟩ (.int .i64 ((rp : Int) + rs))) ∧ Mid M W (W.setCell ⟨w.heap.size, 0, none⟩ (.int .i64 ((rp : Int) + rs))) ∧ EndI w (pre ++ [((pv, ⟨rp, rs, rk, rl⟩) : Value × Rec)]) (W.setCell ⟨w.heap.size, 0, none⟩ (.int .i64 ((rp : Int) + rs))) from by
      refine ⟨(KeepsOthers.setCell W _ _).from _, ⟨hset _, fun ty j cs hty hj => hj.far (fun e => ?_) _⟩, fun j hj _ => heap_setCell_other W _ j _ (by show j ≠ w.heap.size; omega), ?_, hb.trans (hset _)⟩
      · have e' : j = w.heap.size := e
        subst e'
        have h2 := hj.symm.trans h0
        rcases hty with rfl | rfl <;> simp at h2
      · have := h0.set 0 (.int .i64 ((rp : Int) + rs))
        rw [endOf_snoc]
        simpa using this)
    gi_wp2_with fail
    exact HF.out
  case done =>
    rintro D xs W hD hS ⟨h0, hb⟩ hK
    have hc0 := h0.cellv (j := 0) rfl
    simp only [List.getElem_toArray, List.getElem_cons_zero] at hc0
    have he : endOf xs = recEnd b := by unfold endOf recEnd; rw [hS.1]; cases (recScan b).getLast? <;> rfl
    rw [he] at hc0
    clear h0
    gi_wp2
    refine ⟨by simp, .inl ⟨_, _, rfl, run_takeDeferred hK, ?_⟩⟩
    exact ⟨_, results_tmp rfl _ _ _, rfl, hb.trans (putObj_below (by omega))⟩
end Go.Proofs.Ytmejngojpffcgaa

import Derived.Great.Walk
import Derived.Test.YtmejngojpffcgaaBytes
import Derived.Test.YtmejngojpffcgaaPrm
namespace Go.Ls
open Go.RowKit
/-- Composite literals, one behind the other, reckoned by the kernel alone. -/
def runB (P : Program) : List Oper → Act → Option Act
  | [], a => some a
  | o :: os, a => match o.guard, o.op with
    | none, .build t parts => match P.built t (parts.map fun (i, x) => (i, a.eval x)).toList with
      | some v => runB P os (a.put o.dst (.agg v))
      | none => none
    | _, _ => none
theorem wpList_runB {P : Program} {ops : Array Oper} {rest : List Oper} {Q : Exit → Act → World → Prop} {w : World} : ∀ (os : List Oper) (a a' : Act), runB P os a = some a' → wpList P ops Q rest a' w → wpList P ops Q (os ++ rest) a w
  | [], a, a', h, hr => by cases h; exact hr
  | o :: os, a, a', h, hr => by
    unfold runB at h
    split at h
    · rename_i t parts hg ho
      split at h
      · rename_i v hv
        have hv' : P.built t (parts.map fun (i, x) => (i, a.eval x)).toList = some v := hv
        refine wpList_build hg t parts ho (by rw [hv']; rfl) ?_
        rw [hv']
        exact wpList_runB os _ _ h hr
      · cases h
    · cases h
theorem wpList_runB_take {P : Program} {ops : Array Oper} {Q : Exit → Act → World → Prop} {w : World} (n : Nat) (os : List Oper) (a a' : Act) (h : runB P (os.take n) a = some a') (hr : wpList P ops Q (os.drop n) a' w) : wpList P ops Q os a w := by
  have := wpList_runB (P := P) (ops := ops) (Q := Q) (w := w) (rest := os.drop n) _ _ _ h hr
  rwa [List.take_append_drop] at this
theorem wpList_runB_get {P : Program} {ops : Array Oper} {Q : Exit → Act → World → Prop} {w : World} (n : Nat) (os : List Oper) (a : Act) (h : (runB P (os.take n) a).isSome = true) (hr : ∀ a', runB P (os.take n) a = some a' → wpList P ops Q (os.drop n) a' w) : wpList P ops Q os a w := by
  obtain ⟨a', ha⟩ := Option.isSome_iff_exists.1 h
  exact wpList_runB_take n os a a' ha (hr a' ha)
def tabZero : Array Value := ((List.replicate 113 [Value.int .u32 0, .string ⟨#[]⟩, .int .i64 0, .int .i64 0, .int .i64 0, .bool false, .bool false]).flatten).toArray
def segA : Code → Code
  | .seq a _ => a
  | c => c
def segB : Code → Code
  | .seq _ b => b
  | c => c
def opsOf : Code → Array Oper
  | .region _ o _ => o
  | _ => #[]
def idOf : Code → Nat
  | .region i _ _ => i
  | _ => 0
def bodyOf (f : Func) : Code := f.body.getD .skip
def ops0 (f : Func) : Array Oper := opsOf (segA (bodyOf f))
def ops1 (f : Func) : Array Oper := opsOf (segA (segB (bodyOf f)))
def opsOs (f : Func) : List Oper := (ops1 f).toList.take 114
def actOf (f : Func) (p : Value) : Act := { tmps := (#[] : Array Value) ++ (Array.replicate (f.ntmps - 0) undef).setIfInBounds 0 p, defers := [] }
end Go.Ls
namespace Go.Proofs.Ytmejngojpffcgaa
open Go.RowKit Go.Ls
theorem tab_shape : Try.f111.body = some (.seq (.region (idOf (segA (bodyOf Try.f111))) (ops0 Try.f111) false) (.seq (.region (idOf (segA (segB (bodyOf Try.f111)))) (ops1 Try.f111) false) .ret)) := by kernel_rfl
theorem tab_o0 : (ops0 Try.f111).toList = [(ops0 Try.f111)[0]!] := by kernel_rfl
theorem tab_o1 : (ops1 Try.f111).toList = opsOs Try.f111 ++ [(ops1 Try.f111)[114]!] := by kernel_rfl
theorem tab_g0 : ((ops0 Try.f111)[0]!).guard = none := by kernel_rfl
theorem tab_d0 : ((ops0 Try.f111)[0]!).dst = some 0 := by kernel_rfl
theorem tab_run0 (w : World) (a : Act) : (execOp a.eval (ops0 Try.f111)[0]!).run Try.prog w = .ok (.value (.pointer (some ⟨w.heap.size, 0, none⟩))) (w.alloc (.cells tabZero 174)) := by kernel_rfl
theorem tab_put (p : Value) : (Act.put { tmps := (#[] : Array Value) ++ Array.replicate (Try.f111.ntmps - (#[] : Array Value).size) undef, defers := [] } (some 0) p) = actOf Try.f111 p := by kernel_rfl
theorem tab_val (p : Value) : (runB Try.prog (opsOs Try.f111) (actOf Try.f111 p)).map (fun a => (a.eval (.tmp 114), a.eval (.tmp 0), a.tmps.getD 0 undef, a.defers)) = some (.agg primCells, p, p, []) := by kernel_rfl
theorem tab_g1 : ((ops1 Try.f111)[114]!).guard = none := by kernel_rfl
theorem tab_d1 : ((ops1 Try.f111)[114]!).dst = none := by kernel_rfl
theorem tab_op1 : ((ops1 Try.f111)[114]!).op = .store 174 (.tmp 0) (.tmp 114) := by kernel_rfl
theorem tab_info : (Try.prog.info? 174).map (·.size) = some primCells.size := by kernel_rfl
theorem tab_size : tabZero.size = primCells.size := by kernel_rfl
theorem tab_one : primCells.all (·.oneCell') = true := by kernel_rfl
theorem tab_res : Try.f111.results = #[.cell 0 174] := by kernel_rfl
theorem tab_tail (w : World) (a : Act) (Q : Exit → Act → World → Prop) (f0 : a.eval (.tmp 0) = .pointer (some ⟨w.heap.size, 0, none⟩)) (f1 : a.eval (.tmp 114) = .agg primCells)
    (h : Q .normal (a.put none undef) ((w.alloc (.cells tabZero 174)).setRow w.heap.size primCells)) :
    wpList Try.prog (ops1 Try.f111) Q [(ops1 Try.f111)[114]!] a (w.alloc (.cells tabZero 174)) := by
  refine wpList_store_row (rest := []) tab_g1 174 (.tmp 0) (.tmp 114) tab_op1 w.heap.size primCells f0 f1 174 tabZero (Blk.new _ _ _) tab_info tab_size tab_one ?_
  rw [tab_d1]
  exact wpList_nil h
theorem prim_table (w : World) : Calls Try.prog 111 #[] w fun e w' => e = .returned (.agg primCells) ∧ Below w.heap.size w w' := by
  refine calls_of_wp Try.func111 tab_shape ?_
  refine wp_seq (wp_region_list ?_)
  rw [tab_o0]
  refine Great.wpList_allocTo tab_g0 (some 0) tab_d0 _ _ (tab_run0 w _) (wpList_nil ?_)
  show Code.wp _ _ _ _ _
  rw [tab_put]
  refine wp_seq (wp_region_list ?_)
  rw [tab_o1]
  obtain ⟨a', ha, h1⟩ := Option.map_eq_some_iff.1 (tab_val (.pointer (some ⟨w.heap.size, 0, none⟩)))
  simp only [Prod.mk.injEq] at h1
  obtain ⟨h1, h2, h3, h4⟩ := h1
  refine wpList_runB _ _ _ ha (tab_tail w a' _ h2 h1 ?_)
  show Code.wp _ _ _ _ _
  refine wp_ret ?_
  have hb := (Blk.new w 174 tabZero).row primCells
  refine bodyPost_ret (results_cell_row tab_res _ _ w.heap.size 174 primCells (0, 0) _ ?_ hb Try.underlying174 rfl tab_info) ?_ ⟨rfl, below_setRow ((Below.refl _ w).alloc (Nat.le_refl _) _) (Nat.le_refl _) _⟩
  · exact h3
  · exact h4
end Go.Proofs.Ytmejngojpffcgaa

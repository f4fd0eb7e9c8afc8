/- Contract of prim.table, the table of primitives. No condition beyond those each theorem names. -/
import Derived.Test.YtmejngojpffcgaaKword
import Derived.Great.Walk
import Derived.Test.YtmejngojpffcgaaKbase
section
/- The primitives as Lean's own data. -/
namespace Go.Ls
structure Prm where
  number : UInt32
  name : List UInt8
  takes : Nat
  gives : Nat
  operands : Nat
  text : Bool
  jump : Bool
def prims : List Prm := [
  ⟨1, [68, 85, 80], 1, 2, 0, false, false⟩,
  ⟨2, [68, 82, 79, 80], 1, 0, 0, false, false⟩,
  ⟨3, [83, 87, 65, 80], 2, 2, 0, false, false⟩,
  ⟨4, [79, 86, 69, 82], 2, 3, 0, false, false⟩,
  ⟨5, [82, 79, 84], 3, 3, 0, false, false⟩,
  ⟨6, [63, 68, 85, 80], 1, 1, 0, false, false⟩,
  ⟨7, [78, 73, 80], 2, 1, 0, false, false⟩,
  ⟨8, [84, 85, 67, 75], 2, 3, 0, false, false⟩,
  ⟨9, [50, 68, 85, 80], 2, 4, 0, false, false⟩,
  ⟨10, [50, 68, 82, 79, 80], 2, 0, 0, false, false⟩,
  ⟨11, [50, 83, 87, 65, 80], 4, 4, 0, false, false⟩,
  ⟨12, [50, 79, 86, 69, 82], 4, 6, 0, false, false⟩,
  ⟨13, [68, 69, 80, 84, 72], 0, 1, 0, false, false⟩,
  ⟨14, [80, 73, 67, 75], 1, 1, 0, false, false⟩,
  ⟨15, [82, 79, 76, 76], 1, 0, 0, false, false⟩,
  ⟨16, [43], 2, 1, 0, false, false⟩,
  ⟨17, [45], 2, 1, 0, false, false⟩,
  ⟨18, [42], 2, 1, 0, false, false⟩,
  ⟨19, [47], 2, 1, 0, false, false⟩,
  ⟨20, [77, 79, 68], 2, 1, 0, false, false⟩,
  ⟨21, [47, 77, 79, 68], 2, 2, 0, false, false⟩,
  ⟨22, [42, 47], 3, 1, 0, false, false⟩,
  ⟨23, [42, 47, 77, 79, 68], 3, 2, 0, false, false⟩,
  ⟨24, [78, 69, 71, 65, 84, 69], 1, 1, 0, false, false⟩,
  ⟨25, [65, 66, 83], 1, 1, 0, false, false⟩,
  ⟨26, [77, 73, 78], 2, 1, 0, false, false⟩,
  ⟨27, [77, 65, 88], 2, 1, 0, false, false⟩,
  ⟨28, [49, 43], 1, 1, 0, false, false⟩,
  ⟨29, [49, 45], 1, 1, 0, false, false⟩,
  ⟨30, [50, 42], 1, 1, 0, false, false⟩,
  ⟨31, [50, 47], 1, 1, 0, false, false⟩,
  ⟨32, [85, 77, 42], 2, 2, 0, false, false⟩,
  ⟨33, [77, 42], 2, 2, 0, false, false⟩,
  ⟨34, [85, 77, 47, 77, 79, 68], 3, 2, 0, false, false⟩,
  ⟨35, [70, 77, 47, 77, 79, 68], 3, 2, 0, false, false⟩,
  ⟨36, [83, 77, 47, 82, 69, 77], 3, 2, 0, false, false⟩,
  ⟨37, [83, 62, 68], 1, 2, 0, false, false⟩,
  ⟨38, [68, 43], 4, 2, 0, false, false⟩,
  ⟨39, [68, 78, 69, 71, 65, 84, 69], 2, 2, 0, false, false⟩,
  ⟨40, [65, 78, 68], 2, 1, 0, false, false⟩,
  ⟨41, [79, 82], 2, 1, 0, false, false⟩,
  ⟨42, [88, 79, 82], 2, 1, 0, false, false⟩,
  ⟨43, [73, 78, 86, 69, 82, 84], 1, 1, 0, false, false⟩,
  ⟨44, [76, 83, 72, 73, 70, 84], 2, 1, 0, false, false⟩,
  ⟨45, [82, 83, 72, 73, 70, 84], 2, 1, 0, false, false⟩,
  ⟨46, [61], 2, 1, 0, false, false⟩,
  ⟨47, [60, 62], 2, 1, 0, false, false⟩,
  ⟨48, [60], 2, 1, 0, false, false⟩,
  ⟨49, [62], 2, 1, 0, false, false⟩,
  ⟨50, [85, 60], 2, 1, 0, false, false⟩,
  ⟨51, [85, 62], 2, 1, 0, false, false⟩,
  ⟨52, [48, 61], 1, 1, 0, false, false⟩,
  ⟨53, [48, 60], 1, 1, 0, false, false⟩,
  ⟨54, [48, 62], 1, 1, 0, false, false⟩,
  ⟨55, [87, 73, 84, 72, 73, 78], 3, 1, 0, false, false⟩,
  ⟨56, [64], 1, 1, 0, false, false⟩,
  ⟨57, [33], 2, 0, 0, false, false⟩,
  ⟨58, [67, 64], 1, 1, 0, false, false⟩,
  ⟨59, [67, 33], 2, 0, 0, false, false⟩,
  ⟨60, [43, 33], 2, 0, 0, false, false⟩,
  ⟨61, [50, 64], 1, 2, 0, false, false⟩,
  ⟨62, [50, 33], 3, 0, 0, false, false⟩,
  ⟨63, [77, 79, 86, 69], 3, 0, 0, false, false⟩,
  ⟨64, [70, 73, 76, 76], 3, 0, 0, false, false⟩,
  ⟨65, [67, 69, 76, 76, 43], 1, 1, 0, false, false⟩,
  ⟨66, [67, 69, 76, 76, 83], 1, 1, 0, false, false⟩,
  ⟨67, [67, 72, 65, 82, 43], 1, 1, 0, false, false⟩,
  ⟨68, [67, 72, 65, 82, 83], 1, 1, 0, false, false⟩,
  ⟨69, [65, 76, 73, 71, 78, 69, 68], 1, 1, 0, false, false⟩,
  ⟨70, [67, 79, 85, 78, 84], 1, 2, 0, false, false⟩,
  ⟨71, [62, 82], 1, 0, 0, false, false⟩,
  ⟨72, [82, 62], 0, 1, 0, false, false⟩,
  ⟨73, [82, 64], 0, 1, 0, false, false⟩,
  ⟨101, [69, 88, 73, 84], 0, 0, 0, false, false⟩,
  ⟨102, [40, 76, 73, 84, 41], 0, 1, 1, false, false⟩,
  ⟨103, [40, 66, 82, 65, 78, 67, 72, 41], 0, 0, 1, false, true⟩,
  ⟨104, [40, 48, 66, 82, 65, 78, 67, 72, 41], 1, 0, 1, false, true⟩,
  ⟨105, [40, 68, 79, 41], 2, 0, 0, false, false⟩,
  ⟨106, [40, 63, 68, 79, 41], 2, 0, 1, false, true⟩,
  ⟨107, [40, 76, 79, 79, 80, 41], 0, 0, 1, false, true⟩,
  ⟨108, [40, 43, 76, 79, 79, 80, 41], 1, 0, 1, false, true⟩,
  ⟨109, [73], 0, 1, 0, false, false⟩,
  ⟨110, [74], 0, 1, 0, false, false⟩,
  ⟨111, [85, 78, 76, 79, 79, 80], 0, 0, 0, false, false⟩,
  ⟨112, [69, 88, 69, 67, 85, 84, 69], 1, 0, 0, false, false⟩,
  ⟨113, [67, 65, 84, 67, 72], 1, 1, 0, false, false⟩,
  ⟨114, [84, 72, 82, 79, 87], 1, 0, 0, false, false⟩,
  ⟨115, [40, 83, 34, 41], 0, 2, 1, true, false⟩,
  ⟨116, [40, 46, 34, 41], 0, 0, 1, true, false⟩,
  ⟨117, [69, 77, 73, 84], 1, 0, 0, false, false⟩,
  ⟨118, [84, 89, 80, 69], 2, 0, 0, false, false⟩,
  ⟨119, [67, 82], 0, 0, 0, false, false⟩,
  ⟨120, [83, 80, 65, 67, 69], 0, 0, 0, false, false⟩,
  ⟨121, [83, 80, 65, 67, 69, 83], 1, 0, 0, false, false⟩,
  ⟨122, [72, 69, 82, 69], 0, 1, 0, false, false⟩,
  ⟨123, [65, 76, 76, 79, 84], 1, 0, 0, false, false⟩,
  ⟨124, [44], 1, 0, 0, false, false⟩,
  ⟨125, [67, 44], 1, 0, 0, false, false⟩,
  ⟨126, [65, 76, 73, 71, 78], 0, 0, 0, false, false⟩,
  ⟨127, [66, 65, 83, 69], 0, 1, 0, false, false⟩,
  ⟨128, [83, 84, 65, 84, 69], 0, 1, 0, false, false⟩,
  ⟨129, [60, 35], 0, 0, 0, false, false⟩,
  ⟨130, [35], 2, 2, 0, false, false⟩,
  ⟨131, [35, 83], 2, 2, 0, false, false⟩,
  ⟨132, [35, 62], 2, 2, 0, false, false⟩,
  ⟨133, [72, 79, 76, 68], 1, 0, 0, false, false⟩,
  ⟨134, [83, 73, 71, 78], 1, 0, 0, false, false⟩,
  ⟨135, [46], 1, 0, 0, false, false⟩,
  ⟨136, [85, 46], 1, 0, 0, false, false⟩,
  ⟨137, [65, 66, 79, 82, 84], 0, 0, 0, false, false⟩,
  ⟨138, [40, 68, 79, 69, 83, 41], 0, 0, 1, false, true⟩,
  ⟨139, [40, 71, 79, 41], 0, 0, 2, false, false⟩,
  ⟨140, [67, 82, 69, 65, 84, 69], 0, 0, 0, false, false⟩]
def Prm.cells (p : Prm) : List Value := [.int .u32 (w32 p.number), str p.name, .int .i64 p.takes, .int .i64 p.gives, .int .i64 p.operands, .bool p.text, .bool p.jump]
def primCells : Array Value := (prims.flatMap Prm.cells).toArray
def primAt (n : UInt32) : Option Prm := prims.find? (·.number == n)
end Go.Ls
end

section
/- Instructions, their starts, which words are right behind which: no Go in this text. -/
namespace Go.Ls
theorem prims_sound : prims.all (fun p => p.operands ≤ 2 && (!p.text || p.operands == 1) && (!p.jump || p.operands == 1) && (!(p.number == 139) || (p.operands == 2 && !p.text)) && p.number < 256) = true := by decide
theorem primAt_number {n : UInt32} {p : Prm} (h : primAt n = some p) : p.number = n := by
  have := List.find?_some h
  simpa using this
theorem primAt_sound {n : UInt32} {p : Prm} (h : primAt n = some p) : p.operands ≤ 2 ∧ (p.text = true → p.operands = 1) ∧ (p.jump = true → p.operands = 1) ∧ (n = 139 → p.operands = 2 ∧ p.text = false) ∧ n < 256 := by
  have hm : p ∈ prims := List.mem_of_find?_eq_some h
  have := List.all_eq_true.1 prims_sound p hm
  have hn := primAt_number h
  subst hn
  simp only [Bool.and_eq_true, Bool.or_eq_true, Bool.not_eq_true', decide_eq_true_eq, beq_iff_eq, beq_eq_false_iff_ne] at this
  obtain ⟨⟨⟨⟨h1, h2⟩, h3⟩, h4⟩, h5⟩ := this
  refine ⟨h1, ?_, ?_, ?_, h5⟩
  · intro e; rcases h2 with h | h
    · rw [e] at h; cases h
    · exact h
  · intro e; rcases h3 with h | h
    · rw [e] at h; cases h
    · exact h
  · intro e; rcases h4 with h | h
    · exact absurd e h
    · exact h
/-- How many cells an instruction has. -/
def longP (code : List UInt32) (i : Nat) : Nat :=
  match code[i]? with
  | none => 0
  | some x =>
    if 256 ≤ x then 1
    else match primAt x with
      | none => 0
      | some p =>
        if code.length - i < 1 + p.operands then 0
        else if p.text then
          match code[i+1]? with
          | some t => if 1000 < t then 0 else if code.length - i < 1 + p.operands + (t.toNat + 3) / 4 then 0 else 1 + p.operands + (t.toNat + 3) / 4
          | none => 0
        else 1 + p.operands
theorem longP_le (code : List UInt32) (i : Nat) (h : i < code.length) : longP code i ≤ code.length - i := by
  unfold longP
  split
  · omega
  · split
    · omega
    · split
      · omega
      · split
        · omega
        · split
          · split
            · split
              · omega
              · split <;> omega
            · omega
          · omega
/-- Where instructions stand, from one place on; none: they are not whole. -/
def startsFrom (code : List UInt32) : Nat → Nat → Option (List Nat)
  | 0, _ => some []
  | f + 1, i => if i < code.length then if longP code i = 0 then none else (startsFrom code f (i + longP code i)).map (i :: ·) else some []
theorem startsFrom_fuel (code : List UInt32) : ∀ (f g i : Nat), code.length - i ≤ f → code.length - i ≤ g → startsFrom code f i = startsFrom code g i := by
  intro f
  induction f with
  | zero =>
    intro g i hf _
    cases g with
    | zero => rfl
    | succ g => unfold startsFrom; rw [if_neg (by omega)]
  | succ f ih =>
    intro g i hf hg
    cases g with
    | zero => rw [startsFrom, startsFrom, if_neg (by omega)]
    | succ g =>
      rw [startsFrom, startsFrom]
      split
      · split
        · rfl
        · rw [ih g _ (by omega) (by omega)]
      · rfl
def startsP (code : List UInt32) : Option (List Nat) := startsFrom code code.length 0
def startsAt (code : List UInt32) (i : Nat) : Option (List Nat) := startsFrom code code.length i
theorem startsAt_end {code : List UInt32} {i : Nat} (h : code.length ≤ i) : startsAt code i = some [] := by
  unfold startsAt
  rw [startsFrom_fuel code _ 0 i (by omega) (by omega)]; rfl
theorem startsAt_bad {code : List UInt32} {i : Nat} (h : i < code.length) (h0 : longP code i = 0) : startsAt code i = none := by
  unfold startsAt
  rw [startsFrom_fuel code _ (code.length + 1) i (by omega) (by omega), startsFrom, if_pos h, if_pos h0]
theorem startsAt_more {code : List UInt32} {i : Nat} (h : i < code.length) (h0 : longP code i ≠ 0) : startsAt code i = (startsAt code (i + longP code i)).map (i :: ·) := by
  unfold startsAt
  rw [startsFrom_fuel code _ (code.length + 1) i (by omega) (by omega), startsFrom, if_pos h, if_neg h0]
theorem startsFrom_mem (code : List UInt32) : ∀ (f i : Nat) (l : List Nat), startsFrom code f i = some l → ∀ j ∈ l, j < code.length ∧ longP code j ≠ 0 := by
  intro f
  induction f with
  | zero => intro i l h; cases h; simp
  | succ f ih =>
    intro i l h
    rw [startsFrom] at h
    split at h
    · split at h
      · cases h
      · rename_i h1 h2
        cases hs : startsFrom code f (i + longP code i) with
        | none => rw [hs] at h; cases h
        | some m =>
          rw [hs] at h
          cases h
          intro j hj
          rcases List.mem_cons.1 hj with rfl | hj
          · exact ⟨h1, h2⟩
          · exact ih _ _ hs j hj
    · cases h; simp
theorem startsP_mem {code : List UInt32} {l : List Nat} (h : startsP code = some l) : ∀ j ∈ l, j < code.length ∧ longP code j ≠ 0 := startsFrom_mem code _ _ l h
theorem startsFrom_len (code : List UInt32) : ∀ (f i : Nat) (l : List Nat), startsFrom code f i = some l → l.length ≤ code.length - i := by
  intro f
  induction f with
  | zero => intro i l h; cases h; simp
  | succ f ih =>
    intro i l h
    rw [startsFrom] at h
    split at h
    · split at h
      · cases h
      · rename_i h1 h2
        cases hs : startsFrom code f (i + longP code i) with
        | none => rw [hs] at h; cases h
        | some m =>
          rw [hs] at h
          cases h
          have := ih _ _ hs
          simp
          omega
    · cases h; simp
def jumpsP (n : UInt32) : Bool := match primAt n with
  | some p => p.jump
  | none => false
/-- The starts of a word's instructions, if it ends as it must. -/
def wordStarts (x : Wd) : Option (List Nat) := if x.right then match startsP x.code with
  | none => none
  | some l => match l.getLast? with
    | none => none
    | some j => if x.code[j]? = some 101 then some l else none
  else none
/-- Is one instruction right? S: all starts. -/
def instrOk (S : List (UInt32 × UInt32)) (me : UInt32) (code : List UInt32) (i : Nat) : Bool :=
  match code[i]? with
  | none => false
  | some x =>
    if 256 ≤ x then !(decide (me < x - 256))
    else if jumpsP x && !S.contains (me, code[i+1]?.getD 0) then false
    else if x == 139 then !(decide (me ≤ code[i+1]?.getD 0) || !S.contains (code[i+1]?.getD 0, code[i+2]?.getD 0))
    else true
def placesOf (i : Nat) (l : List Nat) : List (UInt32 × UInt32) := l.map fun a => (UInt32.ofNat i, UInt32.ofNat a)
def checkFrom (S : List (UInt32 × UInt32)) (i : Nat) : List Wd → Option Nat
  | [] => none
  | x :: xs => match wordStarts x with
    | none => some i
    | some l => if l.all (instrOk (S ++ placesOf i l) (UInt32.ofNat i) x.code) then checkFrom (S ++ placesOf i l) (i + 1) xs else some i
/-- The first word that is not right. -/
def checkP (l : List Wd) : Option Nat := checkFrom [] 0 l
def checkZ (l : List Wd) : Int := match checkP l with
  | none => -1
  | some i => i
end Go.Ls
end

section
namespace Go.Ls
open Go.RowKit
/-- Composite literals, one behind the other, reckoned by the kernel alone. -/
def runB (P : Program) : List Oper → Act → Option Act
  | [], a => some a
  | o :: os, a => match o.guard, o.op with
    | none, .build t parts => match P.built t (parts.map fun (i, x) => (i, a.eval x)).toList with
      | some v => runB P os (a.put o.dst (.agg v))
      | none => none
    | _, _ => none
theorem wpList_runB {P : Program} {ops : Array Oper} {rest : List Oper} {Q : Exit → Act → World → Prop} {w : World} : ∀ (os : List Oper) (a a' : Act), runB P os a = some a' → wpList P ops Q rest a' w → wpList P ops Q (os ++ rest) a w
  | [], a, a', h, hr => by cases h; exact hr
  | o :: os, a, a', h, hr => by
    unfold runB at h
    split at h
    · rename_i t parts hg ho
      split at h
      · rename_i v hv
        have hv' : P.built t (parts.map fun (i, x) => (i, a.eval x)).toList = some v := hv
        refine wpList_build hg t parts ho (by rw [hv']; rfl) ?_
        rw [hv']
        exact wpList_runB os _ _ h hr
      · cases h
    · cases h
theorem wpList_runB_take {P : Program} {ops : Array Oper} {Q : Exit → Act → World → Prop} {w : World} (n : Nat) (os : List Oper) (a a' : Act) (h : runB P (os.take n) a = some a') (hr : wpList P ops Q (os.drop n) a' w) : wpList P ops Q os a w := by
  have := wpList_runB (P := P) (ops := ops) (Q := Q) (w := w) (rest := os.drop n) _ _ _ h hr
  rwa [List.take_append_drop] at this
theorem wpList_runB_get {P : Program} {ops : Array Oper} {Q : Exit → Act → World → Prop} {w : World} (n : Nat) (os : List Oper) (a : Act) (h : (runB P (os.take n) a).isSome = true) (hr : ∀ a', runB P (os.take n) a = some a' → wpList P ops Q (os.drop n) a' w) : wpList P ops Q os a w := by
  obtain ⟨a', ha⟩ := Option.isSome_iff_exists.1 h
  exact wpList_runB_take n os a a' ha (hr a' ha)
def tabZero : Array Value := ((List.replicate 113 [Value.int .u32 0, .string ⟨#[]⟩, .int .i64 0, .int .i64 0, .int .i64 0, .bool false, .bool false]).flatten).toArray
def segA : Code → Code
  | .seq a _ => a
  | c => c
def segB : Code → Code
  | .seq _ b => b
  | c => c
def opsOf : Code → Array Oper
  | .region _ o _ => o
  | _ => #[]
def idOf : Code → Nat
  | .region i _ _ => i
  | _ => 0
def bodyOf (f : Func) : Code := f.body.getD .skip
def ops0 (f : Func) : Array Oper := opsOf (segA (bodyOf f))
def ops1 (f : Func) : Array Oper := opsOf (segA (segB (bodyOf f)))
def opsOs (f : Func) : List Oper := (ops1 f).toList.take 114
def actOf (f : Func) (p : Value) : Act := { tmps := (#[] : Array Value) ++ (Array.replicate (f.ntmps - 0) undef).setIfInBounds 0 p, defers := [] }
end Go.Ls
namespace Go.Proofs.Ytmejngojpffcgaa
open Go.RowKit Go.Ls
theorem tab_shape : Try.f111.body = some (.seq (.region (idOf (segA (bodyOf Try.f111))) (ops0 Try.f111) false) (.seq (.region (idOf (segA (segB (bodyOf Try.f111)))) (ops1 Try.f111) false) .ret)) := by kernel_rfl
theorem tab_o0 : (ops0 Try.f111).toList = [(ops0 Try.f111)[0]!] := by kernel_rfl
theorem tab_o1 : (ops1 Try.f111).toList = opsOs Try.f111 ++ [(ops1 Try.f111)[114]!] := by kernel_rfl
theorem tab_g0 : ((ops0 Try.f111)[0]!).guard = none := by kernel_rfl
theorem tab_d0 : ((ops0 Try.f111)[0]!).dst = some 0 := by kernel_rfl
theorem tab_run0 (w : World) (a : Act) : (execOp a.eval (ops0 Try.f111)[0]!).run Try.prog w = .ok (.value (.pointer (some ⟨w.heap.size, 0, none⟩))) (w.alloc (.cells tabZero 174)) := by kernel_rfl
theorem tab_put (p : Value) : (Act.put { tmps := (#[] : Array Value) ++ Array.replicate (Try.f111.ntmps - (#[] : Array Value).size) undef, defers := [] } (some 0) p) = actOf Try.f111 p := by kernel_rfl
theorem tab_val (p : Value) : (runB Try.prog (opsOs Try.f111) (actOf Try.f111 p)).map (fun a => (a.eval (.tmp 114), a.eval (.tmp 0), a.tmps.getD 0 undef, a.defers)) = some (.agg primCells, p, p, []) := by kernel_rfl
theorem tab_g1 : ((ops1 Try.f111)[114]!).guard = none := by kernel_rfl
theorem tab_d1 : ((ops1 Try.f111)[114]!).dst = none := by kernel_rfl
theorem tab_op1 : ((ops1 Try.f111)[114]!).op = .store 174 (.tmp 0) (.tmp 114) := by kernel_rfl
theorem tab_info : (Try.prog.info? 174).map (·.size) = some primCells.size := by kernel_rfl
theorem tab_size : tabZero.size = primCells.size := by kernel_rfl
theorem tab_one : primCells.all (·.oneCell') = true := by kernel_rfl
theorem tab_res : Try.f111.results = #[.cell 0 174] := by kernel_rfl
theorem tab_tail (w : World) (a : Act) (Q : Exit → Act → World → Prop) (f0 : a.eval (.tmp 0) = .pointer (some ⟨w.heap.size, 0, none⟩)) (f1 : a.eval (.tmp 114) = .agg primCells)
    (h : Q .normal (a.put none undef) ((w.alloc (.cells tabZero 174)).setRow w.heap.size primCells)) :
    wpList Try.prog (ops1 Try.f111) Q [(ops1 Try.f111)[114]!] a (w.alloc (.cells tabZero 174)) := by
  refine wpList_store_row (rest := []) tab_g1 174 (.tmp 0) (.tmp 114) tab_op1 w.heap.size primCells f0 f1 174 tabZero (Blk.new _ _ _) tab_info tab_size tab_one ?_
  rw [tab_d1]
  exact wpList_nil h
theorem prim_table (w : World) : Calls Try.prog 111 #[] w fun e w' => e = .returned (.agg primCells) ∧ Below w.heap.size w w' := by
  refine calls_of_wp Try.func111 tab_shape ?_
  refine wp_seq (wp_region_list ?_)
  rw [tab_o0]
  refine Great.wpList_allocTo tab_g0 (some 0) tab_d0 _ _ (tab_run0 w _) (wpList_nil ?_)
  show Code.wp _ _ _ _ _
  rw [tab_put]
  refine wp_seq (wp_region_list ?_)
  rw [tab_o1]
  obtain ⟨a', ha, h1⟩ := Option.map_eq_some_iff.1 (tab_val (.pointer (some ⟨w.heap.size, 0, none⟩)))
  simp only [Prod.mk.injEq] at h1
  obtain ⟨h1, h2, h3, h4⟩ := h1
  refine wpList_runB _ _ _ ha (tab_tail w a' _ h2 h1 ?_)
  show Code.wp _ _ _ _ _
  refine wp_ret ?_
  have hb := (Blk.new w 174 tabZero).row primCells
  refine bodyPost_ret (results_cell_row tab_res _ _ w.heap.size 174 primCells (0, 0) _ ?_ hb Try.underlying174 rfl tab_info) ?_ ⟨rfl, below_setRow ((Below.refl _ w).alloc (Nat.le_refl _) _) (Nat.le_refl _) _⟩
  · exact h3
  · exact h4
end Go.Proofs.Ytmejngojpffcgaa
end

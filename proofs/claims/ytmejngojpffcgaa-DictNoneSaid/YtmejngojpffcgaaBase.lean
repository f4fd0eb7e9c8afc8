import Derived.WalkKit
import Derived.KernelRfl
import Derived.Outline
import Derived.Lib.Hide
import Derived.Deep.Draws
import Derived.Deep.QuietTactic
import Derived.BigQuiet
import Derived.Deep.MidRow
import Derived.Laws.CopyRow
/- What all texts of this claim share: bytes and words as Lean's own numbers, rows of cells that are read, worlds that keep what they had. -/
namespace Go.Ls
open Go.RowKit

/-! ### Numbers -/
def b8 (x : UInt8) : Int := x.toNat
def w32 (x : UInt32) : Int := x.toNat
def h16 (x : UInt16) : Int := x.toNat
def q64 (x : UInt64) : Int := x.toNat

theorem b8_range (x : UInt8) : 0 ≤ b8 x ∧ b8 x ≤ 255 := by
  have := x.toNat_lt; unfold b8; omega
theorem w32_range (x : UInt32) : 0 ≤ w32 x ∧ w32 x ≤ 4294967295 := by
  have := x.toNat_lt; unfold w32; omega
theorem b8_inj {x y : UInt8} (h : b8 x = b8 y) : x = y := by
  unfold b8 at h; exact UInt8.toNat_inj.1 (by omega)
theorem w32_inj {x y : UInt32} (h : w32 x = w32 y) : x = y := by
  unfold w32 at h; exact UInt32.toNat_inj.1 (by omega)

theorem bits_u32 (x : UInt32) : BitVec.ofInt 32 (w32 x) = x.toBitVec := by
  unfold w32; apply BitVec.eq_of_toNat_eq; simp
theorem bits_u8 (x : UInt8) : BitVec.ofInt 8 (b8 x) = x.toBitVec := by
  unfold b8; apply BitVec.eq_of_toNat_eq; simp
theorem wrap_nat32 (x : UInt32) : IntKind.u32.wrap (x.toNat : Int) = w32 x := by
  rw [IntKind.wrap_u32]; unfold w32; have := x.toNat_lt; omega
theorem wrap_nat8 (x : UInt8) : IntKind.u8.wrap (x.toNat : Int) = b8 x := by
  rw [IntKind.wrap_u8]; unfold b8; have := x.toNat_lt; omega

@[go_sem] theorem and_w32 (a b : UInt32) : bits .and .u32 (w32 a) (w32 b) = w32 (a &&& b) := by
  show IntKind.u32.wrap ((BitVec.ofInt 32 (w32 a) &&& BitVec.ofInt 32 (w32 b)).toNat : Int) = _
  rw [bits_u32, bits_u32, ← wrap_nat32]; rfl
@[go_sem] theorem or_w32 (a b : UInt32) : bits .or .u32 (w32 a) (w32 b) = w32 (a ||| b) := by
  show IntKind.u32.wrap ((BitVec.ofInt 32 (w32 a) ||| BitVec.ofInt 32 (w32 b)).toNat : Int) = _
  rw [bits_u32, bits_u32, ← wrap_nat32]; rfl
@[go_sem] theorem xor_w32 (a b : UInt32) : bits .xor .u32 (w32 a) (w32 b) = w32 (a ^^^ b) := by
  show IntKind.u32.wrap ((BitVec.ofInt 32 (w32 a) ^^^ BitVec.ofInt 32 (w32 b)).toNat : Int) = _
  rw [bits_u32, bits_u32, ← wrap_nat32]; rfl
@[go_sem] theorem andNot_w32 (a b : UInt32) : bits .andNot .u32 (w32 a) (w32 b) = w32 (a &&& ~~~b) := by
  show IntKind.u32.wrap ((BitVec.ofInt 32 (w32 a) &&& ~~~BitVec.ofInt 32 (w32 b)).toNat : Int) = _
  rw [bits_u32, bits_u32, ← wrap_nat32]; rfl
@[go_sem] theorem and_b8 (a b : UInt8) : bits .and .u8 (b8 a) (b8 b) = b8 (a &&& b) := by
  show IntKind.u8.wrap ((BitVec.ofInt 8 (b8 a) &&& BitVec.ofInt 8 (b8 b)).toNat : Int) = _
  rw [bits_u8, bits_u8, ← wrap_nat8]; rfl
@[go_sem] theorem or_b8 (a b : UInt8) : bits .or .u8 (b8 a) (b8 b) = b8 (a ||| b) := by
  show IntKind.u8.wrap ((BitVec.ofInt 8 (b8 a) ||| BitVec.ofInt 8 (b8 b)).toNat : Int) = _
  rw [bits_u8, bits_u8, ← wrap_nat8]; rfl
@[go_sem] theorem xor_b8 (a b : UInt8) : bits .xor .u8 (b8 a) (b8 b) = b8 (a ^^^ b) := by
  show IntKind.u8.wrap ((BitVec.ofInt 8 (b8 a) ^^^ BitVec.ofInt 8 (b8 b)).toNat : Int) = _
  rw [bits_u8, bits_u8, ← wrap_nat8]; rfl
@[go_sem] theorem andNot_b8 (a b : UInt8) : bits .andNot .u8 (b8 a) (b8 b) = b8 (a &&& ~~~b) := by
  show IntKind.u8.wrap ((BitVec.ofInt 8 (b8 a) &&& ~~~BitVec.ofInt 8 (b8 b)).toNat : Int) = _
  rw [bits_u8, bits_u8, ← wrap_nat8]; rfl
@[go_sem] theorem and_w32_1 (a : UInt32) : bits .and .u32 (w32 a) 1 = w32 (a &&& 1) := and_w32 a 1
@[go_sem] theorem and_w32_15 (a : UInt32) : bits .and .u32 (w32 a) 15 = w32 (a &&& 15) := and_w32 a 15
@[go_sem] theorem and_poly (a : UInt32) : bits .and .u32 3988292384 (w32 a) = w32 (3988292384 &&& a) := and_w32 3988292384 a
@[go_sem] theorem not_w32 (b : UInt32) : bits .xor .u32 IntKind.u32.max (w32 b) = w32 (~~~b) := by
  rw [show IntKind.u32.max = w32 (4294967295 : UInt32) from rfl, xor_w32, show (4294967295 : UInt32) ^^^ b = ~~~b from by
    apply UInt32.toBitVec_inj.1; simp; exact BitVec.allOnes_xor (w := 32) (x := b.toBitVec)]
theorem shr_w32 (a : UInt32) (n : Nat) (h : n < 32) : w32 a / 2 ^ n = w32 (a >>> UInt32.ofNat n) := by
  unfold w32
  rw [UInt32.toNat_shiftRight, Nat.shiftRight_eq_div_pow]
  have : (UInt32.ofNat n).toNat % 32 = n := by simp; omega
  rw [this]; simp
/- A literal stands as a variable with an equation: simp's own tree of keys doesn't find the bare literal. -/
@[go_sem] theorem shr_w32_1 (a : UInt32) (n : Int) (h : n = 2) : w32 a / n = w32 (a >>> 1) := by subst h; exact shr_w32 a 1 (by omega)
@[go_sem] theorem shr_w32_4 (a : UInt32) (n : Int) (h : n = 16) : w32 a / n = w32 (a >>> 4) := by subst h; exact shr_w32 a 4 (by omega)
@[go_sem] theorem shr_w32_8 (a : UInt32) (n : Int) (h : n = 256) : w32 a / n = w32 (a >>> 8) := by subst h; exact shr_w32 a 8 (by omega)
@[go_sem] theorem shr_w32_16 (a : UInt32) (n : Int) (h : n = 65536) : w32 a / n = w32 (a >>> 16) := by subst h; exact shr_w32 a 16 (by omega)
@[go_sem] theorem shr_w32_24 (a : UInt32) (n : Int) (h : n = 16777216) : w32 a / n = w32 (a >>> 24) := by subst h; exact shr_w32 a 24 (by omega)
@[go_sem] theorem neg_w32 (a : UInt32) (n : Int) (h : n = 4294967296) : -w32 a % n = w32 (0 - a) := by
  subst h; unfold w32; rw [UInt32.toNat_sub]; have := a.toNat_lt; have h0 : (0 : UInt32).toNat = 0 := rfl; omega
theorem add_w32 (a b : UInt32) : IntKind.u32.wrap (w32 a + w32 b) = w32 (a + b) := by
  rw [IntKind.wrap_u32]; unfold w32; rw [UInt32.toNat_add]; simp
theorem mul_w32 (a b : UInt32) : IntKind.u32.wrap (w32 a * w32 b) = w32 (a * b) := by
  rw [IntKind.wrap_u32]; unfold w32; rw [UInt32.toNat_mul]; simp
theorem sub_w32 (a b : UInt32) : IntKind.u32.wrap (w32 a - w32 b) = w32 (a - b) := by
  rw [IntKind.wrap_u32]; unfold w32; rw [UInt32.toNat_sub]; have := a.toNat_lt; have := b.toNat_lt; omega

@[go_sem] theorem w32_nonneg (a : UInt32) : 0 ≤ w32 a := (w32_range a).1
@[go_sem] theorem b8_nonneg (a : UInt8) : 0 ≤ b8 a := (b8_range a).1
@[go_sem] theorem w32_and15_lt (a : UInt32) (n : Int) (h : n = 16) : w32 (a &&& 15) < n := by
  subst h; unfold w32; rw [UInt32.toNat_and, show (15 : UInt32).toNat = 2 ^ 4 - 1 from rfl, Nat.and_two_pow_sub_one_eq_mod]; omega
@[go_sem] theorem u32_of_b8 (x : UInt8) : IntKind.u32.wrap (b8 x) = w32 x.toUInt32 := by
  have := b8_range x; rw [IntKind.wrap_u32]; unfold w32; rw [UInt8.toNat_toUInt32]; unfold b8 at *; omega
@[go_sem] theorem int_of_b8 (x : UInt8) : IntKind.i64.wrap (b8 x) = b8 x := by
  have := b8_range x; rw [IntKind.wrap_i64]; omega
@[go_sem] theorem int_of_w32 (x : UInt32) : IntKind.i64.wrap (w32 x) = w32 x := by
  have := w32_range x; rw [IntKind.wrap_i64]; omega

@[go_sem] theorem u8_of_w32 (x : UInt32) : IntKind.u8.wrap (w32 x) = b8 x.toUInt8 := by
  rw [IntKind.wrap_u8]; unfold b8 w32; simp
@[go_sem] theorem not_b8 (b : UInt8) : bits .xor .u8 IntKind.u8.max (b8 b) = b8 (~~~b) := by
  rw [show IntKind.u8.max = b8 (255 : UInt8) from rfl, xor_b8, show (255 : UInt8) ^^^ b = ~~~b from by
    apply UInt8.toBitVec_inj.1; simp; exact BitVec.allOnes_xor (w := 8) (x := b.toBitVec)]
theorem u8_of_nat (n : Nat) : IntKind.u8.wrap (n : Int) = b8 (UInt8.ofNat n) := by
  rw [IntKind.wrap_u8]; unfold b8; simp

/-! ### Blocks -/
abbrev Blk (w : World) (b : Nat) (t : TypeId) (cs : Array Value) : Prop := w.heap[b]? = some (.cells cs t (0, 0))
theorem Blk.lt {w : World} {b : Nat} {t : TypeId} {cs : Array Value} (h : Blk w b t cs) : b < w.heap.size := (Array.getElem?_eq_some_iff.1 h).1
theorem Blk.cell {w : World} {b : Nat} {t : TypeId} {cs : Array Value} (h : Blk w b t cs) (j : Nat) : w.cell? ⟨b, j, none⟩ = cs[j]? := by simp [World.cell?, h]
theorem Blk.cellv {w : World} {b : Nat} {t : TypeId} {cs : Array Value} (h : Blk w b t cs) {j : Nat} {v : Value} (hv : cs[j]? = some v) : w.cell? ⟨b, j, none⟩ = some v := by rw [h.cell, hv]
theorem Blk.frozen {w : World} {b : Nat} {t : TypeId} {cs : Array Value} (h : Blk w b t cs) (j : Nat) : w.frozen? ⟨b, j, none⟩ = false := by simp [World.frozen?, h]
theorem Blk.set {w : World} {b : Nat} {t : TypeId} {cs : Array Value} (h : Blk w b t cs) (j : Nat) (u : Value) : Blk (w.setCell ⟨b, j, none⟩ u) b t (cs.setIfInBounds j u) := heap_setCell_same w b j cs t u h
theorem Blk.far {w : World} {b : Nat} {t : TypeId} {cs : Array Value} (h : Blk w b t cs) {p : Addr} (hp : b ≠ p.block) (u : Value) : Blk (w.setCell p u) b t cs := (heap_setCell_other w p b u hp).trans h
theorem Blk.alloc {w : World} {b : Nat} {t : TypeId} {cs : Array Value} (h : Blk w b t cs) (o : Obj) : Blk (w.alloc o) b t cs := (Below.heap_alloc w o b h.lt).trans h
theorem Blk.new (w : World) (t : TypeId) (cs : Array Value) : Blk (w.alloc (.cells cs t)) w.heap.size t cs := heap_alloc_new w _
theorem Blk.drew {w : World} {b : Nat} {t : TypeId} {cs : Array Value} (h : Blk w b t cs) : Blk w.drew b t cs := h
theorem Blk.drewN {w : World} {b : Nat} {t : TypeId} {cs : Array Value} (h : Blk w b t cs) (n : Nat) : Blk (w.drewN n) b t cs := by
  induction n generalizing w with
  | zero => exact h
  | succ n ih => rw [← World.drew_drewN]; exact ih h.drew
theorem Blk.row {w : World} {b : Nat} {t : TypeId} {cs : Array Value} (h : Blk w b t cs) (cs' : Array Value) : Blk (w.setRow b cs') b t cs' := setRow_heap w b cs cs' t (0, 0) h
theorem Blk.rowFar {w : World} {b : Nat} {t : TypeId} {cs : Array Value} (h : Blk w b t cs) {g : Nat} (hg : g ≠ b) (cs' : Array Value) : Blk (w.setRow g cs') b t cs := (setRow_other w g b cs' (fun e => hg e.symm)).trans h
theorem Blk.below {w w' : World} {b : Nat} {t : TypeId} {cs : Array Value} (h : Blk w b t cs) {B : Nat} (hb : Below B w w') (hB : b < B) : Blk w' b t cs := (hb.block b hB).trans h

/-! ### Worlds that keep what they had -/
theorem below_drewN {B : Nat} {w W : World} (h : Below B w W) (n : Nat) : Below B w (W.drewN n) := ⟨h.os, h.tape, h.output, h.size, h.block⟩
theorem below_setRow {B : Nat} {w W : World} (h : Below B w W) {g : Nat} (hg : B ≤ g) (cs : Array Value) : Below B w (W.setRow g cs) :=
  h.trans ⟨rfl, rfl, rfl, by simp, fun k hk => setRow_other W g k cs (by omega)⟩
theorem below_then {B : Nat} {w w1 w2 : World} (h : Below B w w1) (hB : B ≤ w1.heap.size) (k : Below w1.heap.size w1 w2) : Below B w w2 := h.trans (k.mono hB)
theorem below_next {w w1 w2 : World} (h : Below w.heap.size w w1) (k : Below w1.heap.size w1 w2) : Below w.heap.size w w2 := h.trans (k.mono h.size)

theorem ret_int {k : IntKind} {a b : Int} (h : a = b) : Ending.returned (.int k a) = .returned (.int k b) := by rw [h]
theorem ret_bool {a b : Bool} (h : a = b) : Ending.returned (.bool a) = .returned (.bool b) := by rw [h]

/-- A place at which the walk stands still. -/
def Stop (p : Prop) : Prop := p
theorem stop_here {p : Prop} (h : Stop p) : p := h
theorem go_on {p : Prop} (h : p) : Stop p := h

/-! ### A world under a name of its own -/
theorem wp_gen {P : Program} {c : Code} {Q : Exit → Act → World → Prop} {a : Act} {w : World} (h : ∀ W, Hid (W = w) → Code.wp P c Q a W) : Code.wp P c Q a w := h w rfl
theorem calls_gen {P : Program} {f : FuncId} {args : Array Value} {R : Ending → World → Prop} {w : World} (h : ∀ W, Hid (W = w) → Calls P f args W R) : Calls P f args w R := h w rfl
theorem wpList_gen {P : Program} {ops : Array Oper} {l : List Oper} {Q : Exit → Act → World → Prop} {a : Act} {w : World} (h : ∀ W, Hid (W = w) → wpList P ops Q l a W) : wpList P ops Q l a w := h w rfl

/-! ### Rows of cells that are read; S: the blocks in which they may lie -/
def Row (S : Nat → Prop) (w : World) (A : Option Addr) (vs : List Value) : Prop :=
  0 < vs.length → ∃ b o, A = some ⟨b, o, none⟩ ∧ S b ∧ ∀ j v, vs[j]? = some v → w.cell? ⟨b, o + j, none⟩ = some v
section
variable {S S' : Nat → Prop} {w w' : World} {A : Option Addr} {vs : List Value}
theorem Row.none_ (S : Nat → Prop) (w : World) (A : Option Addr) : Row S w A [] := fun h => absurd h (Nat.lt_irrefl 0)
theorem Row.mono (h : Row S w A vs) (hS : ∀ b, S b → S' b) : Row S' w A vs := fun hp => by
  obtain ⟨b, o, e, hs, hc⟩ := h hp
  exact ⟨b, o, e, hS b hs, hc⟩
theorem Row.bound (h : Row S w A vs) : Row (fun b => S b ∧ b < w.heap.size) w A vs := fun hp => by
  obtain ⟨b, o, e, hs, hc⟩ := h hp
  refine ⟨b, o, e, ⟨hs, ?_⟩, hc⟩
  exact World.block_lt_of_cell? w ⟨b, o + 0, none⟩ (hc 0 vs[0] (by simp))
theorem Row.keep (h : Row S w A vs) (hk : ∀ b, b < w.heap.size → S b → w'.heap[b]? = w.heap[b]?) : Row S w' A vs := fun hp => by
  obtain ⟨b, o, e, ⟨hs, hlt⟩, hc⟩ := h.bound hp
  exact ⟨b, o, e, hs, fun j v hv => (World.cell?_of_block (hk b hlt hs)).trans (hc j v hv)⟩
theorem Row.below (h : Row S w A vs) (hb : Below w.heap.size w w') : Row S w' A vs := h.keep fun b hlt _ => hb.block b hlt
theorem Row.at_ (h : Row S w A vs) {j : Nat} {v : Value} (hv : vs[j]? = some v) : ∃ b o, A = some ⟨b, o, none⟩ ∧ S b ∧ w.cell? ⟨b, o + j, none⟩ = some v := by
  obtain ⟨b, o, e, hs, hc⟩ := h (by have := (List.getElem?_eq_some_iff.1 hv).1; omega)
  exact ⟨b, o, e, hs, hc j v hv⟩
theorem Row.take (h : Row S w A vs) (n : Nat) : Row S w A (vs.take n) := fun hp => by
  obtain ⟨b, o, e, hs, hc⟩ := h (by rw [List.length_take] at hp; omega)
  refine ⟨b, o, e, hs, fun j v hv => hc j v ?_⟩
  rw [List.getElem?_take] at hv
  split at hv
  · exact hv
  · cases hv
theorem addr_add (b o n : Nat) : (⟨b, o, none⟩ : Addr).add n = ⟨b, o + n, none⟩ := by unfold Addr.add; split <;> simp_all
theorem Row.drop (h : Row S w A vs) (n : Nat) : Row S w (A.map (·.add n)) (vs.drop n) := fun hp => by
  rw [List.length_drop] at hp
  obtain ⟨b, o, rfl, hs, hc⟩ := h (by omega)
  refine ⟨b, o + n, by simp [addr_add], hs, fun j v hv => ?_⟩
  rw [List.getElem?_drop] at hv
  rw [Nat.add_assoc]
  exact hc _ v hv
theorem Row.drop_if (h : Row S w A vs) (n c : Nat) (hc : vs.length ≤ c) : Row S w (if c = n then A else A.map (·.add n)) (vs.drop n) := by
  split
  · intro hp; rw [List.length_drop] at hp; omega
  · exact h.drop n
theorem Row.blk {b : Nat} {t : TypeId} {cs : Array Value} (h : Blk w b t cs) (hS : S b) {n : Nat} (hv : vs = cs.toList.take n) : Row S w (some ⟨b, 0, none⟩) vs := fun _ => by
  refine ⟨b, 0, rfl, hS, fun j v hj => ?_⟩
  subst hv
  rw [List.getElem?_take] at hj
  split at hj
  · rw [Nat.zero_add, h.cell]; simpa using hj
  · cases hj
end

/-! ### Slices -/
def u8s (l : List UInt8) : List Value := l.map fun x => .int .u8 (b8 x)
def u32s (l : List UInt32) : List Value := l.map fun x => .int .u32 (w32 x)
def ints (l : List Int) : List Value := l.map fun x => .int .i64 x
theorem u8s_length (l : List UInt8) : (u8s l).length = l.length := List.length_map ..
theorem u32s_length (l : List UInt32) : (u32s l).length = l.length := List.length_map ..
theorem ints_length (l : List Int) : (ints l).length = l.length := List.length_map ..
theorem u8s_get {l : List UInt8} {j : Nat} (h : j < l.length) : (u8s l)[j]? = some (.int .u8 (b8 l[j])) := by simp [u8s, h]
theorem u32s_get {l : List UInt32} {j : Nat} (h : j < l.length) : (u32s l)[j]? = some (.int .u32 (w32 l[j])) := by simp [u32s, h]
theorem ints_get {l : List Int} {j : Nat} (h : j < l.length) : (ints l)[j]? = some (.int .i64 l[j]) := by simp [ints, h]
def Sl (S : Nat → Prop) (w : World) (v : Value) (n : Nat) (vs : List Value) : Prop := ∃ A c, v = .slice A n c ∧ n ≤ c ∧ Row S w A vs
def Sl8 (S : Nat → Prop) (w : World) (v : Value) (l : List UInt8) : Prop := Sl S w v l.length (u8s l)
def Sl32 (S : Nat → Prop) (w : World) (v : Value) (l : List UInt32) : Prop := Sl S w v l.length (u32s l)
def SlI (S : Nat → Prop) (w : World) (v : Value) (l : List Int) : Prop := Sl S w v l.length (ints l)
section
variable {S S' : Nat → Prop} {w w' : World} {v : Value} {n : Nat} {vs : List Value}
theorem Sl.mono (h : Sl S w v n vs) (hS : ∀ b, S b → S' b) : Sl S' w v n vs := by obtain ⟨A, c, e, hc, hr⟩ := h; exact ⟨A, c, e, hc, hr.mono hS⟩
theorem Sl.below (h : Sl S w v n vs) (hb : Below w.heap.size w w') : Sl S w' v n vs := by obtain ⟨A, c, e, hc, hr⟩ := h; exact ⟨A, c, e, hc, hr.below hb⟩
theorem Sl.keep (h : Sl S w v n vs) (hk : ∀ b, b < w.heap.size → S b → w'.heap[b]? = w.heap[b]?) : Sl S w' v n vs := by obtain ⟨A, c, e, hc, hr⟩ := h; exact ⟨A, c, e, hc, hr.keep hk⟩
theorem Sl.bound (h : Sl S w v n vs) : Sl (fun b => S b ∧ b < w.heap.size) w v n vs := by obtain ⟨A, c, e, hc, hr⟩ := h; exact ⟨A, c, e, hc, hr.bound⟩
end
/-- The blocks from B on. -/
def From (B : Nat) : Nat → Prop := fun b => B ≤ b

/-! ### Slices that may be written -/
def Own (S : Nat → Prop) (w : World) (v : Value) (n : Nat) (vs : List Value) : Prop :=
  ∃ A c, v = .slice A n c ∧ n ≤ c ∧ (0 < vs.length → ∃ b o, A = some ⟨b, o, none⟩ ∧ S b ∧ ∀ j u, vs[j]? = some u → w.cell? ⟨b, o + j, none⟩ = some u ∧ w.frozen? ⟨b, o + j, none⟩ = false)
def Own8 (S : Nat → Prop) (w : World) (v : Value) (l : List UInt8) : Prop := Own S w v l.length (u8s l)
section
variable {S S' : Nat → Prop} {w w' : World} {v : Value} {n : Nat} {vs : List Value}
theorem Own.sl (h : Own S w v n vs) : Sl S w v n vs := by
  obtain ⟨A, c, e, hc, hr⟩ := h
  refine ⟨A, c, e, hc, fun hp => ?_⟩
  obtain ⟨b, o, e, hs, hx⟩ := hr hp
  exact ⟨b, o, e, hs, fun j u hu => (hx j u hu).1⟩
theorem Own8.sl {l : List UInt8} (h : Own8 S w v l) : Sl8 S w v l := Own.sl h
theorem Own.mono (h : Own S w v n vs) (hS : ∀ b, S b → S' b) : Own S' w v n vs := by
  obtain ⟨A, c, e, hc, hr⟩ := h
  refine ⟨A, c, e, hc, fun hp => ?_⟩
  obtain ⟨b, o, e, hs, hx⟩ := hr hp
  exact ⟨b, o, e, hS b hs, hx⟩
theorem Own.keep (h : Own S w v n vs) (hk : ∀ b, b < w.heap.size → S b → w'.heap[b]? = w.heap[b]?) : Own S w' v n vs := by
  obtain ⟨A, c, e, hc, hr⟩ := h
  refine ⟨A, c, e, hc, fun hp => ?_⟩
  obtain ⟨b, o, e, hs, hx⟩ := hr hp
  have hlt : b < w.heap.size := World.block_lt_of_cell? w ⟨b, o + 0, none⟩ (hx 0 vs[0] (by simp)).1
  exact ⟨b, o, e, hs, fun j u hu => ⟨(World.cell?_of_block (hk b hlt hs)).trans (hx j u hu).1, (World.frozen?_of_block (hk b hlt hs)).trans (hx j u hu).2⟩⟩
theorem Own.below (h : Own S w v n vs) (hb : Below w.heap.size w w') : Own S w' v n vs := h.keep fun b hlt _ => hb.block b hlt
theorem Own.of_row {base : Nat} {e : TypeId} (h : w.ownsRow base e 1 v n vs) : Own (From base) w v n vs := by
  have hl : vs.length = n := by have := h.1; omega
  rcases h.2 with ⟨rfl, rfl⟩ | ⟨g, cap, cur, rfl, hb, hg, hc, hm, hs, ht⟩
  · exact ⟨Option.none, 0, rfl, Nat.le_refl _, fun hp => by omega⟩
  · refine ⟨_, cap, rfl, hc, fun _ => ⟨g, 0, rfl, hb, fun j u hu => ?_⟩⟩
    rw [Nat.zero_add]
    refine ⟨?_, (show Blk w g e cur from hg).frozen j⟩
    rw [(show Blk w g e cur from hg).cell j]
    rw [← ht, List.getElem?_take] at hu
    split at hu
    · simpa using hu
    · cases hu
end
end Go.Ls

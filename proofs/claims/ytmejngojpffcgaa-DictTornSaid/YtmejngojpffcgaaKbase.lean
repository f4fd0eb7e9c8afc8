/- Contracts of crc, padded, record.length, record.Bytes, record.At and what these need. No condition beyond those each theorem names. -/
import Derived.WalkKit
import Derived.KernelRfl
import Derived.Outline
import Derived.Lib.Hide
import Derived.Deep.Draws
import Derived.Deep.QuietTactic
import Derived.BigQuiet
import Derived.Deep.MidRow
import Derived.Laws.CopyRow
import Derived.Test.YtmejngojpffcgaaProg
import Derived.Maps.AppendAt
import Derived.Lib.AppendStr
import Derived.Laws.OwnMore
import Derived.OwnWalk
import Derived.BigRegion
import Derived.WalkSpells
import Derived.Lib.SliceRun
import Derived.Laws.BytesArg
import Derived.Lib.SlBuf
import Derived.Lib.MakeNoZero
import Derived.Lib.AppendZeros
section
/- The program's data and functions as Lean's own: no Go in this text. -/
namespace Go.Ls

def crcStep (r : UInt32) : UInt32 := (r >>> 1) ^^^ (3988292384 &&& (-(r &&& 1)))
def crcSteps (r : UInt32) : Nat → UInt32
  | 0 => r
  | n + 1 => crcStep (crcSteps r n)
def crcNib (s : UInt32) : UInt32 := (s >>> 4) ^^^ crcSteps (s &&& 15) 4
def crcByte (s : UInt32) (x : UInt8) : UInt32 := crcNib (crcNib (s ^^^ x.toUInt32))
def crcAdd (s : UInt32) (l : List UInt8) : UInt32 := l.foldl crcByte s

def padN (n : Nat) : Nat := (n + 3) / 4 * 4
def recSize (n : Nat) : Nat := if n > 4080 then 0 else padN n + 12
def recHead (n : Nat) : List UInt8 := [UInt8.ofNat (n / 256), UInt8.ofNat n, ~~~(UInt8.ofNat (n / 256)), ~~~(UInt8.ofNat n)]
def recFill (p : List UInt8) : List UInt8 := p ++ List.replicate (padN p.length - p.length) 255
def recSum (p : List UInt8) : UInt32 := ~~~(crcAdd (crcAdd 4294967295 (recHead p.length)) (recFill p))
def big4 (s : UInt32) : List UInt8 := [(s >>> 24).toUInt8, (s >>> 16).toUInt8, (s >>> 8).toUInt8, s.toUInt8]
def recBody (p : List UInt8) : List UInt8 := recFill p ++ big4 (recSum p)
def zero4 : List UInt8 := [0, 0, 0, 0]
def recBytes (p : List UInt8) : List UInt8 := recHead p.length ++ (recBody p ++ zero4)
def isBlank (b : List UInt8) : Bool := !b.any (· != 255)
def recLen (b : List UInt8) : Option Nat :=
  if b.length < 4 then none
  else if b.getD 0 0 ^^^ b.getD 2 0 != 255 || b.getD 1 0 ^^^ b.getD 3 0 != 255 then none
  else
    let n := (b.getD 0 0).toNat * 256 + (b.getD 1 0).toNat
    if n > 4080 ∨ recSize n > b.length then none else some n
def lenInt : Option Nat → Int
  | none => -1
  | some n => n
structure Rec where
  place : Nat
  size : Nat
  kind : UInt8
  payload : List UInt8
def recAt (b : List UInt8) : Rec :=
  if isBlank b then ⟨0, b.length, 0, []⟩
  else match recLen b with
    | none => ⟨0, min 4 b.length, 3, []⟩
    | some n => if recBytes ((b.drop 4).take n) == b.take (recSize n) then ⟨0, recSize n, 1, (b.drop 4).take n⟩ else ⟨0, recSize n, 2, []⟩

theorem recFill_length (p : List UInt8) : (recFill p).length = padN p.length := by
  simp only [recFill, List.length_append, List.length_replicate, padN]; omega
theorem recBody_length (p : List UInt8) : (recBody p).length = padN p.length + 4 := by
  simp [recBody, recFill_length, big4]
theorem recBytes_length (p : List UInt8) (h : p.length ≤ 4080) : (recBytes p).length = recSize p.length := by
  simp only [recBytes, List.length_append, recBody_length, recHead, zero4, recSize, if_neg (show ¬ p.length > 4080 by omega), List.length_cons, List.length_nil]; omega
end Go.Ls
end

section
/- What all texts of this claim share: bytes and words as Lean's own numbers, rows of cells that are read, worlds that keep what they had. -/
namespace Go.Ls
open Go.RowKit

/-! ### Numbers -/
def b8 (x : UInt8) : Int := x.toNat
def w32 (x : UInt32) : Int := x.toNat
def h16 (x : UInt16) : Int := x.toNat
def q64 (x : UInt64) : Int := x.toNat

theorem b8_range (x : UInt8) : 0 ≤ b8 x ∧ b8 x ≤ 255 := by
  have := x.toNat_lt; unfold b8; omega
theorem w32_range (x : UInt32) : 0 ≤ w32 x ∧ w32 x ≤ 4294967295 := by
  have := x.toNat_lt; unfold w32; omega
theorem b8_inj {x y : UInt8} (h : b8 x = b8 y) : x = y := by
  unfold b8 at h; exact UInt8.toNat_inj.1 (by omega)
theorem w32_inj {x y : UInt32} (h : w32 x = w32 y) : x = y := by
  unfold w32 at h; exact UInt32.toNat_inj.1 (by omega)

theorem bits_u32 (x : UInt32) : BitVec.ofInt 32 (w32 x) = x.toBitVec := by
  unfold w32; apply BitVec.eq_of_toNat_eq; simp
theorem bits_u8 (x : UInt8) : BitVec.ofInt 8 (b8 x) = x.toBitVec := by
  unfold b8; apply BitVec.eq_of_toNat_eq; simp
theorem wrap_nat32 (x : UInt32) : IntKind.u32.wrap (x.toNat : Int) = w32 x := by
  rw [IntKind.wrap_u32]; unfold w32; have := x.toNat_lt; omega
theorem wrap_nat8 (x : UInt8) : IntKind.u8.wrap (x.toNat : Int) = b8 x := by
  rw [IntKind.wrap_u8]; unfold b8; have := x.toNat_lt; omega

@[go_sem] theorem and_w32 (a b : UInt32) : bits .and .u32 (w32 a) (w32 b) = w32 (a &&& b) := by
  show IntKind.u32.wrap ((BitVec.ofInt 32 (w32 a) &&& BitVec.ofInt 32 (w32 b)).toNat : Int) = _
  rw [bits_u32, bits_u32, ← wrap_nat32]; rfl
@[go_sem] theorem or_w32 (a b : UInt32) : bits .or .u32 (w32 a) (w32 b) = w32 (a ||| b) := by
  show IntKind.u32.wrap ((BitVec.ofInt 32 (w32 a) ||| BitVec.ofInt 32 (w32 b)).toNat : Int) = _
  rw [bits_u32, bits_u32, ← wrap_nat32]; rfl
@[go_sem] theorem xor_w32 (a b : UInt32) : bits .xor .u32 (w32 a) (w32 b) = w32 (a ^^^ b) := by
  show IntKind.u32.wrap ((BitVec.ofInt 32 (w32 a) ^^^ BitVec.ofInt 32 (w32 b)).toNat : Int) = _
  rw [bits_u32, bits_u32, ← wrap_nat32]; rfl
@[go_sem] theorem andNot_w32 (a b : UInt32) : bits .andNot .u32 (w32 a) (w32 b) = w32 (a &&& ~~~b) := by
  show IntKind.u32.wrap ((BitVec.ofInt 32 (w32 a) &&& ~~~BitVec.ofInt 32 (w32 b)).toNat : Int) = _
  rw [bits_u32, bits_u32, ← wrap_nat32]; rfl
@[go_sem] theorem and_b8 (a b : UInt8) : bits .and .u8 (b8 a) (b8 b) = b8 (a &&& b) := by
  show IntKind.u8.wrap ((BitVec.ofInt 8 (b8 a) &&& BitVec.ofInt 8 (b8 b)).toNat : Int) = _
  rw [bits_u8, bits_u8, ← wrap_nat8]; rfl
@[go_sem] theorem or_b8 (a b : UInt8) : bits .or .u8 (b8 a) (b8 b) = b8 (a ||| b) := by
  show IntKind.u8.wrap ((BitVec.ofInt 8 (b8 a) ||| BitVec.ofInt 8 (b8 b)).toNat : Int) = _
  rw [bits_u8, bits_u8, ← wrap_nat8]; rfl
@[go_sem] theorem xor_b8 (a b : UInt8) : bits .xor .u8 (b8 a) (b8 b) = b8 (a ^^^ b) := by
  show IntKind.u8.wrap ((BitVec.ofInt 8 (b8 a) ^^^ BitVec.ofInt 8 (b8 b)).toNat : Int) = _
  rw [bits_u8, bits_u8, ← wrap_nat8]; rfl
@[go_sem] theorem andNot_b8 (a b : UInt8) : bits .andNot .u8 (b8 a) (b8 b) = b8 (a &&& ~~~b) := by
  show IntKind.u8.wrap ((BitVec.ofInt 8 (b8 a) &&& ~~~BitVec.ofInt 8 (b8 b)).toNat : Int) = _
  rw [bits_u8, bits_u8, ← wrap_nat8]; rfl
@[go_sem] theorem and_w32_1 (a : UInt32) : bits .and .u32 (w32 a) 1 = w32 (a &&& 1) := and_w32 a 1
@[go_sem] theorem and_w32_15 (a : UInt32) : bits .and .u32 (w32 a) 15 = w32 (a &&& 15) := and_w32 a 15
@[go_sem] theorem and_poly (a : UInt32) : bits .and .u32 3988292384 (w32 a) = w32 (3988292384 &&& a) := and_w32 3988292384 a
@[go_sem] theorem not_w32 (b : UInt32) : bits .xor .u32 IntKind.u32.max (w32 b) = w32 (~~~b) := by
  rw [show IntKind.u32.max = w32 (4294967295 : UInt32) from rfl, xor_w32, show (4294967295 : UInt32) ^^^ b = ~~~b from by
    apply UInt32.toBitVec_inj.1; simp; exact BitVec.allOnes_xor (w := 32) (x := b.toBitVec)]
theorem shr_w32 (a : UInt32) (n : Nat) (h : n < 32) : w32 a / 2 ^ n = w32 (a >>> UInt32.ofNat n) := by
  unfold w32
  rw [UInt32.toNat_shiftRight, Nat.shiftRight_eq_div_pow]
  have : (UInt32.ofNat n).toNat % 32 = n := by simp; omega
  rw [this]; simp
/- A literal stands as a variable with an equation: simp's own tree of keys doesn't find the bare literal. -/
@[go_sem] theorem shr_w32_1 (a : UInt32) (n : Int) (h : n = 2) : w32 a / n = w32 (a >>> 1) := by subst h; exact shr_w32 a 1 (by omega)
@[go_sem] theorem shr_w32_4 (a : UInt32) (n : Int) (h : n = 16) : w32 a / n = w32 (a >>> 4) := by subst h; exact shr_w32 a 4 (by omega)
@[go_sem] theorem shr_w32_8 (a : UInt32) (n : Int) (h : n = 256) : w32 a / n = w32 (a >>> 8) := by subst h; exact shr_w32 a 8 (by omega)
@[go_sem] theorem shr_w32_16 (a : UInt32) (n : Int) (h : n = 65536) : w32 a / n = w32 (a >>> 16) := by subst h; exact shr_w32 a 16 (by omega)
@[go_sem] theorem shr_w32_24 (a : UInt32) (n : Int) (h : n = 16777216) : w32 a / n = w32 (a >>> 24) := by subst h; exact shr_w32 a 24 (by omega)
@[go_sem] theorem neg_w32 (a : UInt32) (n : Int) (h : n = 4294967296) : -w32 a % n = w32 (0 - a) := by
  subst h; unfold w32; rw [UInt32.toNat_sub]; have := a.toNat_lt; have h0 : (0 : UInt32).toNat = 0 := rfl; omega
theorem add_w32 (a b : UInt32) : IntKind.u32.wrap (w32 a + w32 b) = w32 (a + b) := by
  rw [IntKind.wrap_u32]; unfold w32; rw [UInt32.toNat_add]; simp
theorem mul_w32 (a b : UInt32) : IntKind.u32.wrap (w32 a * w32 b) = w32 (a * b) := by
  rw [IntKind.wrap_u32]; unfold w32; rw [UInt32.toNat_mul]; simp
theorem sub_w32 (a b : UInt32) : IntKind.u32.wrap (w32 a - w32 b) = w32 (a - b) := by
  rw [IntKind.wrap_u32]; unfold w32; rw [UInt32.toNat_sub]; have := a.toNat_lt; have := b.toNat_lt; omega

@[go_sem] theorem w32_nonneg (a : UInt32) : 0 ≤ w32 a := (w32_range a).1
@[go_sem] theorem b8_nonneg (a : UInt8) : 0 ≤ b8 a := (b8_range a).1
@[go_sem] theorem w32_and15_lt (a : UInt32) (n : Int) (h : n = 16) : w32 (a &&& 15) < n := by
  subst h; unfold w32; rw [UInt32.toNat_and, show (15 : UInt32).toNat = 2 ^ 4 - 1 from rfl, Nat.and_two_pow_sub_one_eq_mod]; omega
@[go_sem] theorem u32_of_b8 (x : UInt8) : IntKind.u32.wrap (b8 x) = w32 x.toUInt32 := by
  have := b8_range x; rw [IntKind.wrap_u32]; unfold w32; rw [UInt8.toNat_toUInt32]; unfold b8 at *; omega
@[go_sem] theorem int_of_b8 (x : UInt8) : IntKind.i64.wrap (b8 x) = b8 x := by
  have := b8_range x; rw [IntKind.wrap_i64]; omega
@[go_sem] theorem int_of_w32 (x : UInt32) : IntKind.i64.wrap (w32 x) = w32 x := by
  have := w32_range x; rw [IntKind.wrap_i64]; omega

@[go_sem] theorem u8_of_w32 (x : UInt32) : IntKind.u8.wrap (w32 x) = b8 x.toUInt8 := by
  rw [IntKind.wrap_u8]; unfold b8 w32; simp
@[go_sem] theorem not_b8 (b : UInt8) : bits .xor .u8 IntKind.u8.max (b8 b) = b8 (~~~b) := by
  rw [show IntKind.u8.max = b8 (255 : UInt8) from rfl, xor_b8, show (255 : UInt8) ^^^ b = ~~~b from by
    apply UInt8.toBitVec_inj.1; simp; exact BitVec.allOnes_xor (w := 8) (x := b.toBitVec)]
theorem u8_of_nat (n : Nat) : IntKind.u8.wrap (n : Int) = b8 (UInt8.ofNat n) := by
  rw [IntKind.wrap_u8]; unfold b8; simp

/-! ### Blocks -/
abbrev Blk (w : World) (b : Nat) (t : TypeId) (cs : Array Value) : Prop := w.heap[b]? = some (.cells cs t (0, 0))
theorem Blk.lt {w : World} {b : Nat} {t : TypeId} {cs : Array Value} (h : Blk w b t cs) : b < w.heap.size := (Array.getElem?_eq_some_iff.1 h).1
theorem Blk.cell {w : World} {b : Nat} {t : TypeId} {cs : Array Value} (h : Blk w b t cs) (j : Nat) : w.cell? ⟨b, j, none⟩ = cs[j]? := by simp [World.cell?, h]
theorem Blk.cellv {w : World} {b : Nat} {t : TypeId} {cs : Array Value} (h : Blk w b t cs) {j : Nat} {v : Value} (hv : cs[j]? = some v) : w.cell? ⟨b, j, none⟩ = some v := by rw [h.cell, hv]
theorem Blk.frozen {w : World} {b : Nat} {t : TypeId} {cs : Array Value} (h : Blk w b t cs) (j : Nat) : w.frozen? ⟨b, j, none⟩ = false := by simp [World.frozen?, h]
theorem Blk.set {w : World} {b : Nat} {t : TypeId} {cs : Array Value} (h : Blk w b t cs) (j : Nat) (u : Value) : Blk (w.setCell ⟨b, j, none⟩ u) b t (cs.setIfInBounds j u) := heap_setCell_same w b j cs t u h
theorem Blk.far {w : World} {b : Nat} {t : TypeId} {cs : Array Value} (h : Blk w b t cs) {p : Addr} (hp : b ≠ p.block) (u : Value) : Blk (w.setCell p u) b t cs := (heap_setCell_other w p b u hp).trans h
theorem Blk.alloc {w : World} {b : Nat} {t : TypeId} {cs : Array Value} (h : Blk w b t cs) (o : Obj) : Blk (w.alloc o) b t cs := (Below.heap_alloc w o b h.lt).trans h
theorem Blk.new (w : World) (t : TypeId) (cs : Array Value) : Blk (w.alloc (.cells cs t)) w.heap.size t cs := heap_alloc_new w _
theorem Blk.drew {w : World} {b : Nat} {t : TypeId} {cs : Array Value} (h : Blk w b t cs) : Blk w.drew b t cs := h
theorem Blk.drewN {w : World} {b : Nat} {t : TypeId} {cs : Array Value} (h : Blk w b t cs) (n : Nat) : Blk (w.drewN n) b t cs := by
  induction n generalizing w with
  | zero => exact h
  | succ n ih => rw [← World.drew_drewN]; exact ih h.drew
theorem Blk.row {w : World} {b : Nat} {t : TypeId} {cs : Array Value} (h : Blk w b t cs) (cs' : Array Value) : Blk (w.setRow b cs') b t cs' := setRow_heap w b cs cs' t (0, 0) h
theorem Blk.rowFar {w : World} {b : Nat} {t : TypeId} {cs : Array Value} (h : Blk w b t cs) {g : Nat} (hg : g ≠ b) (cs' : Array Value) : Blk (w.setRow g cs') b t cs := (setRow_other w g b cs' (fun e => hg e.symm)).trans h
theorem Blk.below {w w' : World} {b : Nat} {t : TypeId} {cs : Array Value} (h : Blk w b t cs) {B : Nat} (hb : Below B w w') (hB : b < B) : Blk w' b t cs := (hb.block b hB).trans h

/-! ### Worlds that keep what they had -/
theorem below_drewN {B : Nat} {w W : World} (h : Below B w W) (n : Nat) : Below B w (W.drewN n) := ⟨h.os, h.tape, h.output, h.size, h.block⟩
theorem below_setRow {B : Nat} {w W : World} (h : Below B w W) {g : Nat} (hg : B ≤ g) (cs : Array Value) : Below B w (W.setRow g cs) :=
  h.trans ⟨rfl, rfl, rfl, by simp, fun k hk => setRow_other W g k cs (by omega)⟩
theorem below_then {B : Nat} {w w1 w2 : World} (h : Below B w w1) (hB : B ≤ w1.heap.size) (k : Below w1.heap.size w1 w2) : Below B w w2 := h.trans (k.mono hB)
theorem below_next {w w1 w2 : World} (h : Below w.heap.size w w1) (k : Below w1.heap.size w1 w2) : Below w.heap.size w w2 := h.trans (k.mono h.size)

theorem ret_int {k : IntKind} {a b : Int} (h : a = b) : Ending.returned (.int k a) = .returned (.int k b) := by rw [h]
theorem ret_bool {a b : Bool} (h : a = b) : Ending.returned (.bool a) = .returned (.bool b) := by rw [h]

/-- A place at which the walk stands still. -/
def Stop (p : Prop) : Prop := p
theorem stop_here {p : Prop} (h : Stop p) : p := h
theorem go_on {p : Prop} (h : p) : Stop p := h

/-! ### A world under a name of its own -/
theorem wp_gen {P : Program} {c : Code} {Q : Exit → Act → World → Prop} {a : Act} {w : World} (h : ∀ W, Hid (W = w) → Code.wp P c Q a W) : Code.wp P c Q a w := h w rfl
theorem calls_gen {P : Program} {f : FuncId} {args : Array Value} {R : Ending → World → Prop} {w : World} (h : ∀ W, Hid (W = w) → Calls P f args W R) : Calls P f args w R := h w rfl
theorem wpList_gen {P : Program} {ops : Array Oper} {l : List Oper} {Q : Exit → Act → World → Prop} {a : Act} {w : World} (h : ∀ W, Hid (W = w) → wpList P ops Q l a W) : wpList P ops Q l a w := h w rfl

/-! ### Rows of cells that are read; S: the blocks in which they may lie -/
def Row (S : Nat → Prop) (w : World) (A : Option Addr) (vs : List Value) : Prop :=
  0 < vs.length → ∃ b o, A = some ⟨b, o, none⟩ ∧ S b ∧ ∀ j v, vs[j]? = some v → w.cell? ⟨b, o + j, none⟩ = some v
section
variable {S S' : Nat → Prop} {w w' : World} {A : Option Addr} {vs : List Value}
theorem Row.none_ (S : Nat → Prop) (w : World) (A : Option Addr) : Row S w A [] := fun h => absurd h (Nat.lt_irrefl 0)
theorem Row.mono (h : Row S w A vs) (hS : ∀ b, S b → S' b) : Row S' w A vs := fun hp => by
  obtain ⟨b, o, e, hs, hc⟩ := h hp
  exact ⟨b, o, e, hS b hs, hc⟩
theorem Row.bound (h : Row S w A vs) : Row (fun b => S b ∧ b < w.heap.size) w A vs := fun hp => by
  obtain ⟨b, o, e, hs, hc⟩ := h hp
  refine ⟨b, o, e, ⟨hs, ?_⟩, hc⟩
  exact World.block_lt_of_cell? w ⟨b, o + 0, none⟩ (hc 0 vs[0] (by simp))
theorem Row.keep (h : Row S w A vs) (hk : ∀ b, b < w.heap.size → S b → w'.heap[b]? = w.heap[b]?) : Row S w' A vs := fun hp => by
  obtain ⟨b, o, e, ⟨hs, hlt⟩, hc⟩ := h.bound hp
  exact ⟨b, o, e, hs, fun j v hv => (World.cell?_of_block (hk b hlt hs)).trans (hc j v hv)⟩
theorem Row.below (h : Row S w A vs) (hb : Below w.heap.size w w') : Row S w' A vs := h.keep fun b hlt _ => hb.block b hlt
theorem Row.at_ (h : Row S w A vs) {j : Nat} {v : Value} (hv : vs[j]? = some v) : ∃ b o, A = some ⟨b, o, none⟩ ∧ S b ∧ w.cell? ⟨b, o + j, none⟩ = some v := by
  obtain ⟨b, o, e, hs, hc⟩ := h (by have := (List.getElem?_eq_some_iff.1 hv).1; omega)
  exact ⟨b, o, e, hs, hc j v hv⟩
theorem Row.take (h : Row S w A vs) (n : Nat) : Row S w A (vs.take n) := fun hp => by
  obtain ⟨b, o, e, hs, hc⟩ := h (by rw [List.length_take] at hp; omega)
  refine ⟨b, o, e, hs, fun j v hv => hc j v ?_⟩
  rw [List.getElem?_take] at hv
  split at hv
  · exact hv
  · cases hv
theorem addr_add (b o n : Nat) : (⟨b, o, none⟩ : Addr).add n = ⟨b, o + n, none⟩ := by unfold Addr.add; split <;> simp_all
theorem Row.drop (h : Row S w A vs) (n : Nat) : Row S w (A.map (·.add n)) (vs.drop n) := fun hp => by
  rw [List.length_drop] at hp
  obtain ⟨b, o, rfl, hs, hc⟩ := h (by omega)
  refine ⟨b, o + n, by simp [addr_add], hs, fun j v hv => ?_⟩
  rw [List.getElem?_drop] at hv
  rw [Nat.add_assoc]
  exact hc _ v hv
theorem Row.drop_if (h : Row S w A vs) (n c : Nat) (hc : vs.length ≤ c) : Row S w (if c = n then A else A.map (·.add n)) (vs.drop n) := by
  split
  · intro hp; rw [List.length_drop] at hp; omega
  · exact h.drop n
theorem Row.blk {b : Nat} {t : TypeId} {cs : Array Value} (h : Blk w b t cs) (hS : S b) {n : Nat} (hv : vs = cs.toList.take n) : Row S w (some ⟨b, 0, none⟩) vs := fun _ => by
  refine ⟨b, 0, rfl, hS, fun j v hj => ?_⟩
  subst hv
  rw [List.getElem?_take] at hj
  split at hj
  · rw [Nat.zero_add, h.cell]; simpa using hj
  · cases hj
end

/-! ### Slices -/
def u8s (l : List UInt8) : List Value := l.map fun x => .int .u8 (b8 x)
def u32s (l : List UInt32) : List Value := l.map fun x => .int .u32 (w32 x)
def ints (l : List Int) : List Value := l.map fun x => .int .i64 x
theorem u8s_length (l : List UInt8) : (u8s l).length = l.length := List.length_map ..
theorem u32s_length (l : List UInt32) : (u32s l).length = l.length := List.length_map ..
theorem ints_length (l : List Int) : (ints l).length = l.length := List.length_map ..
theorem u8s_get {l : List UInt8} {j : Nat} (h : j < l.length) : (u8s l)[j]? = some (.int .u8 (b8 l[j])) := by simp [u8s, h]
theorem u32s_get {l : List UInt32} {j : Nat} (h : j < l.length) : (u32s l)[j]? = some (.int .u32 (w32 l[j])) := by simp [u32s, h]
theorem ints_get {l : List Int} {j : Nat} (h : j < l.length) : (ints l)[j]? = some (.int .i64 l[j]) := by simp [ints, h]
def Sl (S : Nat → Prop) (w : World) (v : Value) (n : Nat) (vs : List Value) : Prop := ∃ A c, v = .slice A n c ∧ n ≤ c ∧ Row S w A vs
def Sl8 (S : Nat → Prop) (w : World) (v : Value) (l : List UInt8) : Prop := Sl S w v l.length (u8s l)
def Sl32 (S : Nat → Prop) (w : World) (v : Value) (l : List UInt32) : Prop := Sl S w v l.length (u32s l)
def SlI (S : Nat → Prop) (w : World) (v : Value) (l : List Int) : Prop := Sl S w v l.length (ints l)
section
variable {S S' : Nat → Prop} {w w' : World} {v : Value} {n : Nat} {vs : List Value}
theorem Sl.mono (h : Sl S w v n vs) (hS : ∀ b, S b → S' b) : Sl S' w v n vs := by obtain ⟨A, c, e, hc, hr⟩ := h; exact ⟨A, c, e, hc, hr.mono hS⟩
theorem Sl.below (h : Sl S w v n vs) (hb : Below w.heap.size w w') : Sl S w' v n vs := by obtain ⟨A, c, e, hc, hr⟩ := h; exact ⟨A, c, e, hc, hr.below hb⟩
theorem Sl.keep (h : Sl S w v n vs) (hk : ∀ b, b < w.heap.size → S b → w'.heap[b]? = w.heap[b]?) : Sl S w' v n vs := by obtain ⟨A, c, e, hc, hr⟩ := h; exact ⟨A, c, e, hc, hr.keep hk⟩
theorem Sl.bound (h : Sl S w v n vs) : Sl (fun b => S b ∧ b < w.heap.size) w v n vs := by obtain ⟨A, c, e, hc, hr⟩ := h; exact ⟨A, c, e, hc, hr.bound⟩
end
/-- The blocks from B on. -/
def From (B : Nat) : Nat → Prop := fun b => B ≤ b

/-! ### Slices that may be written -/
def Own (S : Nat → Prop) (w : World) (v : Value) (n : Nat) (vs : List Value) : Prop :=
  ∃ A c, v = .slice A n c ∧ n ≤ c ∧ (0 < vs.length → ∃ b o, A = some ⟨b, o, none⟩ ∧ S b ∧ ∀ j u, vs[j]? = some u → w.cell? ⟨b, o + j, none⟩ = some u ∧ w.frozen? ⟨b, o + j, none⟩ = false)
def Own8 (S : Nat → Prop) (w : World) (v : Value) (l : List UInt8) : Prop := Own S w v l.length (u8s l)
section
variable {S S' : Nat → Prop} {w w' : World} {v : Value} {n : Nat} {vs : List Value}
theorem Own.sl (h : Own S w v n vs) : Sl S w v n vs := by
  obtain ⟨A, c, e, hc, hr⟩ := h
  refine ⟨A, c, e, hc, fun hp => ?_⟩
  obtain ⟨b, o, e, hs, hx⟩ := hr hp
  exact ⟨b, o, e, hs, fun j u hu => (hx j u hu).1⟩
theorem Own8.sl {l : List UInt8} (h : Own8 S w v l) : Sl8 S w v l := Own.sl h
theorem Own.mono (h : Own S w v n vs) (hS : ∀ b, S b → S' b) : Own S' w v n vs := by
  obtain ⟨A, c, e, hc, hr⟩ := h
  refine ⟨A, c, e, hc, fun hp => ?_⟩
  obtain ⟨b, o, e, hs, hx⟩ := hr hp
  exact ⟨b, o, e, hS b hs, hx⟩
theorem Own.keep (h : Own S w v n vs) (hk : ∀ b, b < w.heap.size → S b → w'.heap[b]? = w.heap[b]?) : Own S w' v n vs := by
  obtain ⟨A, c, e, hc, hr⟩ := h
  refine ⟨A, c, e, hc, fun hp => ?_⟩
  obtain ⟨b, o, e, hs, hx⟩ := hr hp
  have hlt : b < w.heap.size := World.block_lt_of_cell? w ⟨b, o + 0, none⟩ (hx 0 vs[0] (by simp)).1
  exact ⟨b, o, e, hs, fun j u hu => ⟨(World.cell?_of_block (hk b hlt hs)).trans (hx j u hu).1, (World.frozen?_of_block (hk b hlt hs)).trans (hx j u hu).2⟩⟩
theorem Own.below (h : Own S w v n vs) (hb : Below w.heap.size w w') : Own S w' v n vs := h.keep fun b hlt _ => hb.block b hlt
theorem Own.of_row {base : Nat} {e : TypeId} (h : w.ownsRow base e 1 v n vs) : Own (From base) w v n vs := by
  have hl : vs.length = n := by have := h.1; omega
  rcases h.2 with ⟨rfl, rfl⟩ | ⟨g, cap, cur, rfl, hb, hg, hc, hm, hs, ht⟩
  · exact ⟨Option.none, 0, rfl, Nat.le_refl _, fun hp => by omega⟩
  · refine ⟨_, cap, rfl, hc, fun _ => ⟨g, 0, rfl, hb, fun j u hu => ?_⟩⟩
    rw [Nat.zero_add]
    refine ⟨?_, (show Blk w g e cur from hg).frozen j⟩
    rw [(show Blk w g e cur from hg).cell j]
    rw [← ht, List.getElem?_take] at hu
    split at hu
    · simpa using hu
    · cases hu
end
end Go.Ls
end

section
namespace Go.Proofs.Ytmejngojpffcgaa
open Go.RowKit Go.Ls

set_option maxRecDepth 100000 in
set_option maxHeartbeats 400000 in
theorem crc_step (r : UInt32) (w : World) : Calls Try.prog 137 #[.int .u32 (w32 r)] w fun e w' => e = .returned (.int .u32 (w32 (crcStep r))) ∧ w = w' := by
  go_enter Try.func137, Try.ntmps137
  go_wp2
  go_ret
  exact ⟨rfl, rfl⟩
set_option maxRecDepth 100000 in
set_option maxHeartbeats 400000 in
theorem crc_steps (r : UInt32) (n : Nat) (hn : n < 1000) (w : World) : Calls Try.prog 132 #[.int .u32 (w32 r), .int .i64 n] w fun e w' => e = .returned (.int .u32 (w32 (crcSteps r n))) ∧ w = w' := by
  go_enter Try.func132, Try.ntmps132
  go_wp2
  go_loop [0, 6] (fun a i => ∃ k : Nat, k ≤ n ∧ a = .int .u32 (w32 (crcSteps r k)) ∧ i = .int .i64 k) (fun _ i => n - (intOf i).toNat)
  case atStart => exact ⟨0, Nat.zero_le _, rfl, rfl⟩
  case round =>
    obtain ⟨k, hk, rfl, rfl⟩ := hrel
    by_cases hlt : k < n
    · go_wp2_with (go_at_call 137; refine (crc_step _ _).mono ?_; rintro e w' ⟨rfl, rfl⟩)
      go_round
      case rel => exact ⟨k + 1, by omega, rfl, by go_num⟩
      case measure => simp [intOf]; omega
    · have : k = n := by omega
      subst this
      go_wp2
      go_ret
      exact ⟨rfl, rfl⟩
theorem crc_begin (w : World) : Calls Try.prog 109 #[] w fun e w' => e = .returned (.int .u32 (w32 4294967295)) ∧ w = w' := by
  go_enter Try.func109, Try.ntmps109
  go_wp2
  go_ret
  exact ⟨rfl, rfl⟩
theorem crc_end (r : UInt32) (w : World) : Calls Try.prog 107 #[.int .u32 (w32 r)] w fun e w' => e = .returned (.int .u32 (w32 (~~~r))) ∧ w = w' := by
  go_enter Try.func107, Try.ntmps107
  go_wp2
  go_ret
  exact ⟨rfl, rfl⟩

theorem crc_table1 (n : Nat) (w : World) : Calls Try.prog 131 #[.int .i64 n] w fun e w' => e = .returned (.int .u32 (w32 (crcSteps (UInt32.ofNat n) 4))) ∧ w = w' := by
  have hw : IntKind.u32.wrap (n : Int) = w32 (UInt32.ofNat n) := by
    rw [IntKind.wrap_u32]; unfold w32; simp
  go_enter Try.func131, Try.ntmps131
  go_wp2_with fail
  refine (crc_steps _ 4 (by omega) _).mono ?_
  rintro e w' ⟨rfl, rfl⟩
  go_wp2
  go_ret
  exact ⟨rfl, rfl⟩
def crcTab (k : Nat) : List Value := (List.range 16).map fun j => if j < k then .int .u32 (w32 (crcSteps (UInt32.ofNat j) 4)) else .int .u32 0
theorem crcTab_get (k j : Nat) (hj : j < 16) : (crcTab k)[j]? = some (if j < k then .int .u32 (w32 (crcSteps (UInt32.ofNat j) 4)) else .int .u32 0) := by simp [crcTab, hj]
theorem crcTab_one (k : Nat) : (crcTab k).toArray.all (·.oneCell') = true := all_oneCell_toArray fun v hv => by
  simp only [crcTab, List.mem_map] at hv
  obtain ⟨j, _, rfl⟩ := hv
  split <;> rfl
theorem crcTab_size (k : Nat) : (crcTab k).toArray.size = 16 := by simp [crcTab]
theorem crcTab_set (k : Nat) (hk : k < 16) : (crcTab k).toArray.setIfInBounds k (.int .u32 (w32 (crcSteps (UInt32.ofNat k) 4))) = (crcTab (k + 1)).toArray := by
  rw [List.setIfInBounds_toArray]
  congr 1
  apply List.ext_getElem?
  intro i
  rw [List.getElem?_set]
  by_cases hi : i < 16
  · rw [crcTab_get k i hi, crcTab_get (k + 1) i hi]
    by_cases h : k = i
    · subst h; simp [crcTab]; exact hk
    · rw [if_neg h]; congr 1
      by_cases h2 : i < k
      · rw [if_pos h2, if_pos (by omega)]
      · rw [if_neg h2, if_neg (by omega)]
  · rw [if_neg (by omega), List.getElem?_eq_none (by simp [crcTab]; omega), List.getElem?_eq_none (by simp [crcTab]; omega)]
set_option maxRecDepth 100000 in
set_option maxHeartbeats 400000 in
theorem crc_table (w : World) : Calls Try.prog 124 #[] w fun e w' => e = .returned (.agg (crcTab 16).toArray) ∧ Below w.heap.size w w' := by
  have hi : (Try.prog.info? 185).map (·.size) = some 16 := by kernel_rfl
  go_enter Try.func124, Try.ntmps124
  go_wp2_with fail
  go_loopw [3, 4] (fun a i wr => ∃ k : Nat, k ≤ 16 ∧ i = .int .i64 k ∧ Blk wr (w.heap.size + 1) 185 (crcTab k).toArray ∧ Blk wr w.heap.size 185 (crcTab 0).toArray ∧ Below w.heap.size w wr) (fun _ i _ => 16 - (intOf i).toNat)
  case atStart =>
    refine ⟨0, by omega, rfl, ?_, ?_, ((Below.refl _ _).alloc (by simp) _).alloc (by simp) _⟩
    · exact heap_alloc2_new _ _ _
    · exact heap_alloc2_old _ _ _
  case round =>
    obtain ⟨k, hk, rfl, hb, hb0, hB⟩ := hrel
    by_cases hlt : k < 16
    · have hc := hb.cellv (j := k) (by simpa using crcTab_get k k hlt)
      have hf := hb.frozen k
      have Hb := Lib.hid hb; clear hb
      have Hb0 := Lib.hid hb0; clear hb0
      have Hi := Lib.hid hi; clear hi
      go_wp2_with (go_at_call 131; refine (crc_table1 _ _).mono ?_; rintro e w' ⟨rfl, rfl⟩)
      go_roundw
      case rel => exact ⟨k + 1, by omega, by go_num, by rw [← crcTab_set k hlt]; exact Hb.out.set k _, Hb0.out.far (by simp) _, hB.setCell (p := ⟨w.heap.size + 1, k, none⟩) (by simp) _⟩
      case measure => simp [intOf]; omega
    · have : k = 16 := by omega
      subst this
      have Hb := Lib.hid hb; clear hb
      have Hb0 := Lib.hid hb0; clear hb0
      have Hi := Lib.hid hi; clear hi
      go_wp2_with (first | (refine wpList_load_row rfl 185 _ rfl (w.heap.size + 1) rfl 185 _ (0, 0) _ Hb.out Try.underlying185 rfl Hi.out ?_) | (refine wpList_store_row rfl 185 _ _ rfl w.heap.size (crcTab 16).toArray rfl rfl 185 _ Hb0.out Hi.out (by rw [crcTab_size, crcTab_size]) (crcTab_one 16) ?_))
      (try simp only [Exit.inBlock, Exit.then])
      refine bodyPost_ret (results_cell_row rfl _ _ w.heap.size 185 _ (0, 0) _ rfl (Hb0.out.row (crcTab 16).toArray) Try.underlying185 rfl Hi.out) rfl ⟨rfl, below_setRow hB (Nat.le_refl _) _⟩
theorem crcTab_at (a : UInt32) : (crcTab 16)[(w32 (a &&& 15)).toNat]? = some (.int .u32 (w32 (crcSteps (a &&& 15) 4))) := by
  have h := w32_and15_lt a 16 rfl
  have h0 := w32_nonneg (a &&& 15)
  rw [crcTab_get 16 _ (by omega), if_pos (by omega)]
  have : UInt32.ofNat (w32 (a &&& 15)).toNat = a &&& 15 := by
    unfold w32; simp
  rw [this]
set_option maxRecDepth 100000 in
set_option maxHeartbeats 400000 in
theorem crc_add (s : UInt32) {S : Nat → Prop} (v : Value) (l : List UInt8) (w : World) (hl : Sl8 S w v l) (hn : l.length ≤ 140737488355328) :
    Calls Try.prog 108 #[.int .u32 (w32 s), v] w fun e w' => e = .returned (.int .u32 (w32 (crcAdd s l))) ∧ Below w.heap.size w w' := by
  have hi : (Try.prog.info? 185).map (·.size) = some 16 := by kernel_rfl
  have Hi := Lib.hid hi; clear hi
  obtain ⟨A, c, rfl, hc, hr⟩ := hl
  go_enter Try.func108, Try.ntmps108
  go_wp2_with (first | (go_at_call 124; refine (crc_table _).mono ?_; rintro e w1 ⟨rfl, hB1⟩) | (refine wpList_store_row rfl 185 _ _ rfl w1.heap.size (crcTab 16).toArray rfl rfl 185 _ (heap_alloc_new _ _) Hi.out (by rw [crcTab_size]; rfl) (crcTab_one 16) ?_))
  refine wp_gen fun W HW => ?_
  have HT := Lib.hid (show Blk W w1.heap.size 185 (crcTab 16).toArray by rw [HW.out]; exact (Blk.new w1 _ _).row _)
  have HBW : Below w.heap.size w W := by rw [HW.out]; exact below_setRow (hB1.alloc hB1.size _) hB1.size _
  have HR := Lib.hid (hr.below HBW)
  clear HW hr
  have htab : ∀ a : UInt32, W.cell? ⟨w1.heap.size, (w32 (a &&& 15)).toNat, none⟩ = some (.int .u32 (w32 (crcSteps (a &&& 15) 4))) := fun a => HT.out.cellv (by simpa using crcTab_at a)
  go_loop [0, 7, 11] (fun a _ i => ∃ k : Nat, k ≤ l.length ∧ a = .int .u32 (w32 (crcAdd s (l.take k))) ∧ i = .int .i64 k) (fun _ _ i => l.length - (intOf i).toNat)
  case atStart => exact ⟨0, Nat.zero_le _, rfl, rfl⟩
  case round =>
    obtain ⟨k, hk, rfl, rfl⟩ := hrel
    by_cases hlt : k < l.length
    · obtain ⟨b, o, rfl, _, hcell⟩ := HR.out.at_ (u8s_get hlt)
      have HS := Lib.hid (show crcAdd s (l.take (k + 1)) = crcByte (crcAdd s (l.take k)) l[k] by rw [List.take_succ_eq_append_getElem hlt, crcAdd, List.foldl_append]; rfl)
      go_wp2
      go_round
      case rel => exact ⟨k + 1, by omega, by rw [HS.out]; rfl, by go_num⟩
      case measure => simp [intOf]; omega
    · go_wp2
      go_ret
      exact ⟨ret_int (by rw [List.take_of_length_le (by omega)]), HBW⟩
end Go.Proofs.Ytmejngojpffcgaa
end

section
/- append and make, as laws in one form for all element types. -/
namespace Go.Ls
open Go.RowKit

/-- What the table of types says of a slice type t, its element type e, the element's zero value, its cells and bytes. -/
structure ElemOK (P : Program) (t e : TypeId) (z : Value) (size bytes : Nat) : Prop where
  und : P.underlying t = some (.slice e)
  info : (P.info? e).map (fun i => (i.zero, i.size, i.bytes)) = some (some z, size, bytes)
  zs : z.cells.size = size
  pos : 0 < size

section
variable {P : Program} {t e : TypeId} {z : Value} {size bytes : Nat}
theorem own_none_src (E : ElemOK P t e z size bytes) (w : World) (base : Nat) (ty : TypeId) (v : Value) (n : Nat) (xs : List Value) (hown : w.ownsRow base e size v n xs) (c : Nat) :
    (Builtin.append_ #[t, t] ty #[v, .slice none 0 c]).run P w = .ok v w := by
  obtain ⟨i, hi, hz, hs, hb⟩ := info_parts E.info
  rcases hown.2 with ⟨rfl, rfl⟩ | ⟨g, cap, cur, rfl, hbg, hg, hnc, hcm, hcs, htake⟩
  · simp [Builtin.append_, run_underlying E.und, sizeOf, typeInfo, hi, Builtin.lenOf, Builtin.firstCells]
  · simp [Builtin.append_, run_underlying E.und, sizeOf, typeInfo, hi, Builtin.lenOf, Builtin.firstCells, hnc, storeCells]
theorem run_app (E : ElemOK P t e z size bytes) (w : World) (base : Nat) (ty : TypeId) (v : Value) (n : Nat) (xs : List Value) (hown : w.ownsRow base e size v n xs)
    {S : Nat → Prop} (A : Option Addr) (m c : Nat) (news : List Value) (hr : Row S w A news) (hl : news.length = m * size) (h1 : ∀ u ∈ news, u.oneCell' = true)
    (h63 : n + m ≤ 140737488355328) (hbytes : (n + m) * bytes ≤ 140737488355328) (hbase : base ≤ w.heap.size) :
    ∃ v' w', (Builtin.append_ #[t, t] ty #[v, .slice A m c]).run P w = .ok v' w' ∧ w'.ownsRow base e size v' (n + m) (xs ++ news) ∧ w.grownBy w' v.ownBlock ∧ (v'.ownBlock = v.ownBlock ∨ v'.ownBlock = some w.heap.size) := by
  obtain ⟨i, hi, hz, hs, hb⟩ := info_parts E.info
  rcases Nat.eq_zero_or_pos m with rfl | hm
  · have hn : news = [] := List.eq_nil_of_length_eq_zero (by simpa using hl)
    subst hn
    cases A with
    | none => exact ⟨v, w, own_none_src E w base ty v n xs hown c, by simpa using hown, ⟨rfl, rfl, rfl, Nat.le_refl _, fun _ _ _ => rfl⟩, .inl rfl⟩
    | some a =>
      obtain ⟨v', w', h⟩ := run_append_own_at (P := P) w base t ty e i z size bytes E.und hi hz hs hb E.zs E.pos v n xs hown a 0 c [] (by simp) (by simp) (by simp) (by simp only [maxLen]; omega) hbytes hbase
      exact ⟨v', w', h.1, h.2.1, h.2.2.1, h.2.2.2.2⟩
  · obtain ⟨b, o, rfl, _, hc⟩ := hr (by rw [hl]; exact Nat.mul_pos hm E.pos)
    obtain ⟨v', w', h⟩ := run_append_own_at (P := P) w base t ty e i z size bytes E.und hi hz hs hb E.zs E.pos v n xs hown ⟨b, o, Option.none⟩ m c news hl (fun j u hj => by rw [addr_add]; exact hc j u hj) h1 (by simp only [maxLen]; omega) hbytes hbase
    exact ⟨v', w', h.1, h.2.1, h.2.2.1, h.2.2.2.2⟩
end

theorem own_form {w : World} {base : Nat} {e : TypeId} {size n : Nat} {v : Value} {xs : List Value} (h : w.ownsRow base e size v n xs) : ∃ A c, v = .slice A n c ∧ n ≤ c := by
  rcases h.2 with ⟨rfl, rfl⟩ | ⟨g, cap, cur, rfl, _, _, hc, _⟩
  · exact ⟨Option.none, 0, rfl, Nat.le_refl _⟩
  · exact ⟨_, cap, rfl, hc⟩
section
variable {P : Program} {t e : TypeId} {z : Value} {size bytes : Nat} {ops : Array Oper} {rest : List Oper} {o : Oper} {a : Act} {w : World} {Q : Exit → Act → World → Prop}
/-- A builtin whose run is known. -/
theorem wpList_append_eq (hgd : o.guard = none) (s x : Operand) (t t' : TypeId) (ho : o.op = .call { callee := .builtin .append, args := #[s, x], argTypes := #[t, t'] }) (v u : Value) (hs : a.eval s = v) (hx : a.eval x = u)
    {v' : Value} {w' : World} (hr : (Builtin.append_ #[t, t'] o.type #[v, u]).run P w = .ok v' w') (h : wpList P ops Q rest (a.put o.dst v') w') : wpList P ops Q (o :: rest) a w := by
  refine wpList_plain hgd fun K hK => ?_
  unfold Oper.wp execOp
  simp only [ho, resolve, invoke, builtin, Sem.run_bind, Sem.run_pure, Result.andThen_ok, List.map_toArray, List.map_cons, List.map_nil, hs, hx, hr]
  exact hK _ _ h
theorem wpList_app (E : ElemOK P t e z size bytes) (hgd : o.guard = none) (s x : Operand) (ho : o.op = .call { callee := .builtin .append, args := #[s, x], argTypes := #[t, t] }) (base : Nat) (v : Value) (n : Nat) (xs : List Value) (hs : a.eval s = v) (hown : w.ownsRow base e size v n xs)
    {S : Nat → Prop} (A : Option Addr) (m c : Nat) (news : List Value) (hx : a.eval x = .slice A m c) (hr : Row S w A news) (hl : news.length = m * size) (h1 : ∀ u ∈ news, u.oneCell' = true)
    (N : Nat) (hN : N = n + m) (ys : List Value) (hys : ys = xs ++ news) (h63 : N ≤ 140737488355328) (hbytes : N * bytes ≤ 140737488355328) (hbase : base ≤ w.heap.size)
    (h : ∀ A' c' w', Hid (w'.ownsRow base e size (.slice A' N c') N ys) → Hid (w.grownBy w' v.ownBlock) → Hid ((Value.slice A' N c').ownBlock = v.ownBlock ∨ (Value.slice A' N c').ownBlock = some w.heap.size) → wpList P ops Q rest (a.put o.dst (.slice A' N c')) w') : wpList P ops Q (o :: rest) a w := by
  subst hN; subst hys
  obtain ⟨v', w', hrun, h2, h3, h4⟩ := run_app E w base o.type v n xs hown A m c news hr hl h1 h63 hbytes hbase
  obtain ⟨A', c', rfl, _⟩ := own_form h2
  exact wpList_append_eq hgd s x t t ho v _ hs hx hrun (h A' c' w' h2 h3 h4)
end
theorem one8 (l : List UInt8) : ∀ u ∈ u8s l, u.oneCell' = true := fun u hu => by
  simp only [u8s, List.mem_map] at hu; obtain ⟨x, _, rfl⟩ := hu; rfl
theorem one32 (l : List UInt32) : ∀ u ∈ u32s l, u.oneCell' = true := fun u hu => by
  simp only [u32s, List.mem_map] at hu; obtain ⟨x, _, rfl⟩ := hu; rfl
theorem oneInts (l : List Int) : ∀ u ∈ ints l, u.oneCell' = true := fun u hu => by
  simp only [ints, List.mem_map] at hu; obtain ⟨x, _, rfl⟩ := hu; rfl
theorem u8s_append (l m : List UInt8) : u8s (l ++ m) = u8s l ++ u8s m := List.map_append ..
theorem u32s_append (l m : List UInt32) : u32s (l ++ m) = u32s l ++ u32s m := List.map_append ..
theorem ints_append (l m : List Int) : ints (l ++ m) = ints l ++ ints m := List.map_append ..
/-- A new empty slice literal. -/
theorem own_empty (w : World) (base : Nat) (e : TypeId) (size : Nat) (hb : base ≤ w.heap.size) : (w.alloc (.cells #[] e)).ownsRow base e size (.slice (some ⟨w.heap.size, 0, none⟩) 0 0) 0 [] :=
  World.ownsRow_made w #[] 0 hb (Nat.zero_le _) (by simp)
theorem own_below {w w1 : World} {base : Nat} {e : TypeId} {size n : Nat} {v : Value} {xs : List Value} (h : w.ownsRow base e size v n xs) (hb : Below w.heap.size w w1) : w1.ownsRow base e size v n xs :=
  h.kept ⟨hb.os, hb.tape, hb.output, hb.size, fun k hk _ => hb.block k hk⟩ (row := Option.none) (by cases v.ownBlock <;> simp)
theorem own_lower {w : World} {base base' : Nat} {e : TypeId} {size n : Nat} {v : Value} {xs : List Value} (h : w.ownsRow base e size v n xs) (hb : base' ≤ base) : w.ownsRow base' e size v n xs := by
  refine ⟨h.1, ?_⟩
  rcases h.2 with h2 | ⟨g, cap, cur, h2, h3, h4⟩
  · exact .inl h2
  · exact .inr ⟨g, cap, cur, h2, Nat.le_trans hb h3, h4⟩
theorem below_grown {B : Nat} {a w w' : World} {row : Option Nat} (h : Below B a w) (hg : w.grownBy w' row) (hB : B ≤ w.heap.size) (hr : ∀ k, row = some k → B ≤ k) : Below B a w' := h.grown hg hB hr
end Go.Ls
end

section
namespace Go.Proofs.Ytmejngojpffcgaa
open Go.RowKit Go.Ls

theorem elem8 : ElemOK Try.prog 27 5 (.int .u8 0) 1 1 := ⟨Try.underlying27, by kernel_rfl, rfl, by omega⟩
/-- A new slice of bytes that may grow, and nothing else that was there is another one. -/
def RetRow8 (w : World) (l : List UInt8) (e : Ending) (w' : World) : Prop := (∃ v, e = .returned v ∧ w'.ownsRow w.heap.size 5 1 v l.length (u8s l)) ∧ Below w.heap.size w w'
set_option maxRecDepth 100000 in
set_option maxHeartbeats 400000 in
theorem clone8 {S : Nat → Prop} (v : Value) (l : List UInt8) (w : World) (hl : Sl8 S w v l) (hn : l.length ≤ 140737488355328) :
    Calls Try.prog 63 #[v] w (RetRow8 w l) := by
  obtain ⟨A, c, rfl, hc, hr⟩ := hl
  have heq := fun (w : World) => Lib.run_eql_slice_nil (P := Try.prog) w 27 5 A l.length c 0 0 Try.underlying27
  cases A with
  | none =>
    have h0 : l = [] := by
      cases l with
      | nil => rfl
      | cons x l => obtain ⟨b, o, e, _⟩ := hr (by simp [u8s]); cases e
    subst h0
    simp only [List.length_nil] at *
    go_enter Try.func63, Try.ntmps63
    go_wp2
    go_ret
    exact ⟨⟨_, rfl, World.ownsRow_nil _ _ _ _⟩, Below.refl _ _⟩
  | some a =>
    have Hr := Lib.hid hr
    clear hr
    go_enter Try.func63, Try.ntmps63
    go_wp2_with (at_builtin; go_must (refine wpList_app elem8 rfl _ _ rfl w.heap.size _ 0 [] rfl (own_empty _ _ _ _ (Nat.le_refl _)) (some a) l.length c (u8s l) rfl (Hr.out.below ((Below.refl _ _).alloc (Nat.le_refl _) _)) (by rw [u8s_length, Nat.mul_one]) (one8 l) l.length (by omega) (u8s l) rfl (by omega) (by omega) (by simp) ?_); intro A1 c1 w1 ho1 hg1 _)
    go_ret
    refine ⟨⟨_, rfl, ho1.out⟩, ?_⟩
    · exact below_grown ((Below.refl _ _).alloc (Nat.le_refl _) _) hg1.out (by simp) (fun k hk => by cases hk; exact Nat.le_refl _)
set_option maxRecDepth 100000 in
theorem str_of_u8s {S : Nat → Prop} {w : World} {A : Option Addr} {l : List UInt8} (hr : Row S w A (u8s l)) (c : Nat) : (convert 27 9 (.slice A l.length c)).run Try.prog w = .ok (.string ⟨l.toArray⟩) w := by
  rcases Nat.eq_zero_or_pos l.length with h0 | h0
  · have : l = [] := List.eq_nil_of_length_eq_zero h0
    subst this
    rw [run_convert_bytes_string w _ _ 5 A _ c Try.underlying27 Try.underlying5 Try.underlying9]
    cases A with
    | none => simp [Conv.bytesToString]; rfl
    | some a => simp [Conv.bytesToString, loadCells, loadCellsFrom]; rfl
  · obtain ⟨b, o, rfl, _, hc⟩ := hr (by rw [u8s_length]; exact h0)
    have := run_convert_bytes_arg w 27 5 Try.underlying27 Try.underlying5 b o l.length c (l.map b8) (by simp) (fun i hi => by
      rw [hc i (.int .u8 (b8 l[i])) (u8s_get hi)]
      simp [List.getD, hi]) 9 Try.underlying9
    rw [this]
    congr 3
    unfold strOfNums
    congr 2
    rw [List.map_map]
    conv => rhs; rw [← List.map_id l]
    apply List.map_congr_left
    intro x _
    simp [b8]
set_option maxRecDepth 100000 in
set_option maxHeartbeats 400000 in
theorem bytes_equal {S S' : Nat → Prop} (v v' : Value) (l l' : List UInt8) (w : World) (hl : Sl8 S w v l) (hl' : Sl8 S' w v' l') :
    Calls Try.prog 118 #[v, v'] w fun e w' => e = .returned (.bool (l == l')) ∧ w = w' := by
  obtain ⟨A, c, rfl, hc, hr⟩ := hl
  obtain ⟨A', c', rfl, hc', hr'⟩ := hl'
  have h1 := str_of_u8s hr c
  have h2 := str_of_u8s hr' c'
  have Hr := Lib.hid hr; clear hr
  have Hr' := Lib.hid hr'; clear hr'
  go_enter Try.func118, Try.ntmps118
  go_wp2
  go_ret
  exact ⟨rfl, rfl⟩
def idx8 (p : UInt8 → Bool) (l : List UInt8) : Int := if l.any p then (l.findIdx p : Int) else -1
/-- What a closure says of a byte, in a world that stays. -/
def Pred8 (w : World) (fv : Value) (p : UInt8 → Bool) : Prop := ∃ f cap, fv = .func (.func f) #[] cap ∧ (∀ args W, (callFunc f args).run Try.prog W = .ok (.enter f args) W) ∧ ∀ x : UInt8, Calls Try.prog f (#[.int .u8 (b8 x)] ++ cap) w fun e w' => e = .returned (.bool (p x)) ∧ w = w'
set_option maxRecDepth 100000 in
set_option maxHeartbeats 400000 in
theorem index8 {S : Nat → Prop} (v : Value) (l : List UInt8) (w : World) (hl : Sl8 S w v l) (hn : l.length ≤ 140737488355328) (fv : Value) (p : UInt8 → Bool) (hp : Pred8 w fv p) :
    Calls Try.prog 133 #[v, fv] w fun e w' => e = .returned (.int .i64 (idx8 p l)) ∧ w = w' := by
  obtain ⟨A, c, rfl, hc, hr⟩ := hl
  obtain ⟨f, cap, rfl, hcf, hp⟩ := hp
  have Hr := Lib.hid hr; clear hr
  have Hp := Lib.hid hp; clear hp
  go_enter Try.func133, Try.ntmps133
  go_wp2
  go_loop [5, 8] (fun _ i => ∃ k : Nat, k ≤ l.length ∧ i = .int .i64 k ∧ Hid (∀ j x, l[j]? = some x → j < k → p x = false)) (fun _ i => l.length - (intOf i).toNat)
  case atStart => exact ⟨0, Nat.zero_le _, rfl, fun j x _ h => by omega⟩
  case round =>
    obtain ⟨k, hk, rfl, hno⟩ := hrel
    by_cases hlt : k < l.length
    · obtain ⟨b, o, rfl, _, hcell⟩ := Hr.out.at_ (u8s_get hlt)
      have HX := Hp.out l[k]
      cases hpx : p l[k] with
      | false =>
        rw [hpx] at HX
        have Hpx := Lib.hid hpx; clear hpx
        have HX' := Lib.hid HX; clear HX
        go_wp2_with (first | (refine HX'.out.mono ?_; rintro e w' ⟨rfl, rfl⟩))
        go_round
        case rel => exact ⟨k + 1, by omega, by go_num, fun j x hj h => by
          rcases Nat.lt_or_ge j k with h' | h'
          · exact hno.out j x hj h'
          · have : j = k := by omega
            subst this
            rw [List.getElem?_eq_getElem hlt] at hj
            cases hj
            exact Hpx.out⟩
        case measure => simp [intOf]; omega
      | true =>
        rw [hpx] at HX
        have Hpx := Lib.hid hpx; clear hpx
        have HX' := Lib.hid HX; clear HX
        go_wp2_with (first | (refine HX'.out.mono ?_; rintro e w' ⟨rfl, rfl⟩))
        go_ret
        refine ⟨ret_int ?_, rfl⟩
        have h1 : l.any p = true := List.any_eq_true.2 ⟨l[k], List.getElem_mem hlt, Hpx.out⟩
        rw [idx8, if_pos h1]
        congr 1
        refine (List.findIdx_eq hlt |>.2 ⟨Hpx.out, fun j hj => ?_⟩).symm
        simpa using hno.out j l[j] (by simp) hj
    · have : k = l.length := by omega
      subst this
      go_wp2
      go_ret
      refine ⟨ret_int ?_, rfl⟩
      have h1 : l.any p = false := by
        rw [List.any_eq_false]
        intro x hx
        obtain ⟨j, hj, rfl⟩ := List.mem_iff_getElem.1 hx
        simp [hno.out j l[j] (by simp) hj]
      rw [idx8, h1]
      rfl
set_option maxRecDepth 100000 in
theorem contains8 {S : Nat → Prop} (v : Value) (l : List UInt8) (w : World) (hl : Sl8 S w v l) (hn : l.length ≤ 140737488355328) (fv : Value) (p : UInt8 → Bool) (hp : Pred8 w fv p) :
    Calls Try.prog 128 #[v, fv] w fun e w' => e = .returned (.bool (l.any p)) ∧ w = w' := by
  have H := index8 v l w hl hn fv p hp
  go_enter Try.func128, Try.ntmps128
  cases h : l.any p
  all_goals
    rw [idx8, h] at H
    have H' := Lib.hid H; clear H
    have Hh := Lib.hid h; clear h
    go_wp2_with (go_at_call 133; refine H'.out.mono ?_; rintro e w' ⟨rfl, rfl⟩)
    go_ret
    exact ⟨ret_bool (by simp), rfl⟩
set_option maxRecDepth 100000 in
theorem blank1 (x : UInt8) (w : World) : Calls Try.prog 129 #[.int .u8 (b8 x)] w fun e w' => e = .returned (.bool (x != 255)) ∧ w = w' := by
  go_enter Try.func129, Try.ntmps129
  have h : (b8 x != 255) = (x != 255) := by
    by_cases h : x = 255
    · subst h; rfl
    · have : b8 x ≠ 255 := fun e => h (b8_inj (y := 255) e)
      have e1 : (b8 x == 255) = false := beq_eq_false_iff_ne.2 this
      have e2 : (x == 255) = false := beq_eq_false_iff_ne.2 h
      simp only [bne, e1, e2]
  go_wp2
  go_ret
  exact ⟨rfl, rfl⟩
theorem blank1_pred (w : World) : Pred8 w (.func (.func 129) #[] #[]) (· != 255) := ⟨_, _, rfl, fun args W => by go_simp, fun x => blank1 x w⟩
set_option maxRecDepth 100000 in
theorem record_blank {S : Nat → Prop} (v : Value) (l : List UInt8) (w : World) (hl : Sl8 S w v l) (hn : l.length ≤ 140737488355328) :
    Calls Try.prog 117 #[v] w fun e w' => e = .returned (.bool (!l.any (· != 255))) ∧ w = w' := by
  go_enter Try.func117, Try.ntmps117
  go_wp2_with (go_at_call 128; refine (contains8 v l _ hl hn _ _ (blank1_pred _)).mono ?_; rintro e w' ⟨rfl, rfl⟩)
  go_ret
  exact ⟨rfl, rfl⟩
end Go.Proofs.Ytmejngojpffcgaa
end

section
namespace Go.Proofs.Ytmejngojpffcgaa
open Go.RowKit Go.Ls

theorem mask_one : bits .and .u64 1 4294967295 = 1 := by decide
theorem mask_small (n : Nat) (hn : n < 1000000) : bits .and .u64 (n : Int) 4294967295 = n := by
  have h := bits_mask .u64 63 (by decide) (fun n h0 h1 => by simp [IntKind.wrap, IntKind.bits, IntKind.signed]; omega) 32 (by decide) (n : Int) (by omega) (by omega)
  rw [show (4294967295 : Int) = 2 ^ 32 - 1 by decide, h]; omega
theorem u64_in (n : Nat) (hn : n < 1000000) : IntKind.u64.wrap (n : Int) = n := by
  simp [IntKind.wrap, IntKind.bits, IntKind.signed]; omega
theorem mask_zero : bits .and .u64 0 4294967295 = 0 := by decide
theorem u64_zero : IntKind.u64.wrap 0 = 0 := by decide
set_option maxRecDepth 100000 in
set_option maxHeartbeats 400000 in
theorem bits_mul64_one (n : Nat) (hn : n < 1000000) (w : World) : Calls Try.prog 106 #[.int .u64 1, .int .u64 n] w fun e w' => e = .returned (.tuple #[.int .u64 0, .int .u64 n]) ∧ w = w' := by
  have h1 := mask_one
  have h2 := mask_small n hn
  have h3 : (n : Int) / 4294967296 = 0 := by omega
  have h4 := u64_in n hn
  have h5 := mask_zero
  have h6 := u64_zero
  go_enter Try.func106, Try.ntmps106
  go_wp2
  go_ret2
  exact ⟨rfl, rfl⟩
set_option maxRecDepth 100000 in
set_option maxHeartbeats 400000 in
theorem bits_mul_one (n : Nat) (hn : n < 1000000) (w : World) : Calls Try.prog 86 #[.int .u64 1, .int .u64 n] w fun e w' => e = .returned (.tuple #[.int .u64 0, .int .u64 n]) ∧ w = w' := by
  go_enter Try.func86, Try.ntmps86
  go_wp2_with (go_at_call 106; refine (bits_mul64_one n hn _).mono ?_; rintro e w' ⟨rfl, rfl⟩)
  go_ret2
  exact ⟨rfl, rfl⟩
theorem makeNoZero_run (n : Nat) (hn : n < 1000000) (w : World) : ∃ cs : Array Value, n ≤ cs.size ∧ (callFunc 87 #[.int .i64 (n : Int)]).run Try.prog w = .ok (.value (.slice (some ⟨w.heap.size, 0, none⟩) n cs.size)) ((w.alloc (.cells cs 5)).drewN 2) := by
  obtain ⟨cs, hrunM, hle, _⟩ := Lib.run_makeNoZero (P := Try.prog) w #[3] 27 5 Try.underlying27 n (by omega)
  refine ⟨cs, hle, ?_⟩
  rw [run_callFunc_extern Try.func87 (by kernel_rfl) (by kernel_rfl) (by kernel_rfl) (e := Extern.BytealgMakeNoZero.makeNoZero #[3] #[27]) (by kernel_rfl), hrunM]
  rfl
def RetOwn8 (S : Nat → Prop) (w : World) (l : List UInt8) (e : Ending) (w' : World) : Prop := (∃ v, e = .returned v ∧ Own8 S w' v l) ∧ Below w.heap.size w w'
theorem copy_rep {P : Program} (w0 wr : World) (h N k m : Nat) (x : UInt8) (t ty e : TypeId) (hu : P.underlying t = some (.slice e)) (hs : (P.info? e).map (·.size) = some 1)
    (hb : Lib.Buf w0 wr h N (List.replicate k x)) (hk : k < N) (hm : m ≤ k) :
    ∃ wr', (Builtin.copy_ #[t, t] ty #[.slice (some ⟨h, k, none⟩) (N - k) (N - k), .slice (some ⟨h, 0, none⟩) m N]).run P wr = .ok (.int .i64 ((min m (N - k) : Nat) : Int)) wr' ∧ Lib.Buf w0 wr' h N (List.replicate (k + min m (N - k)) x) := by
  obtain ⟨q, hq⟩ : ∃ q, min m (N - k) = q := ⟨_, rfl⟩
  have hq1 : q ≤ m := by omega
  have hq2 : k + q ≤ N := by omega
  have hr := run_copy_cells (P := P) wr t t ty e h k (N - k) (N - k) ⟨h, 0, none⟩ m N (List.replicate q (Value.int .u8 (x.toNat : Int))) hu hs (by rw [List.length_replicate]; exact hq.symm)
    (fun j u hj => by
      obtain ⟨hlt, he⟩ := List.getElem?_eq_some_iff.1 hj
      rw [List.length_replicate] at hlt
      rw [List.getElem_replicate] at he
      rw [addr_add, Nat.zero_add, ← he]
      exact hb.holds j x (by rw [List.getElem?_replicate, if_pos (by omega)]))
    (fun j hj => by rw [List.length_replicate] at hj; exact hb.there _ (by omega)) (fun j hj => by rw [List.length_replicate] at hj; exact hb.free _ (by omega))
    (fun u hu' => by rw [List.mem_replicate] at hu'; rw [hu'.2]; rfl)
  rw [List.length_replicate] at hr
  rw [hq]
  refine ⟨_, hr, ?_⟩
  have hin := World.cell?_setCells_in h (List.replicate q (Value.int .u8 (x.toNat : Int))) k wr (fun j hj => by rw [List.length_replicate] at hj; exact hb.there _ (by omega))
  have hout := World.cell?_setCells_out h (List.replicate q (Value.int .u8 (x.toNat : Int))) k wr
  have hcell : ∀ j, j < N → ((wr.setCells h k (List.replicate q (Value.int .u8 (x.toNat : Int)))).cell? ⟨h, j, none⟩).isSome = true ∧ (j < k + q → (wr.setCells h k (List.replicate q (Value.int .u8 (x.toNat : Int)))).cell? ⟨h, j, none⟩ = some (.int .u8 (x.toNat : Int))) := by
    intro j hj
    by_cases h1 : k ≤ j ∧ j < k + q
    · obtain ⟨d, rfl⟩ : ∃ d, j = k + d := ⟨j - k, by omega⟩
      have := hin d (by rw [List.length_replicate]; omega)
      rw [List.getElem_replicate] at this
      exact ⟨by rw [this]; rfl, fun _ => this⟩
    · have := hout ⟨h, j, none⟩ (fun _ _ => by rw [List.length_replicate]; show j < _ ∨ _ ≤ j; omega)
      rw [this]
      exact ⟨hb.there j hj, fun hlt => hb.holds j x (by rw [List.getElem?_replicate, if_pos (by omega)])⟩
  refine ⟨Lib.below_setCells h (Nat.le_refl _) _ _ hb.below, fun j hj => (hcell j hj).1, fun j hj => by rw [World.frozen?_setCells]; exact hb.free j hj, fun j y hy => ?_, by rw [List.length_replicate]; exact hq2⟩
  rw [List.getElem?_replicate] at hy
  split at hy
  · cases hy; exact (hcell j (by omega)).2 (by omega)
  · cases hy
theorem buf_drew {w0 wr : World} {h N : Nat} {l : List UInt8} (hb : Lib.Buf w0 wr h N l) : Lib.Buf w0 wr.drew h N l := ⟨hb.below.drew, hb.there, hb.free, hb.holds, hb.fits⟩
theorem own_buf {w0 wr : World} {h N : Nat} {l : List UInt8} (hb : Lib.Buf w0 wr h N l) (hl : l.length = N) (S : Nat → Prop) (hS : S h) : Own8 S wr (.slice (some ⟨h, 0, none⟩) N N) l := by
  subst hl
  refine ⟨_, _, rfl, Nat.le_refl _, fun _ => ⟨h, 0, rfl, hS, fun j u hu => ?_⟩⟩
  rw [Nat.zero_add]
  simp only [u8s, List.getElem?_map, Option.map_eq_some_iff] at hu
  obtain ⟨y, hy, rfl⟩ := hu
  exact ⟨hb.holds j y hy, hb.free j (List.getElem?_eq_some_iff.1 hy).1⟩
set_option maxRecDepth 100000 in
set_option maxHeartbeats 800000 in
theorem bytes_repeat {S : Nat → Prop} (x : UInt8) (n : Nat) (h0 : 0 < n) (hn : n < 1000000) (v : Value) (w : World) (hv : Sl8 S w v [x]) :
    Calls Try.prog 49 #[v, .int .i64 n] w (RetOwn8 (From w.heap.size) w (List.replicate n x)) := by
  obtain ⟨A, c, rfl, hc, hr⟩ := hv
  obtain ⟨b, o, rfl, _, hcell⟩ := hr.at_ (j := 0) (u8s_get (l := [x]) (by simp))
  simp only [List.length_singleton] at *
  obtain ⟨cs, hle, hrun⟩ := makeNoZero_run n hn w
  have hs5 : (Try.prog.info? 5).map (·.size) = some 1 := by kernel_rfl
  have B0 := Lib.Buf.start w cs 5 n 2 hle
  obtain ⟨w1, hr1, B1⟩ := Lib.copy_part (P := Try.prog) w _ w.heap.size n [] [x] (.slice (some ⟨b, o, none⟩) 1 c) 27 3 5 Try.underlying27 hs5 (Nat.le_refl _) B0
    ⟨_, c, rfl, (fun e => by cases e), (fun a e j y hy => by
      cases e
      cases j with
      | zero => cases hy; rw [addr_add]; exact hcell
      | succ j => simp at hy)⟩ (by simp; omega)
  rw [List.length_nil, Lib.tailV_zero] at hr1
  have HB1 := Lib.hid (show Lib.Buf w w1 w.heap.size n (List.replicate 1 x) from B1)
  clear B1 B0 hcell hr
  have Hs5 := Lib.hid hs5; clear hs5
  have hu : IntKind.u64.wrap (n : Int) = n := u64_in n hn
  have n0 : ((n : Int) == 0) = false := beq_eq_false_iff_ne.2 (by omega)
  obtain ⟨M, hM0, hM⟩ : ∃ M : Nat, 0 < M ∧ (M : Int) = if (n : Int) > 8192 then 8192 else (n : Int) := by
    by_cases h : (n : Int) > 8192
    · exact ⟨8192, by omega, by rw [if_pos h]; rfl⟩
    · exact ⟨n, by omega, by rw [if_neg h]⟩
  by_cases hbig : (n : Int) > 8192
  all_goals
    (first | rw [if_pos hbig] at hM | rw [if_neg hbig] at hM)
    obtain HM := Lib.hid hM
    clear hM
    go_enter Try.func49, Try.ntmps49
    go_wp2_with (first | (go_at_call 86; refine (bits_mul_one n hn _).mono ?_; rintro e w' ⟨rfl, rfl⟩) | (at_builtin; refine Lib.wpList_copy_run _ rfl _ _ 27 27 rfl _ _ rfl rfl hr1 ?_))
    go_loopw [10, 11] (fun p _ wr => ∃ k : Nat, 1 ≤ k ∧ k ≤ n ∧ p = .int .i64 k ∧ Hid (Lib.Buf w wr w.heap.size n (List.replicate k x))) (fun p _ _ => n - (intOf p).toNat)
    case atStart => exact ⟨1, by omega, by omega, rfl, HB1⟩
    case round =>
      obtain ⟨k, hk1, hk, rfl, hB⟩ := hrel
      by_cases hlt : k < n
      · obtain ⟨m, hm⟩ : ∃ m : Nat, (m : Int) = min (k : Int) (M : Int) := ⟨min k M, by omega⟩
        have hmk : m ≤ k := by omega
        have hm0 : 0 < m := by omega
        rw [HM.out] at hm
        have Hm := Lib.hid hm
        clear hm
        obtain ⟨w2, hr2, B2⟩ := copy_rep (P := Try.prog) w wr.drew w.heap.size n k m x 27 3 5 Try.underlying27 Hs5.out (buf_drew hB.out) hlt hmk
        have HB2 := Lib.hid B2
        clear B2
        have hsl1 : ∀ W, (Instr.slice 27 (.slice (some ⟨w.heap.size, 0, none⟩) n n) (some (.int .i64 (k : Int))) none none).run Try.prog W = .ok (.slice (some ⟨w.heap.size, k, none⟩) (n - k) (n - k)) W := fun W => by
          have := Lib.run_slice_tailV W 27 5 Try.underlying27 Try.sizeOf5 w.heap.size n k (by omega)
          unfold Lib.tailV at this
          rwa [if_neg (by omega)] at this
        have hsl2 : ∀ W, (Instr.slice 27 (.slice (some ⟨w.heap.size, 0, none⟩) n n) none (some (.int .i64 (m : Int))) none).run Try.prog W = .ok (.slice (some ⟨w.heap.size, 0, none⟩) m n) W := fun W => by
          rw [run_slice_h W 27 _ _ _ Try.underlying27 .i64 m (by omega) (by omega)]
          simp [sliced, Result.andThen, Program.elem, Try.underlying27, Try.sizeOf5, addr_add]
        go_wp2
        rw [← Hm.out]
        go_region
        go_wp2
        go_roundw
        case rel => exact ⟨k + min m (n - k), by omega, by omega, by go_num, HB2⟩
        case measure => simp [intOf]; omega
      · obtain rfl : k = n := by omega
        go_wp2
        go_ret
        exact ⟨⟨_, rfl, own_buf hB.out (by simp) _ (Nat.le_refl _)⟩, hB.out.below⟩
end Go.Proofs.Ytmejngojpffcgaa
end

section
namespace Go.Proofs.Ytmejngojpffcgaa
open Go.RowKit Go.Ls

set_option maxRecDepth 100000 in
theorem record_padded (n : Nat) (hn : n ≤ 100000) (w : World) : Calls Try.prog 88 #[.int .i64 n] w fun e w' => e = .returned (.int .i64 (padN n)) ∧ w = w' := by
  go_enter Try.func88, Try.ntmps88
  go_wp2
  go_ret
  exact ⟨ret_int (by unfold padN; omega), rfl⟩
set_option maxRecDepth 100000 in
theorem record_size (n : Nat) (hn : n ≤ 140737488355328) (w : World) : Calls Try.prog 58 #[.int .i64 n] w fun e w' => e = .returned (.int .i64 (recSize n)) ∧ w = w' := by
  by_cases h : n > 4080
  · have hs : recSize n = 0 := if_pos h
    have Hs := Lib.hid hs; clear hs
    go_enter Try.func58, Try.ntmps58
    go_wp2
    go_ret
    exact ⟨ret_int (by rw [Hs.out]; rfl), rfl⟩
  · have hs : recSize n = padN n + 12 := if_neg h
    have Hs := Lib.hid hs; clear hs
    go_enter Try.func58, Try.ntmps58
    have hb : padN n ≤ 4080 := by unfold padN; omega
    go_wp2_with (go_at_call 88; refine (record_padded n (by omega) _).mono ?_; rintro e w' ⟨rfl, rfl⟩)
    go_ret
    exact ⟨ret_int (by rw [Hs.out]; omega), rfl⟩
set_option maxRecDepth 100000 in
theorem bytes_repeat0 (v : Value) (w : World) :
    Calls Try.prog 49 #[v, .int .i64 0] w fun e w' => e = .returned (.slice (some ⟨w.heap.size, 0, none⟩) 0 0) ∧ w' = w.alloc (.cells #[] 5) := by
  go_enter Try.func49, Try.ntmps49
  go_wp2
  go_ret
  exact ⟨rfl, rfl⟩
/-- bytes.Repeat of one byte, of any count that is small. -/
theorem bytes_repeat_any {S : Nat → Prop} (x : UInt8) (n : Nat) (hn : n < 1000000) (v : Value) (w : World) (hv : Sl8 S w v [x]) :
    Calls Try.prog 49 #[v, .int .i64 n] w (RetOwn8 (From w.heap.size) w (List.replicate n x)) := by
  rcases Nat.eq_zero_or_pos n with rfl | h
  · refine (bytes_repeat0 v w).mono ?_
    rintro e w' ⟨rfl, rfl⟩
    exact ⟨⟨_, rfl, ⟨_, 0, rfl, by simp, fun h => by simp [u8s] at h⟩⟩, (Below.refl _ _).alloc (Nat.le_refl _) _⟩
  · exact bytes_repeat x n h hn v w hv
theorem make8_4 (W : World) : (Instr.makeSlice 27 (.int .i64 4) (.int .i64 4)).run Try.prog W = .ok (.slice (some ⟨W.heap.size, 0, none⟩) 4 4) (W.alloc (.cells #[.int .u8 0, .int .u8 0, .int .u8 0, .int .u8 0] 5)) := by kernel_rfl
/-- The three parts of a record. -/
def RetParts (w : World) (l : List UInt8) (e : Ending) (w' : World) : Prop :=
  ∃ h b z, e = .returned (.agg #[h, b, z]) ∧ Sl8 (From w.heap.size) w' h (recHead l.length) ∧ Sl8 (From w.heap.size) w' b (recBody l) ∧ Sl8 (From w.heap.size) w' z zero4 ∧ Below w.heap.size w w'
theorem sl8_blk {w : World} {b : Nat} {t : TypeId} {l : List UInt8} {cs : Array Value} (h : Blk w b t cs) (hcs : cs.toList = u8s l) (S : Nat → Prop) (hS : S b) (c : Nat) (hc : l.length ≤ c) : Sl8 S w (.slice (some ⟨b, 0, none⟩) l.length c) l :=
  ⟨_, c, rfl, hc, Row.blk h hS (n := l.length) (by rw [hcs, ← u8s_length, List.take_length])⟩
set_option maxRecDepth 100000 in
set_option maxHeartbeats 1000000 in
theorem record_parts {S : Nat → Prop} (v : Value) (l : List UInt8) (w : World) (hl : Sl8 S w v l) (hn : l.length ≤ 4080) :
    Calls Try.prog 89 #[v] w (RetParts w l) := by
  have hi3 : (Try.prog.info? 141).map (·.size) = some 3 := by kernel_rfl
  have Hi3 := Lib.hid hi3; clear hi3
  obtain ⟨A, c, rfl, hc, hr⟩ := hl
  have Hr := Lib.hid hr; clear hr
  have e1 : (l.length : Int) / 256 = b8 (UInt8.ofNat (l.length / 256)) := by
    unfold b8; simp; omega
  have E1 := Lib.hid e1; clear e1
  have c2 := u8_of_nat l.length
  have hpad : padN l.length ≤ 4080 ∧ l.length ≤ padN l.length := by unfold padN; omega
  go_enter Try.func89, Try.ntmps89
  go_wp2_with fail
  rw [E1.out, not_b8]
  refine calls_gen fun W1 HW1 => ?_
  have HH := Lib.hid (show Blk W1 (w.heap.size + 1) 5 (u8s (recHead l.length)).toArray by rw [HW1.out]; exact heap_alloc2_new _ _ _)
  have HZ := Lib.hid (show Blk W1 w.heap.size 141 #[.slice none 0 0, .slice none 0 0, .slice none 0 0] by rw [HW1.out]; exact heap_alloc2_old _ _ _)
  have HB1 : Below w.heap.size w W1 := by rw [HW1.out]; exact ((Below.refl _ _).alloc (Nat.le_refl _) _).alloc (by simp) _
  have hs1 : W1.heap.size = w.heap.size + 2 := by rw [HW1.out]; simp
  clear HW1 c2
  refine (clone8 _ l W1 ⟨A, c, rfl, hc, Hr.out.below HB1⟩ (by omega)).mono ?_
  rintro e w1 ⟨⟨cv, rfl, ho⟩, hB⟩
  have HO1 := Lib.hid ho; clear ho
  have HBe := Lib.hid hB; clear hB
  go_wp2_with fail
  refine (record_padded l.length (by omega) _).mono ?_
  rintro e w' ⟨rfl, rfl⟩
  go_wp2_with fail
  rw [show ((padN l.length : Nat) : Int) - (l.length : Int) = ((padN l.length - l.length : Nat) : Int) by omega]
  refine calls_gen fun W2 HW2 => ?_
  have HF := Lib.hid (show Blk W2 w1.heap.size 5 (u8s [255]).toArray by rw [HW2.out]; exact Blk.new _ _ _)
  have HB2 := Lib.hid (show Below w1.heap.size w1 W2 by rw [HW2.out]; exact (Below.refl _ _).alloc (Nat.le_refl _) _)
  clear HW2
  refine (bytes_repeat_any 255 (padN l.length - l.length) (by omega) _ W2 (sl8_blk HF.out (by simp) (fun _ => True) trivial 1 (by simp))).mono ?_
  rintro e w2 ⟨⟨rv, rfl, hrv⟩, hB⟩
  obtain ⟨A2, c2, hv2, hc2, hr2⟩ := hrv.sl
  rw [List.length_replicate] at hv2 hc2
  subst hv2
  clear hrv
  have HB3 := Lib.hid (below_next HB2.out hB); clear hB HB2 HF
  have HR2 := Lib.hid hr2; clear hr2
  have HO2 := Lib.hid (own_below HO1.out HB3.out); clear HO1
  have HB4 := Lib.hid (below_next HBe.out HB3.out); clear HBe HB3
  have hlf := recFill_length l
  have Hlf := Lib.hid hlf; clear hlf
  go_wp2_with (at_builtin; go_must (refine wpList_app elem8 rfl _ _ rfl W1.heap.size cv l.length (u8s l) rfl HO2.out A2 (padN l.length - l.length) c2 (u8s (List.replicate (padN l.length - l.length) 255)) rfl HR2.out (by simp [u8s]) (one8 _) (padN l.length) (by omega) (u8s (recFill l)) (u8s_append _ _) (by omega) (by omega) HB4.out.size ?_); intro A3 c3 w3 ho3 hg3 _)
  have hlt3 : ∀ k, cv.ownBlock = some k → W1.heap.size ≤ k := fun k hk => (HO2.out.lt k hk).1
  have HB5 := Lib.hid (below_grown HB4.out hg3.out HB4.out.size hlt3)
  have HO4 := ho3
  clear ho3 hg3 HO2 HB4 HR2 hlt3 hc2
  refine (crc_begin _).mono ?_
  rintro e w' ⟨rfl, rfl⟩
  go_wp2_with fail
  refine (crc_add 4294967295 _ (recHead l.length) w3 (sl8_blk (HH.out.below HB5.out (by omega)) (by simp) (fun _ => True) trivial 4 (Nat.le_refl _)) (by show 4 ≤ _; omega)).mono ?_
  rintro e w4 ⟨rfl, hB⟩
  have HB6 := Lib.hid hB; clear hB
  go_wp2_with fail
  have HO4' := Lib.hid (own_below HO4.out HB6.out); clear HO4
  refine (crc_add _ (.slice A3 (padN l.length) c3) (recFill l) w4 (by have := (Own.of_row HO4'.out).sl; unfold Sl8; rw [Hlf.out]; exact this) (by rw [Hlf.out]; omega)).mono ?_
  rintro e w5 ⟨rfl, hB⟩
  have HO5 := Lib.hid (own_below HO4'.out hB)
  have HB7 := Lib.hid (below_next HB5.out ((below_next HB6.out hB).mono (Nat.le_refl _))); clear hB HB6 HB5 HO4'
  go_wp2_with fail
  refine (crc_end _ _).mono ?_
  rintro e w' ⟨rfl, rfl⟩
  rw [show ~~~(crcAdd (crcAdd 4294967295 (recHead l.length)) (recFill l)) = recSum l from rfl]
  have hsz := HB7.out.size
  go_wp2_with (at_builtin; go_must (refine wpList_app elem8 rfl _ _ rfl W1.heap.size (.slice A3 (padN l.length) c3) (padN l.length) (u8s (recFill l)) rfl (own_below HO5.out ((Below.refl _ _).alloc (Nat.le_refl _) _)) _ 4 4 (u8s (big4 (recSum l))) rfl (Row.blk (S := fun _ => True) (t := 5) (cs := (u8s (big4 (recSum l))).toArray) (heap_alloc_new _ _) trivial (n := 4) rfl) rfl (one8 _) (padN l.length + 4) rfl (u8s (recBody l)) (u8s_append _ _) (by omega) (by omega) (by simp; omega) ?_); intro A6 c6 w6 ho6 hg6 _; refine stop_here ?_)
  have hlt6 : ∀ k, (Value.slice A3 (padN l.length) c3).ownBlock = some k → W1.heap.size ≤ k := fun k hk => (HO5.out.lt k hk).1
  have HB8 := Lib.hid (below_grown (HB7.out.alloc HB7.out.size _) hg6.out (by simp; omega) hlt6)
  have hmk := make8_4
  have HZ6 := Lib.hid ((HZ.out.below HB8.out (by omega)).alloc (.cells #[.int .u8 0, .int .u8 0, .int .u8 0, .int .u8 0] 5))
  have HH6 := Lib.hid ((HH.out.below HB8.out (by omega)).alloc (.cells #[.int .u8 0, .int .u8 0, .int .u8 0, .int .u8 0] 5))
  have hsz6 := HB8.out.size
  clear hg6 hlt6 hsz
  refine go_on ?_
  go_wp2_with (refine wpList_store_row rfl 141 _ _ rfl w.heap.size #[.slice (some ⟨w.heap.size + 1, 0, none⟩) 4 4, .slice A6 (padN l.length + 4) c6, .slice (some ⟨w6.heap.size, 0, none⟩) 4 4] rfl rfl 141 _ HZ6.out Hi3.out rfl (by simp [Value.oneCell']) ?_)
  (try simp only [Exit.inBlock, Exit.then])
  refine bodyPost_ret (results_cell_row rfl _ _ w.heap.size 141 #[.slice (some ⟨w.heap.size + 1, 0, none⟩) 4 4, .slice A6 (padN l.length + 4) c6, .slice (some ⟨w6.heap.size, 0, none⟩) 4 4] (0, 0) _ rfl (HZ6.out.row _) Try.underlying141 rfl Hi3.out) rfl ?_
  have hw : ∀ k, k < w6.heap.size → k ≠ w.heap.size → ((w6.alloc (.cells #[.int .u8 0, .int .u8 0, .int .u8 0, .int .u8 0] 5)).setRow w.heap.size #[.slice (some ⟨w.heap.size + 1, 0, none⟩) 4 4, .slice A6 (padN l.length + 4) c6, .slice (some ⟨w6.heap.size, 0, none⟩) 4 4]).heap[k]? = w6.heap[k]? := fun k hk hne => (setRow_other _ _ _ _ hne).trans (Below.heap_alloc _ _ _ hk)
  refine ⟨_, _, _, rfl, ?_, ?_, ?_, ?_⟩
  · exact sl8_blk (l := recHead l.length) (HH6.out.rowFar (g := w.heap.size) (by omega) _) (by simp) (From w.heap.size) (show w.heap.size ≤ w.heap.size + 1 by omega) 4 (Nat.le_refl _)
  · have h6 := (Own.of_row ho6.out).sl
    have : Sl8 (From W1.heap.size) w6 (.slice A6 (padN l.length + 4) c6) (recBody l) := by unfold Sl8; rw [recBody_length]; exact h6
    exact (Sl.keep this fun b hb hf => hw b hb (by have : W1.heap.size ≤ b := hf; omega)).mono fun b hb => by have : W1.heap.size ≤ b := hb; show w.heap.size ≤ b; omega
  · have hz := (Blk.new w6 5 (u8s zero4).toArray).rowFar (g := w.heap.size) (by omega) #[.slice (some ⟨w.heap.size + 1, 0, none⟩) 4 4, .slice A6 (padN l.length + 4) c6, .slice (some ⟨w6.heap.size, 0, none⟩) 4 4]
    exact sl8_blk (l := zero4) hz (by simp) (From w.heap.size) (show w.heap.size ≤ w6.heap.size by omega) 4 (Nat.le_refl _)
  · exact below_setRow ((HB1.trans (HB8.out.mono (by omega))).alloc (by omega) _) (Nat.le_refl _) _
end Go.Proofs.Ytmejngojpffcgaa
end

section
namespace Go.Proofs.Ytmejngojpffcgaa
open Go.RowKit Go.Ls

/-- slices.Grow of nil: room for n. -/
def RetGrow (w : World) (n : Nat) (e : Ending) (w' : World) : Prop := ∃ A c, e = .returned (.slice A 0 c) ∧ n ≤ c ∧ w'.ownsRow w.heap.size 5 1 (.slice A 0 c) 0 [] ∧ Below w.heap.size w w'
set_option maxRecDepth 100000 in
set_option maxHeartbeats 400000 in
theorem grow8 (n : Nat) (h0 : 0 < n) (hn : n ≤ 1000000) (w : World) : Calls Try.prog 112 #[.slice none 0 0, .int .i64 n] w (RetGrow w n) := by
  obtain ⟨i, hi, hz, hs, hb⟩ := info_parts elem8.info
  have hr := Lib.run_append_nil_zeros (P := Try.prog) w 27 3 27 5 i (.int .u8 0) .i64 .i64 Try.underlying27 Try.underlying3 hi hz n h0 (by omega) (by omega) (by rw [hb]; omega)
  have hge := grownCap_ge w n 0 5
  have hle := grownCap_le_maxLen w n 0 5 (by simp only [maxLen]; omega)
  have hsz : (Builtin.zeroCells (Value.int .u8 0).cells n ++ Builtin.zeroCells (Value.int .u8 0).cells (grownCap w n 0 5 - n)).size = grownCap w n 0 5 * 1 := by
    rw [Array.size_append, size_zeroCells, size_zeroCells]
    show n * 1 + (_ - n) * 1 = _
    omega
  generalize (Builtin.zeroCells (Value.int .u8 0).cells n ++ Builtin.zeroCells (Value.int .u8 0).cells (grownCap w n 0 5 - n)) = cur at hr hsz
  generalize grownCap w n 0 5 = cap at hr hge hle hsz
  have Hr := Lib.hid hr; clear hr
  have Hsz := Lib.hid hsz; clear hsz
  clear hi hz hs hb
  go_enter Try.func112, Try.ntmps112
  go_wp2_with (at_builtin; go_must (refine wpList_append_eq rfl _ _ 27 3 rfl _ _ rfl rfl Hr.out ?_))
  go_ret
  refine ⟨_, _, rfl, hge, ?_, (Below.refl _ _).drew.alloc (Nat.le_refl _) _⟩
  exact World.ownsRow_made w.drew cur cap (Nat.le_refl _) hle Hsz.out
/-- A slice of byte slices: their values, and their bytes. -/
structure Parts (S : Nat → Prop) (w : World) (A : Option Addr) (ps : List (Value × List UInt8)) : Prop where
  row : Row S w A (ps.map (·.1))
  each : ∀ p ∈ ps, Sl8 S w p.1 p.2
theorem Parts.below {S : Nat → Prop} {w w' : World} {A : Option Addr} {ps : List (Value × List UInt8)} (h : Parts S w A ps) (hb : Below w.heap.size w w') : Parts S w' A ps :=
  ⟨h.row.below hb, fun p hp => (h.each p hp).below hb⟩
theorem Parts.get {S : Nat → Prop} {w : World} {A : Option Addr} {ps : List (Value × List UInt8)} (h : Parts S w A ps) {k : Nat} (hk : k < ps.length) :
    ∃ b o Ak ck, A = some ⟨b, o, none⟩ ∧ w.cell? ⟨b, o + k, none⟩ = some (.slice Ak (ps[k].2).length ck) ∧ (ps[k].2).length ≤ ck ∧ Row S w Ak (u8s ps[k].2) := by
  obtain ⟨Ak, ck, hv, hc, hr⟩ := h.each ps[k] (List.getElem_mem hk)
  obtain ⟨b, o, e, _, hcell⟩ := h.row.at_ (j := k) (v := ps[k].1) (by simp [hk])
  exact ⟨b, o, Ak, ck, e, by rw [hcell, hv], hc, hr⟩
def sumLen (ps : List (Value × List UInt8)) : Nat := (ps.flatMap (·.2)).length
def cat (ps : List (Value × List UInt8)) : List UInt8 := ps.flatMap (·.2)
theorem cat_take_succ (ps : List (Value × List UInt8)) (k : Nat) (hk : k < ps.length) : cat (ps.take (k + 1)) = cat (ps.take k) ++ ps[k].2 := by
  unfold cat; rw [List.take_succ_eq_append_getElem hk, List.flatMap_append]; simp
theorem cat_take_le (ps : List (Value × List UInt8)) (k : Nat) : (cat (ps.take k)).length ≤ (cat ps).length := by
  have : cat ps = cat (ps.take k) ++ cat (ps.drop k) := by unfold cat; rw [← List.flatMap_append, List.take_append_drop]
  rw [this, List.length_append]; omega
set_option maxRecDepth 100000 in
set_option maxHeartbeats 800000 in
theorem concat8 {S : Nat → Prop} (A : Option Addr) (c : Nat) (ps : List (Value × List UInt8)) (w : World) (hp : Parts S w A ps) (hn : ps.length ≤ 1000000) (hsum0 : 0 < (cat ps).length) (hsum : (cat ps).length ≤ 1000000) :
    Calls Try.prog 93 #[.slice A ps.length c] w (RetRow8 w (cat ps)) := by
  have HP := Lib.hid hp; clear hp
  go_enter Try.func93, Try.ntmps93
  go_wp2_with fail
  go_loop [3, 5, 11] (fun s _ i => ∃ k : Nat, k ≤ ps.length ∧ i = .int .i64 k ∧ s = .int .i64 (cat (ps.take k)).length) (fun _ _ i => ps.length - (intOf i).toNat)
  case atStart => exact ⟨0, Nat.zero_le _, rfl, rfl⟩
  case round =>
    obtain ⟨k, hk, rfl, rfl⟩ := hrel
    have hle := cat_take_le ps k
    by_cases hlt : k < ps.length
    · have hle1 := cat_take_le ps (k + 1)
      have hcs : (cat (ps.take (k + 1))).length = (cat (ps.take k)).length + ps[k].2.length := by rw [cat_take_succ ps k hlt, List.length_append]
      have hb1 : (cat (ps.take k)).length + ps[k].2.length ≤ 1000000 := by omega
      have Hcs := Lib.hid hcs; clear hcs hle1
      obtain ⟨b, o, Ak, ck, rfl, hcell, _, _⟩ := HP.out.get hlt
      go_wp2_with fail
      go_round
      case rel => exact ⟨k + 1, by omega, by go_num, by rw [Hcs.out]; go_num⟩
      case measure => simp [intOf]; omega
    · obtain rfl : k = ps.length := by omega
      have ht : cat (ps.take ps.length) = cat ps := by rw [List.take_length]
      rw [ht]
      have hz : ¬ ((cat ps).length = 0) := by omega
      go_wp2_with fail
      refine (grow8 _ hsum0 hsum _).mono ?_
      rintro e w1 ⟨A1, c1, rfl, hc1, ho1, hB1⟩
      have HO1 := Lib.hid ho1; clear ho1 ht
      have HB1 := Lib.hid hB1; clear hB1
      go_wp2_with fail
      go_loopw [6, 8, 27] (fun v _ i wr => ∃ (k : Nat) (A' : Option Addr) (c' : Nat), k ≤ ps.length ∧ i = .int .i64 k ∧ v = .slice A' (cat (ps.take k)).length c' ∧ Hid (wr.ownsRow w.heap.size 5 1 (.slice A' (cat (ps.take k)).length c') (cat (ps.take k)).length (u8s (cat (ps.take k)))) ∧ Hid (Below w.heap.size w wr)) (fun _ _ i _ => ps.length - (intOf i).toNat)
      case atStart => exact ⟨0, A1, c1, Nat.zero_le _, rfl, rfl, HO1, HB1⟩
      case round =>
        obtain ⟨k, A', c', hk, rfl, rfl, HO, HB⟩ := hrel
        have hle := cat_take_le ps k
        by_cases hlt : k < ps.length
        · have hle1 := cat_take_le ps (k + 1)
          have Hcs := Lib.hid (cat_take_succ ps k hlt)
          have hcl : (cat (ps.take (k + 1))).length = (cat (ps.take k)).length + ps[k].2.length := by rw [Hcs.out, List.length_append]
          have Hcl := Lib.hid hcl; clear hcl
          have HPk := HP.out.below HB.out
          obtain ⟨b, o, Ak, ck, rfl, hcell, _, hrk⟩ := HPk.get hlt
          have Hrk := Lib.hid hrk; clear hrk HPk
          go_wp2_with (at_builtin; go_must (refine wpList_app elem8 rfl _ _ rfl w.heap.size (.slice A' (cat (ps.take k)).length c') (cat (ps.take k)).length (u8s (cat (ps.take k))) rfl HO.out Ak ps[k].2.length ck (u8s ps[k].2) rfl Hrk.out (by rw [u8s_length, Nat.mul_one]) (one8 _) (cat (ps.take (k + 1))).length Hcl.out (u8s (cat (ps.take (k + 1)))) (by rw [Hcs.out, u8s_append]) (by omega) (by omega) HB.out.size ?_); intro A2 c2 w2 ho2 hg2 _)
          go_roundw
          case rel => exact ⟨k + 1, A2, c2, by omega, by go_num, rfl, ho2, below_grown HB.out hg2.out HB.out.size (fun j hj => (HO.out.lt j hj).1)⟩
          case measure => simp [intOf]; omega
        · obtain rfl : k = ps.length := by omega
          have ht : cat (ps.take ps.length) = cat ps := by rw [List.take_length]
          rw [ht] at HO ⊢
          go_wp2
          go_ret
          exact ⟨⟨_, rfl, HO.out⟩, HB.out⟩
def RetBytes (w : World) (l : List UInt8) (e : Ending) (w' : World) : Prop := (∃ v, e = .returned (.tuple #[v, .int .i64 0]) ∧ w'.ownsRow w.heap.size 5 1 v l.length (u8s l)) ∧ Below w.heap.size w w'
set_option maxRecDepth 100000 in
set_option maxHeartbeats 400000 in
theorem record_bytes {S : Nat → Prop} (v : Value) (l : List UInt8) (w : World) (hl : Sl8 S w v l) (hn : l.length ≤ 4080) :
    Calls Try.prog 67 #[v] w (RetBytes w (recBytes l)) := by
  have hi3 : (Try.prog.info? 141).map (·.size) = some 3 := by kernel_rfl
  have Hi3 := Lib.hid hi3; clear hi3
  obtain ⟨A, c, rfl, hc, hr⟩ := hl
  have Hl := Lib.hid (show Sl8 S w (.slice A l.length c) l from ⟨A, c, rfl, hc, hr⟩); clear hr
  go_enter Try.func67, Try.ntmps67
  go_wp2_with fail
  refine (record_parts _ l w Hl.out hn).mono ?_
  rintro e w1 ⟨h, b, z, rfl, hh, hb, hz, hB⟩
  obtain ⟨Ah, ch, rfl, hch, hrh⟩ := hh
  obtain ⟨Ab, cb, rfl, hcb, hrb⟩ := hb
  obtain ⟨Az, cz, rfl, hcz, hrz⟩ := hz
  have Hh := Lib.hid hrh; clear hrh
  have Hb := Lib.hid hrb; clear hrb
  have Hz := Lib.hid hrz; clear hrz
  have HB := Lib.hid hB; clear hB
  have hlen := recBytes_length l hn
  have hcat : cat [(Value.slice Ah (recHead l.length).length ch, recHead l.length), (.slice Ab (recBody l).length cb, recBody l), (.slice Az zero4.length cz, zero4)] = recBytes l := by
    simp [cat, recBytes]
  have hls : recSize l.length ≤ 4092 ∧ 12 ≤ recSize l.length := by unfold recSize padN; split <;> omega
  have Hlen := Lib.hid hlen; clear hlen
  have Hcat := Lib.hid hcat; clear hcat
  go_wp2_with fail
  refine calls_gen fun W HW => ?_
  have HBW := Lib.hid (show Below w1.heap.size w1 W by rw [HW.out]; exact (Below.refl _ _).alloc (Nat.le_refl _) _)
  have HA := Lib.hid (show Blk W w1.heap.size 141 #[.slice Ah (recHead l.length).length ch, .slice Ab (recBody l).length cb, .slice Az zero4.length cz] by rw [HW.out]; exact Blk.new _ _ _)
  clear HW
  have hp : Parts (fun _ => True) W (some ⟨w1.heap.size, 0, none⟩) [(.slice Ah (recHead l.length).length ch, recHead l.length), (.slice Ab (recBody l).length cb, recBody l), (.slice Az zero4.length cz, zero4)] := by
    refine ⟨Row.blk HA.out trivial (n := 3) rfl, fun p hp => ?_⟩
    simp only [List.mem_cons, List.not_mem_nil, or_false] at hp
    rcases hp with rfl | rfl | rfl
    · exact ⟨_, _, rfl, hch, (Hh.out.below HBW.out).mono fun _ _ => trivial⟩
    · exact ⟨_, _, rfl, hcb, (Hb.out.below HBW.out).mono fun _ _ => trivial⟩
    · exact ⟨_, _, rfl, hcz, (Hz.out.below HBW.out).mono fun _ _ => trivial⟩
  refine (concat8 _ 3 _ W hp (by show 3 ≤ _; omega) (by rw [Hcat.out, Hlen.out]; omega) (by rw [Hcat.out, Hlen.out]; omega)).mono ?_
  rintro e w2 ⟨⟨v2, rfl, ho2⟩, hB2⟩
  rw [Hcat.out] at ho2
  have HO2 := Lib.hid ho2; clear ho2 hp
  have HB2 := Lib.hid (below_next HBW.out hB2); clear hB2
  go_wp2
  go_ret2
  exact ⟨⟨_, rfl, own_lower HO2.out (Nat.le_trans HB.out.size HBW.out.size)⟩, below_next HB.out HB2.out⟩
end Go.Proofs.Ytmejngojpffcgaa
end

section
namespace Go.Proofs.Ytmejngojpffcgaa
open Go.RowKit Go.Ls

theorem or_join (x y : UInt8) : bits .or .i64 (b8 x * 256) (b8 y) = ((x.toNat * 256 + y.toNat : Nat) : Int) := by
  have hx := b8_range x
  have hy := b8_range y
  have := bits_join .i64 63 (by decide) (fun n h0 h1 => by rw [IntKind.wrap_i64]; omega) 8 (b8 x * 256) (b8 y) (by omega) (by omega) (by omega) (by omega) (by omega) (by omega)
  rw [this]; simp only [b8]; omega
theorem ne255 (x : UInt8) : (b8 x != 255) = (x != 255) := by
  by_cases h : x = 255
  · subst h; rfl
  · have : b8 x ≠ 255 := fun e => h (b8_inj (y := 255) e)
    have e1 : (b8 x == 255) = false := beq_eq_false_iff_ne.2 this
    have e2 : (x == 255) = false := beq_eq_false_iff_ne.2 h
    simp only [bne, e1, e2]
theorem cells4 {S : Nat → Prop} {w : World} {A : Option Addr} {l : List UInt8} (hr : Row S w A (u8s l)) (h4 : 4 ≤ l.length) :
    ∃ b o, A = some ⟨b, o, none⟩ ∧ w.cell? ⟨b, o, none⟩ = some (.int .u8 (b8 (l.getD 0 0))) ∧ w.cell? ⟨b, o + 1, none⟩ = some (.int .u8 (b8 (l.getD 1 0))) ∧ w.cell? ⟨b, o + 2, none⟩ = some (.int .u8 (b8 (l.getD 2 0))) ∧ w.cell? ⟨b, o + 3, none⟩ = some (.int .u8 (b8 (l.getD 3 0))) := by
  obtain ⟨b, o, e, _, hc⟩ := hr (by rw [u8s_length]; omega)
  have hg : ∀ j, j < 4 → w.cell? ⟨b, o + j, none⟩ = some (.int .u8 (b8 (l.getD j 0))) := fun j hj => by
    rw [hc j _ (u8s_get (show j < l.length by omega))]
    simp [List.getD, show j < l.length by omega]
  exact ⟨b, o, e, hg 0 (by omega), hg 1 (by omega), hg 2 (by omega), hg 3 (by omega)⟩
set_option maxRecDepth 100000 in
set_option maxHeartbeats 800000 in
theorem record_length {S : Nat → Prop} (v : Value) (l : List UInt8) (w : World) (hl : Sl8 S w v l) (hn : l.length ≤ 140737488355328) :
    Calls Try.prog 116 #[v] w fun e w' => e = .returned (.int .i64 (lenInt (recLen l))) ∧ ∃ n, w' = w.drewN n := by
  obtain ⟨A, c, rfl, hc, hr⟩ := hl
  by_cases h4 : l.length < 4
  · have hd : decide ((l.length : Int) < 4) = true := decide_eq_true (by omega)
    have hd' : decide (l.length < 4) = true := decide_eq_true h4
    have Hp := Lib.hid (show lenInt (recLen l) = -1 by unfold recLen; rw [if_pos h4]; rfl)
    clear hr
    go_enter Try.func116, Try.ntmps116
    go_wp2
    go_quiet (fail)
    go_wp2
    go_ret
    exact ⟨ret_int Hp.out.symm, ⟨_, rfl⟩⟩
  · obtain ⟨b, o, rfl, hc0, hc1, hc2, hc3⟩ := cells4 hr (by omega)
    clear hr
    have hd : decide ((l.length : Int) < 4) = false := decide_eq_false (by omega)
    have hd' : decide (l.length < 4) = false := decide_eq_false h4
    have i0 : (0 : Int) < (l.length : Int) := by omega
    have i1 : (1 : Int) < (l.length : Int) := by omega
    have i2 : (2 : Int) < (l.length : Int) := by omega
    have i3 : (3 : Int) < (l.length : Int) := by omega
    have n0 : 0 < l.length := by omega
    have n1 : 1 < l.length := by omega
    have n2 : 2 < l.length := by omega
    have n3 : 3 < l.length := by omega
    have Hrl := Lib.hid (show recLen l = if (l.getD 0 0 ^^^ l.getD 2 0 != 255 || l.getD 1 0 ^^^ l.getD 3 0 != 255) = true then none else if (l.getD 0 0).toNat * 256 + (l.getD 1 0).toNat > 4080 ∨ recSize ((l.getD 0 0).toNat * 256 + (l.getD 1 0).toNat) > l.length then none else some ((l.getD 0 0).toNat * 256 + (l.getD 1 0).toNat) by
      conv => lhs; unfold recLen
      rw [if_neg h4])
    generalize l.getD 0 0 = x0 at *
    generalize l.getD 1 0 = x1 at *
    generalize l.getD 2 0 = x2 at *
    generalize l.getD 3 0 = x3 at *
    have e02 := ne255 (x0 ^^^ x2)
    have e13 := ne255 (x1 ^^^ x3)
    cases h02 : (x0 ^^^ x2 != 255) with
    | true =>
      rw [h02] at e02
      have Hp := Lib.hid (show lenInt (recLen l) = -1 by rw [Hrl.out]; rw [h02]; rfl)
      clear h02 e13
      go_enter Try.func116, Try.ntmps116
      go_wp2
      go_quiet (fail)
      go_wp2
      go_ret
      exact ⟨ret_int Hp.out.symm, ⟨_, rfl⟩⟩
    | false =>
      rw [h02] at e02
      cases h13 : (x1 ^^^ x3 != 255) with
      | true =>
        rw [h13] at e13
        have Hp := Lib.hid (show lenInt (recLen l) = -1 by rw [Hrl.out]; rw [h02, h13]; rfl)
        clear h02 h13
        go_enter Try.func116, Try.ntmps116
        go_wp2
        go_quiet (fail)
        go_wp2
        go_ret
        exact ⟨ret_int Hp.out.symm, ⟨_, rfl⟩⟩
      | false =>
        rw [h13] at e13
        have Hrl2 := Lib.hid (show recLen l = if x0.toNat * 256 + x1.toNat > 4080 ∨ recSize (x0.toNat * 256 + x1.toNat) > l.length then none else some (x0.toNat * 256 + x1.toNat) by rw [Hrl.out]; rw [h02, h13]; rfl)
        have hor : bits .or .i64 (wrap64 (b8 x0 * 256)) (b8 x1) = ((x0.toNat * 256 + x1.toNat : Nat) : Int) := by
          have h0 := b8_range x0
          rw [show wrap64 (b8 x0 * 256) = b8 x0 * 256 by unfold wrap64; omega]
          exact or_join x0 x1
        have hlt : x0.toNat * 256 + x1.toNat < 65536 := by have := x0.toNat_lt; have := x1.toNat_lt; omega
        generalize x0.toNat * 256 + x1.toNat = n at *
        clear h02 h13 Hrl
        by_cases hb : n > 4080
        · have Hp := Lib.hid (show lenInt (recLen l) = -1 by rw [Hrl2.out, if_pos (.inl hb)]; rfl)
          go_enter Try.func116, Try.ntmps116
          go_wp2
          go_quiet (fail)
          go_wp2
          go_quiet (fail)
          go_wp2
          go_ret
          exact ⟨ret_int Hp.out.symm, ⟨_, rfl⟩⟩
        · have hs : recSize n ≤ 4092 := by unfold recSize padN; split <;> omega
          by_cases hf : recSize n > l.length
          · have Hp := Lib.hid (show lenInt (recLen l) = -1 by rw [Hrl2.out, if_pos (.inr hf)]; rfl)
            go_enter Try.func116, Try.ntmps116
            go_wp2
            go_quiet (fail)
            go_wp2
            go_quiet (fail)
            go_wp2_with (go_at_call 58; refine (record_size n (by omega) _).mono ?_; rintro e w' ⟨rfl, rfl⟩)
            go_ret
            exact ⟨ret_int Hp.out.symm, ⟨_, rfl⟩⟩
          · have Hp := Lib.hid (show lenInt (recLen l) = n by rw [Hrl2.out, if_neg (by omega)]; rfl)
            go_enter Try.func116, Try.ntmps116
            go_wp2
            go_quiet (fail)
            go_wp2
            go_quiet (fail)
            go_wp2_with (go_at_call 58; refine (record_size n (by omega) _).mono ?_; rintro e w' ⟨rfl, rfl⟩)
            go_ret
            exact ⟨ret_int Hp.out.symm, ⟨_, rfl⟩⟩
end Go.Proofs.Ytmejngojpffcgaa
end

section
namespace Go.Proofs.Ytmejngojpffcgaa
open Go.RowKit Go.Ls

/-- Bytes in a block of bytes: whoever turns no such block keeps them. -/
def Pay (S : Nat → Prop) (w : World) (v : Value) (l : List UInt8) : Prop :=
  ∃ A c, v = .slice A l.length c ∧ l.length ≤ c ∧ (0 < l.length → ∃ (b : Nat) (cs : Array Value), A = some ⟨b, 0, none⟩ ∧ S b ∧ Blk w b 5 cs ∧ ∀ (j : Nat) (x : Value), (u8s l)[j]? = some x → cs[j]? = some x)
theorem Pay.sl {S : Nat → Prop} {w : World} {v : Value} {l : List UInt8} (h : Pay S w v l) : Sl8 S w v l := by
  obtain ⟨A, c, rfl, hc, hr⟩ := h
  refine ⟨A, c, rfl, hc, fun hp => ?_⟩
  obtain ⟨b, cs, e, hs, hb, hx⟩ := hr (by rw [u8s_length] at hp; exact hp)
  exact ⟨b, 0, e, hs, fun j v hj => by rw [Nat.zero_add]; exact hb.cellv (hx j v hj)⟩
theorem Pay.nil (S : Nat → Prop) (w : World) : Pay S w (.slice none 0 0) [] := ⟨_, 0, rfl, Nat.le_refl _, fun h => absurd h (Nat.lt_irrefl 0)⟩
theorem Pay.mono {S S' : Nat → Prop} {w : World} {v : Value} {l : List UInt8} (h : Pay S w v l) (hS : ∀ b, S b → S' b) : Pay S' w v l := by
  obtain ⟨A, c, rfl, hc, hr⟩ := h
  refine ⟨A, c, rfl, hc, fun hp => ?_⟩
  obtain ⟨b, cs, e, hs, hx⟩ := hr hp
  exact ⟨b, cs, e, hS b hs, hx⟩
theorem Pay.keep {S : Nat → Prop} {w w' : World} {v : Value} {l : List UInt8} (h : Pay S w v l) (hk : ∀ b cs, S b → Blk w b 5 cs → Blk w' b 5 cs) : Pay S w' v l := by
  obtain ⟨A, c, rfl, hc, hr⟩ := h
  refine ⟨A, c, rfl, hc, fun hp => ?_⟩
  obtain ⟨b, cs, e, hs, hb, hx⟩ := hr hp
  exact ⟨b, cs, e, hs, hk b cs hs hb, hx⟩
theorem Pay.below {S : Nat → Prop} {w w' : World} {v : Value} {l : List UInt8} (h : Pay S w v l) (hb : Below w.heap.size w w') : Pay S w' v l :=
  h.keep fun _ _ _ hk => hk.below hb hk.lt
theorem Pay.of_row {base : Nat} {w : World} {v : Value} {l : List UInt8} (h : w.ownsRow base 5 1 v l.length (u8s l)) : Pay (From base) w v l := by
  rcases h.2 with ⟨rfl, h0⟩ | ⟨g, cap, cur, rfl, hb, hg, hc, hm, hs, ht⟩
  · have : l = [] := List.eq_nil_of_length_eq_zero h0
    subst this
    exact Pay.nil _ _
  · refine ⟨_, cap, rfl, hc, fun _ => ⟨g, cur, rfl, hb, hg, fun j x hj => ?_⟩⟩
    rw [← ht, List.getElem?_take] at hj
    split at hj
    · simpa using hj
    · cases hj

/-- A record as the program tells it, its payload in new memory. -/
def RetRec (w : World) (r : Rec) (e : Ending) (w' : World) : Prop :=
  ∃ pv, e = .returned (.agg #[.int .i64 r.place, .int .i64 r.size, .int .u8 (b8 r.kind), pv]) ∧ Pay (From w.heap.size) w' pv r.payload ∧ Below w.heap.size w w'
theorem zeroRec : (Try.prog.info? 86).map (·.size) = some 4 := by kernel_rfl
theorem sl8_nil (S : Nat → Prop) (w : World) : Sl8 S w (.slice none 0 0) [] := ⟨_, 0, rfl, Nat.le_refl _, Row.none_ _ _ _⟩
theorem lenInt_none {l : List UInt8} (h : recLen l = none) : lenInt (recLen l) = -1 := by rw [h]; rfl
set_option maxRecDepth 100000 in
set_option maxHeartbeats 800000 in
theorem record_at {S : Nat → Prop} (v : Value) (l : List UInt8) (w : World) (hl : Sl8 S w v l) (hn : l.length ≤ 140737488355328) :
    Calls Try.prog 97 #[v] w (RetRec w (recAt l)) := by
  have Hz := Lib.hid zeroRec
  have Hl := Lib.hid hl
  obtain ⟨A, c, rfl, hc, hr⟩ := hl
  have Hr := Lib.hid hr; clear hr
  cases hbl : isBlank l with
  | true =>
    have Hp := Lib.hid (show recAt l = ⟨0, l.length, 0, []⟩ by unfold recAt; rw [hbl]; rfl)
    have Hbl := Lib.hid (show (!l.any (· != 255)) = true from hbl); clear hbl
    go_enter Try.func97, Try.ntmps97
    go_wp2_with fail
    refine (record_length _ l _ (Sl.below Hl.out ((Below.refl _ _).alloc (Nat.le_refl _) _)) hn).mono ?_
    rintro e w1 ⟨rfl, n, hw1⟩
    have hc1 : w1.heap.size = w.heap.size + 1 := by rw [hw1]; simp
    have HB1 := Lib.hid (show Below w.heap.size w w1 by rw [hw1]; exact below_drewN ((Below.refl _ _).alloc (Nat.le_refl _) _) n)
    have HZ := Lib.hid (show Blk w1 w.heap.size 86 #[.int .i64 0, .int .i64 0, .int .u8 0, .slice none 0 0] by rw [hw1]; exact (Blk.new _ _ _).drewN n)
    clear hw1
    go_wp2_with fail
    refine (record_blank _ l w1 (Sl.below Hl.out HB1.out) hn).mono ?_
    rintro e w' ⟨rfl, rfl⟩
    rw [Hbl.out]
    go_wp2_with (refine wpList_store_row rfl 86 _ _ rfl w.heap.size #[.int .i64 0, .int .i64 l.length, .int .u8 0, .slice none 0 0] rfl rfl 86 _ HZ.out Hz.out rfl (by simp [Value.oneCell']) ?_)
    (try simp only [Exit.inBlock, Exit.then])
    refine bodyPost_ret (results_cell_row rfl _ _ w.heap.size 86 #[.int .i64 0, .int .i64 l.length, .int .u8 0, .slice none 0 0] (0, 0) _ rfl (HZ.out.row _) Try.underlying86 rfl Hz.out) rfl ?_
    rw [Hp.out]
    exact ⟨_, rfl, Pay.nil _ _, below_setRow HB1.out (Nat.le_refl _) _⟩
  | false =>
    have Hbl := Lib.hid (show (!l.any (· != 255)) = false from hbl)
    cases hlen : recLen l with
    | none =>
      have Hp := Lib.hid (show recAt l = ⟨0, min 4 l.length, 3, []⟩ by unfold recAt; rw [hbl, hlen]; rfl)
      have Hli := Lib.hid (lenInt_none hlen); clear hbl hlen
      go_enter Try.func97, Try.ntmps97
      go_wp2_with fail
      refine (record_length _ l _ (Sl.below Hl.out ((Below.refl _ _).alloc (Nat.le_refl _) _)) hn).mono ?_
      rintro e w1 ⟨rfl, n, hw1⟩
      have hc1 : w1.heap.size = w.heap.size + 1 := by rw [hw1]; simp
      have HB1 := Lib.hid (show Below w.heap.size w w1 by rw [hw1]; exact below_drewN ((Below.refl _ _).alloc (Nat.le_refl _) _) n)
      have HZ := Lib.hid (show Blk w1 w.heap.size 86 #[.int .i64 0, .int .i64 0, .int .u8 0, .slice none 0 0] by rw [hw1]; exact (Blk.new _ _ _).drewN n)
      clear hw1
      rw [Hli.out]
      go_wp2_with fail
      refine (record_blank _ l w1 (Sl.below Hl.out HB1.out) hn).mono ?_
      rintro e w' ⟨rfl, rfl⟩
      rw [Hbl.out]
      go_wp2_with (refine wpList_store_row rfl 86 _ _ rfl w.heap.size #[.int .i64 0, .int .i64 (min 4 (l.length : Int)), .int .u8 3, .slice none 0 0] rfl rfl 86 _ HZ.out Hz.out rfl (by simp [Value.oneCell']) ?_)
      (try simp only [Exit.inBlock, Exit.then])
      refine bodyPost_ret (results_cell_row rfl _ _ w.heap.size 86 #[.int .i64 0, .int .i64 (min 4 (l.length : Int)), .int .u8 3, .slice none 0 0] (0, 0) _ rfl (HZ.out.row _) Try.underlying86 rfl Hz.out) rfl ?_
      rw [Hp.out]
      refine ⟨_, ?_, Pay.nil _ _, below_setRow HB1.out (Nat.le_refl _) _⟩
      rw [show min 4 (l.length : Int) = ((min 4 l.length : Nat) : Int) by omega]
      rfl
    | some n =>
      have hpure : recAt l = if recBytes ((l.drop 4).take n) == l.take (recSize n) then ⟨0, recSize n, 1, (l.drop 4).take n⟩ else ⟨0, recSize n, 2, []⟩ := by unfold recAt; rw [hbl, hlen]; rfl
      have hbd : n ≤ 4080 ∧ recSize n ≤ l.length ∧ n + 12 ≤ recSize n := by
        unfold recLen at hlen
        split at hlen
        · cases hlen
        · split at hlen
          · cases hlen
          · simp only [] at hlen
            split at hlen
            · cases hlen
            · rename_i h
              cases hlen
              refine ⟨by omega, by omega, ?_⟩
              unfold recSize padN
              rw [if_neg (by omega)]
              omega
      have Hli := Lib.hid (show lenInt (recLen l) = (n : Int) by rw [hlen]; rfl)
      have Hpure := Lib.hid hpure
      clear hbl hlen hpure
      obtain ⟨hb1, hb2, hb3⟩ := hbd
      have hs2 : recSize n ≤ 4092 := by unfold recSize padN; split <;> omega
      obtain ⟨b, o, rfl, _, _⟩ := Hr.out (by rw [u8s_length]; omega)
      have hplen : ((l.drop 4).take n).length = n := by rw [List.length_take, List.length_drop]; omega
      have HP := Lib.hid (show Sl8 S w (.slice (some ⟨b, o + 4, none⟩) n (c - 4)) ((l.drop 4).take n) from ⟨_, c - 4, by rw [hplen], by rw [hplen]; omega, by
        have := (Hr.out.drop 4).take n
        rw [show ((u8s l).drop 4).take n = u8s ((l.drop 4).take n) by simp [u8s, List.map_take, List.map_drop]] at this
        rwa [show (some (⟨b, o, none⟩ : Addr)).map (·.add 4) = some ⟨b, o + 4, none⟩ by simp [addr_add]] at this⟩)
      have HT := Lib.hid (show Sl8 S w (.slice (some ⟨b, o, none⟩) (recSize n) c) (l.take (recSize n)) from ⟨_, c, by rw [List.length_take, Nat.min_eq_left hb2], by rw [List.length_take]; omega, by
        have := Hr.out.take (recSize n)
        rwa [show (u8s l).take (recSize n) = u8s (l.take (recSize n)) by simp [u8s, List.map_take]] at this⟩)
      have hsl1 : ∀ W, (Instr.slice 27 (.slice (some ⟨b, o, none⟩) l.length c) (some (.int .i64 4)) (some (.int .i64 (4 + (n : Int)))) none).run Try.prog W = .ok (.slice (some ⟨b, o + 4, none⟩) n (c - 4)) W := fun W => by
        rw [run_slice_lh W 27 _ _ _ Try.underlying27 .i64 .i64 4 (4 + (n : Int)) (by omega) (by omega) (by omega)]
        have h1 : ¬ c = 4 := by omega
        have h2 : (4 + (n : Int)).toNat - 4 = n := by omega
        simp [sliced, Result.andThen, Program.elem, Try.underlying27, Try.sizeOf5, addr_add, h1, h2]
      have hsl2 : ∀ W, (Instr.slice 27 (.slice (some ⟨b, o, none⟩) l.length c) none (some (.int .i64 (recSize n : Int))) none).run Try.prog W = .ok (.slice (some ⟨b, o, none⟩) (recSize n) c) W := fun W => by
        rw [run_slice_h W 27 _ _ _ Try.underlying27 .i64 (recSize n) (by omega) (by omega)]
        simp [sliced, Result.andThen, Program.elem, Try.underlying27, Try.sizeOf5, addr_add]
      go_enter Try.func97, Try.ntmps97
      go_wp2_with fail
      refine (record_length _ l _ (Sl.below Hl.out ((Below.refl _ _).alloc (Nat.le_refl _) _)) hn).mono ?_
      rintro e w1 ⟨rfl, nd, hw1⟩
      have HB1 := Lib.hid (show Below w.heap.size w w1 by rw [hw1]; exact below_drewN ((Below.refl _ _).alloc (Nat.le_refl _) _) nd)
      have HZ := Lib.hid (show Blk w1 w.heap.size 86 #[.int .i64 0, .int .i64 0, .int .u8 0, .slice none 0 0] by rw [hw1]; exact (Blk.new _ _ _).drewN nd)
      have hsz1 : w1.heap.size = w.heap.size + 1 := by rw [hw1]; simp
      clear hw1
      rw [Hli.out]
      go_wp2_with fail
      refine (record_blank _ l w1 (Sl.below Hl.out HB1.out) hn).mono ?_
      rintro e w' ⟨rfl, rfl⟩
      rw [Hbl.out]
      go_wp2_with fail
      refine (record_bytes _ ((l.drop 4).take n) w1 (Sl.below HP.out HB1.out) (by rw [hplen]; omega)).mono ?_
      rintro e w2 ⟨⟨v2, rfl, hv2⟩, hb2'⟩
      have HB2 := Lib.hid hb2'; clear hb2'
      have HV := Lib.hid hv2; clear hv2
      go_wp2_with fail
      refine (record_size n (by omega) w2).mono ?_
      rintro e w' ⟨rfl, rfl⟩
      have hsz2 : w1.heap.size ≤ w2.heap.size := HB2.out.size
      have HB3 := Lib.hid (show Below w.heap.size w w2 from below_next HB1.out HB2.out)
      have HZ2 := Lib.hid (Blk.below HZ.out HB2.out (by omega))
      go_wp2_with fail
      refine (bytes_equal v2 _ _ _ w2 (Own.of_row HV.out).sl (Sl.below HT.out HB3.out)).mono ?_
      rintro e w' ⟨rfl, rfl⟩
      cases hq : recBytes ((l.drop 4).take n) == l.take (recSize n) with
      | false =>
        have Hp := Lib.hid (show recAt l = ⟨0, recSize n, 2, []⟩ by rw [Hpure.out, hq]; rfl)
        go_wp2_with fail
        refine (record_size n (by omega) w2).mono ?_
        rintro e w' ⟨rfl, rfl⟩
        go_wp2_with (refine wpList_store_row rfl 86 _ _ rfl w.heap.size #[.int .i64 0, .int .i64 (recSize n), .int .u8 2, .slice none 0 0] rfl rfl 86 _ HZ2.out Hz.out rfl (by simp [Value.oneCell']) ?_)
        (try simp only [Exit.inBlock, Exit.then])
        refine bodyPost_ret (results_cell_row rfl _ _ w.heap.size 86 #[.int .i64 0, .int .i64 (recSize n), .int .u8 2, .slice none 0 0] (0, 0) _ rfl (HZ2.out.row _) Try.underlying86 rfl Hz.out) rfl ?_
        rw [Hp.out]
        exact ⟨_, rfl, Pay.nil _ _, below_setRow HB3.out (Nat.le_refl _) _⟩
      | true =>
        have Hp := Lib.hid (show recAt l = ⟨0, recSize n, 1, (l.drop 4).take n⟩ by rw [Hpure.out, hq]; rfl)
        go_wp2_with fail
        refine (record_size n (by omega) w2).mono ?_
        rintro e w' ⟨rfl, rfl⟩
        go_wp2_with fail
        refine (clone8 _ _ w2 (Sl.below HP.out HB3.out) (by rw [hplen]; omega)).mono ?_
        rintro e w3 ⟨⟨v3, rfl, hv3⟩, hb3'⟩
        obtain ⟨A3, c3, rfl, hc3⟩ := own_form hv3
        have HB4 := Lib.hid (show Below w.heap.size w w3 from below_next HB3.out hb3')
        have HZ3 := Lib.hid (Blk.below HZ2.out hb3' (by omega))
        have HV3 := Lib.hid hv3; clear hv3
        clear hb3'
        go_wp2_with (refine wpList_store_row rfl 86 _ _ rfl w.heap.size #[.int .i64 0, .int .i64 (recSize n), .int .u8 1, .slice A3 n c3] rfl rfl 86 _ HZ3.out Hz.out rfl (by simp [Value.oneCell']) ?_)
        (try simp only [Exit.inBlock, Exit.then])
        refine bodyPost_ret (results_cell_row rfl _ _ w.heap.size 86 #[.int .i64 0, .int .i64 (recSize n), .int .u8 1, .slice A3 n c3] (0, 0) _ rfl (HZ3.out.row _) Try.underlying86 rfl Hz.out) rfl ?_
        rw [Hp.out]
        rw [hplen] at HV3
        have hs3 := Pay.of_row (l := (l.drop 4).take n) (by rw [hplen]; exact own_lower HV3.out (show w.heap.size + 1 ≤ w2.heap.size by omega))
        obtain ⟨A4, c4, he4, hc4, hr4⟩ := hs3
        rw [hplen] at he4
        refine ⟨_, rfl, ?_, below_setRow HB4.out (Nat.le_refl _) _⟩
        refine Pay.mono (S := From (w.heap.size + 1)) (Pay.keep ⟨A4, c4, by rw [hplen]; exact he4, hc4, hr4⟩ fun b cs hb hk => Blk.rowFar hk (fun e => ?_) _) fun b hb => ?_
        · unfold From at hb; omega
        · unfold From at *; omega
end Go.Proofs.Ytmejngojpffcgaa
end

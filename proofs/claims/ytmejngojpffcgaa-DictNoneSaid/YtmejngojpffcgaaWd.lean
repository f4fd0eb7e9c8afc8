import Derived.Test.YtmejngojpffcgaaBase
/- A word as Lean's own data. -/
namespace Go.Ls
structure Wd where
  name : List UInt8
  flags : UInt8
  code : List UInt32
def letter (c : UInt8) : Bool := 32 < c && c ≤ 126
def Wd.right (x : Wd) : Bool := !(x.name.length == 0 || decide (31 < x.name.length) || x.flags &&& ~~~3 != 0 || decide (1000 < x.code.length)) && x.name.all letter
def le4 (x : UInt32) : List UInt8 := [x.toUInt8, (x >>> 8).toUInt8, (x >>> 16).toUInt8, (x >>> 24).toUInt8]
def Wd.bytes (x : Wd) : List UInt8 := [UInt8.ofNat x.name.length, x.flags, UInt8.ofNat x.code.length, UInt8.ofNat (x.code.length / 256)] ++ (x.name ++ x.code.flatMap le4)
def encode (l : List Wd) : Option (List UInt8) := if l.all Wd.right then some (l.flatMap Wd.bytes) else none

def str (l : List UInt8) : Value := .string ⟨l.toArray⟩
def wdV (x : Wd) (cv : Value) : Value := .agg #[str x.name, .int .u8 (b8 x.flags), cv]
def WdAt (S : Nat → Prop) (w : World) (v : Value) (x : Wd) : Prop := ∃ cv, v = wdV x cv ∧ Sl32 S w cv x.code
@[go_sem] theorem andNot_b8_3 (a : UInt8) : bits .andNot .u8 (b8 a) 3 = b8 (a &&& ~~~3) := andNot_b8 a 3
theorem b8_eq0 (a : UInt8) : b8 a = 0 ↔ a = 0 := ⟨fun h => b8_inj h, fun h => by rw [h]; rfl⟩
end Go.Ls

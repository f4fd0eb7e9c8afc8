/- The program's data and functions as Lean's own: no Go in this text. -/
namespace Go.Ls

def crcStep (r : UInt32) : UInt32 := (r >>> 1) ^^^ (3988292384 &&& (-(r &&& 1)))
def crcSteps (r : UInt32) : Nat → UInt32
  | 0 => r
  | n + 1 => crcStep (crcSteps r n)
def crcNib (s : UInt32) : UInt32 := (s >>> 4) ^^^ crcSteps (s &&& 15) 4
def crcByte (s : UInt32) (x : UInt8) : UInt32 := crcNib (crcNib (s ^^^ x.toUInt32))
def crcAdd (s : UInt32) (l : List UInt8) : UInt32 := l.foldl crcByte s

def padN (n : Nat) : Nat := (n + 3) / 4 * 4
def recSize (n : Nat) : Nat := if n > 4080 then 0 else padN n + 12
def recHead (n : Nat) : List UInt8 := [UInt8.ofNat (n / 256), UInt8.ofNat n, ~~~(UInt8.ofNat (n / 256)), ~~~(UInt8.ofNat n)]
def recFill (p : List UInt8) : List UInt8 := p ++ List.replicate (padN p.length - p.length) 255
def recSum (p : List UInt8) : UInt32 := ~~~(crcAdd (crcAdd 4294967295 (recHead p.length)) (recFill p))
def big4 (s : UInt32) : List UInt8 := [(s >>> 24).toUInt8, (s >>> 16).toUInt8, (s >>> 8).toUInt8, s.toUInt8]
def recBody (p : List UInt8) : List UInt8 := recFill p ++ big4 (recSum p)
def zero4 : List UInt8 := [0, 0, 0, 0]
def recBytes (p : List UInt8) : List UInt8 := recHead p.length ++ (recBody p ++ zero4)
def isBlank (b : List UInt8) : Bool := !b.any (· != 255)
def recLen (b : List UInt8) : Option Nat :=
  if b.length < 4 then none
  else if b.getD 0 0 ^^^ b.getD 2 0 != 255 || b.getD 1 0 ^^^ b.getD 3 0 != 255 then none
  else
    let n := (b.getD 0 0).toNat * 256 + (b.getD 1 0).toNat
    if n > 4080 ∨ recSize n > b.length then none else some n
def lenInt : Option Nat → Int
  | none => -1
  | some n => n
structure Rec where
  place : Nat
  size : Nat
  kind : UInt8
  payload : List UInt8
def recAt (b : List UInt8) : Rec :=
  if isBlank b then ⟨0, b.length, 0, []⟩
  else match recLen b with
    | none => ⟨0, min 4 b.length, 3, []⟩
    | some n => if recBytes ((b.drop 4).take n) == b.take (recSize n) then ⟨0, recSize n, 1, (b.drop 4).take n⟩ else ⟨0, recSize n, 2, []⟩

theorem recFill_length (p : List UInt8) : (recFill p).length = padN p.length := by
  simp only [recFill, List.length_append, List.length_replicate, padN]; omega
theorem recBody_length (p : List UInt8) : (recBody p).length = padN p.length + 4 := by
  simp [recBody, recFill_length, big4]
theorem recBytes_length (p : List UInt8) (h : p.length ≤ 4080) : (recBytes p).length = recSize p.length := by
  simp only [recBytes, List.length_append, recBody_length, recHead, zero4, recSize, if_neg (show ¬ p.length > 4080 by omega), List.length_cons, List.length_nil]; omega
end Go.Ls

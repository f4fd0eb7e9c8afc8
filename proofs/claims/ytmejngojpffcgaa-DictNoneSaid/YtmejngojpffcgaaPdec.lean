import Derived.Test.YtmejngojpffcgaaChunk
import Derived.Test.YtmejngojpffcgaaWords
/- The words of bytes: no Go in this text. -/
namespace Go.Ls
def cellL : List UInt8 → UInt32
  | [a, b, c, d] => cell4 a b c d
  | _ => 0
def cellsP (b : List UInt8) : List UInt32 := (fours b).map cellL
def wdBegin (r : List UInt8) : Nat := 4 + (r.getD 0 0).toNat
def wdEnd (r : List UInt8) : Nat := wdBegin r + 4 * ((r.getD 2 0).toNat + 256 * (r.getD 3 0).toNat)
def wdOf (r : List UInt8) : Wd := ⟨(r.take (wdBegin r)).drop 4, r.getD 1 0, cellsP ((r.take (wdEnd r)).drop (wdBegin r))⟩
def decF : Nat → List UInt8 → Option (List Wd)
  | 0, _ => some []
  | f + 1, r => if r.length = 0 then some [] else if r.length < 4 then none else if r.length < wdEnd r then none else if (wdOf r).right then (decF f (r.drop (wdEnd r))).map (wdOf r :: ·) else none
def decP (r : List UInt8) : Option (List Wd) := decF r.length r
theorem wdEnd_ge (r : List UInt8) : 4 ≤ wdEnd r := by unfold wdEnd wdBegin; omega
theorem decF_fuel : ∀ (f g : Nat) (r : List UInt8), r.length ≤ f → r.length ≤ g → decF f r = decF g r := by
  intro f
  induction f with
  | zero =>
    intro g r hf _
    cases g with
    | zero => rfl
    | succ g => rw [decF, decF, if_pos (by omega)]
  | succ f ih =>
    intro g r hf hg
    cases g with
    | zero => rw [decF, decF, if_pos (by omega)]
    | succ g =>
      rw [decF, decF]
      have := wdEnd_ge r
      split
      · rfl
      · split
        · rfl
        · split
          · rfl
          · rw [ih g (r.drop (wdEnd r)) (by rw [List.length_drop]; omega) (by rw [List.length_drop]; omega)]
theorem decP_eq (r : List UInt8) : decP r = if r.length = 0 then some [] else if r.length < 4 then none else if r.length < wdEnd r then none else if (wdOf r).right then (decP (r.drop (wdEnd r))).map (wdOf r :: ·) else none := by
  unfold decP
  rw [decF_fuel _ (r.length + 1) r (Nat.le_refl _) (by omega), decF]
  have := wdEnd_ge r
  split
  · rfl
  · split
    · rfl
    · split
      · rfl
      · rw [decF_fuel r.length (r.drop (wdEnd r)).length (r.drop (wdEnd r)) (by rw [List.length_drop]; omega) (Nat.le_refl _)]
theorem or_shift (a b : UInt8) : bits .or .i64 (b8 a) (b8 b * 256) = ((a.toNat + 256 * b.toNat : Nat) : Int) := by
  have hk : ∀ a b : UInt8, bits .or .i64 (b8 a) (b8 b * 256) = ((a.toNat + 256 * b.toNat : Nat) : Int) := by
    intro a b
    have ha := a.toNat_lt
    have hb := b.toNat_lt
    have e1 : BitVec.ofInt 64 (b8 a) = BitVec.ofNat 64 a.toNat := by unfold b8; apply BitVec.eq_of_toNat_eq; simp
    have e2 : BitVec.ofInt 64 (b8 b * 256) = BitVec.ofNat 64 (b.toNat * 256) := by unfold b8; apply BitVec.eq_of_toNat_eq; simp; omega
    show IntKind.i64.wrap ((BitVec.ofInt 64 (b8 a) ||| BitVec.ofInt 64 (b8 b * 256)).toNat : Int) = _
    rw [e1, e2]
    have : (BitVec.ofNat 64 a.toNat ||| BitVec.ofNat 64 (b.toNat * 256)).toNat = a.toNat + 256 * b.toNat := by
      rw [BitVec.toNat_or, BitVec.toNat_ofNat, BitVec.toNat_ofNat, Nat.mod_eq_of_lt (by omega), Nat.mod_eq_of_lt (by omega)]
      have := Nat.two_pow_add_eq_or_of_lt (i := 8) (b := a.toNat) (by omega) b.toNat
      rw [Nat.or_comm, Nat.mul_comm b.toNat 256, show (256 : Nat) = 2 ^ 8 from rfl, ← this]
      omega
    rw [this, IntKind.wrap_i64]
    omega
  exact hk a b
end Go.Ls

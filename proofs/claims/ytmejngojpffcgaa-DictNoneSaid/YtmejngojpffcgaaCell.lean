import Derived.Test.YtmejngojpffcgaaAt
import Derived.Test.YtmejngojpffcgaaWd
namespace Go.Ls
def cell4 (a b c d : UInt8) : UInt32 := a.toUInt32 ||| (b.toUInt32 <<< 8) ||| (c.toUInt32 <<< 16) ||| (d.toUInt32 <<< 24)
theorem shl_w32 (a : UInt32) (n : Nat) (h : n < 32) : w32 a * (2 ^ n : Nat) % 4294967296 = w32 (a <<< UInt32.ofNat n) := by
  unfold w32
  rw [UInt32.toNat_shiftLeft, Nat.shiftLeft_eq]
  have : (UInt32.ofNat n).toNat % 32 = n := by simp; omega
  rw [this]
  simp
theorem cell4_or (a b c d : UInt8) : bits .or .u32 (bits .or .u32 (bits .or .u32 (w32 a.toUInt32) (w32 b.toUInt32 * 256 % 4294967296)) (w32 c.toUInt32 * 65536 % 4294967296)) (w32 d.toUInt32 * 16777216 % 4294967296) = w32 (cell4 a b c d) := by
  rw [show w32 b.toUInt32 * (256 : Int) % (4294967296 : Int) = w32 (b.toUInt32 <<< 8) from shl_w32 _ 8 (by omega), show w32 c.toUInt32 * (65536 : Int) % (4294967296 : Int) = w32 (c.toUInt32 <<< 16) from shl_w32 _ 16 (by omega),
    show w32 d.toUInt32 * (16777216 : Int) % (4294967296 : Int) = w32 (d.toUInt32 <<< 24) from shl_w32 _ 24 (by omega), or_w32, or_w32, or_w32]
  rfl
end Go.Ls
namespace Go.Proofs.Ytmejngojpffcgaa
open Go.RowKit Go.Ls
set_option maxRecDepth 100000 in
set_option maxHeartbeats 400000 in
theorem image_cell {S : Nat → Prop} (v : Value) (a b c d : UInt8) (w : World) (hl : Sl8 S w v [a, b, c, d]) :
    Calls Try.prog 81 #[v] w fun e w' => e = .returned (.int .u32 (w32 (cell4 a b c d))) ∧ ∃ n, w' = w.drewN n := by
  obtain ⟨A, cc, rfl, hc, hr⟩ := hl
  obtain ⟨bb, o, rfl, h0, h1, h2, h3⟩ := cells4 hr (by simp)
  simp only [List.length_cons, List.length_nil] at *
  go_enter Try.func81, Try.ntmps81
  go_wp2_with fail
  go_quiet (fail)
  go_wp2_with fail
  go_ret
  exact ⟨ret_int (cell4_or a b c d), _, rfl⟩
end Go.Proofs.Ytmejngojpffcgaa

import Derived.Deep.RegionWith
import Derived.Laws.MakeOwn
import Derived.Test.YtmejngojpffcgaaFlash
namespace Go.Proofs.Ytmejngojpffcgaa
open Go.RowKit Go.Ls

theorem infoInt : (Try.prog.info? 3).map (fun i => (i.zero, i.size, i.bytes)) = some (some (.int .i64 0), 1, 8) := by kernel_rfl
theorem blk_new' {w : World} {t : TypeId} {cs : Array Value} {n : Nat} (h : n = w.heap.size) : Blk (w.alloc (.cells cs t)) n t cs := by subst h; exact Blk.new w t cs
theorem sl8_one {w : World} {b : Nat} {t : TypeId} (h : Blk w b t #[.int .u8 255]) : Sl8 (fun _ => True) w (.slice (some ⟨b, 0, none⟩) 1 1) [255] := sl8_blk (l := [255]) h rfl _ trivial 1 (Nat.le_refl _)
def RetNew (n : Nat) (w : World) (e : Ending) (w' : World) : Prop :=
  ∃ b bc o, e = .returned (.tuple #[.pointer (some ⟨b, 0, none⟩), .int .i64 0]) ∧ FlashAt w' (fun j => j = b ∨ j = bc) b bc o (Fl.new n) ∧ Below w.heap.size w w' ∧ w.heap.size ≤ b ∧ w.heap.size ≤ bc
theorem below_drew {B : Nat} {w W : World} (h : Below B w W) : Below B w W.drew := ⟨h.os, h.tape, h.output, h.size, h.block⟩
theorem new_done (w w1 : World) (b bc o c n : Nat) (A : Option Addr) (hb : Below w.heap.size w w1) (hbc : w.heap.size ≤ bc) (hcells : Cells w1 bc o (List.replicate (n * 256) 255)) (h8 : 8 ≤ n) (h256 : n ≤ 256) (hc : n * 256 ≤ c) (he : b = w1.heap.size) :
    RetNew n w (.returned (.tuple #[.pointer (some ⟨b, 0, none⟩), .int .i64 0])) (w1.alloc (.cells #[.slice (some ⟨bc, o, none⟩) (n * 256) c, .slice A n n, .pointer none, .bool false] 56)) := by
  subst he
  have hx : (List.replicate (n * 256) (255 : UInt8))[0]? = some 255 := by rw [List.getElem?_replicate]; exact if_pos (by omega)
  have hlt : bc < w1.heap.size := World.block_lt_of_cell? w1 ⟨bc, o + 0, none⟩ (hcells.at_ hx).1
  refine ⟨_, bc, o, rfl, ⟨by omega, ⟨.inl rfl, .inr rfl⟩, ⟨c, A, n, _, by simpa [Fl.new] using Blk.new w1 _ _, by simp [Fl.new]; omega, rfl⟩, hcells.keep (Below.heap_alloc _ _ _ hlt), by simp [Fl.new]; omega, by simp [Fl.new]; omega, by simp [Fl.new]; omega⟩, hb.alloc hb.size _, hb.size, hbc⟩
set_option maxRecDepth 100000 in
set_option maxHeartbeats 800000 in
theorem flash_new (n : Nat) (h8 : 8 ≤ n) (h256 : n ≤ 256) (w : World) : Calls Try.prog 17 #[.int .i64 n] w (RetNew n w) := by
  obtain ⟨i0, hi, hz0, hz1, hz2⟩ := info_parts infoInt
  have hmk : ∀ W : World, (Instr.makeSlice 53 (.int .i64 n) (.int .i64 n)).run Try.prog W = .ok (.slice (some ⟨W.heap.size, 0, none⟩) n n) (W.alloc (.cells (madeCells (Value.int .i64 0).cells (n * i0.size)) 3)) := fun W => by
    have := run_makeSlice (P := Try.prog) (w := W) 53 3 i0 (.int .i64 0) Try.underlying53 hi hz0 .i64 .i64 n n (by omega) (by omega) (by rw [hz1]; simp; omega) (by rw [hz2]; simp; omega) (by omega)
    simpa using this
  generalize madeCells (Value.int .i64 0).cells (n * i0.size) = wcs at hmk
  go_enter Try.func17, Try.ntmps17
  have hrep : ∀ v (W : World), Sl8 (fun _ => True) W v [255] → Calls Try.prog 49 #[v, .int .i64 (IntKind.i64.wrap ((n : Int) * 256))] W (RetOwn8 (From W.heap.size) W (List.replicate (n * 256) 255)) := fun v W hv => by
    have := bytes_repeat 255 (n * 256) (by omega) (by omega) v W hv
    rwa [show ((n * 256 : Nat) : Int) = IntKind.i64.wrap ((n : Int) * 256) by rw [IntKind.wrap_i64]; omega] at this
  have hpos : 0 < (List.replicate (n * 256) (255 : UInt8)).length := by rw [List.length_replicate]; omega
  obtain ⟨cl, hcl⟩ : ∃ cl, cl = List.replicate (n * 256) (255 : UInt8) := ⟨_, rfl⟩
  rw [← hcl] at hpos
  simp only [← hcl] at hrep
  have hlen : cl.length = n * 256 := by rw [hcl, List.length_replicate]
  have Hcl := Lib.hid hcl; clear hcl
  go_wp2_with fail
  go_region_with (go_at_call 49; refine (hrep _ _ (by first | exact sl8_one (Blk.drew (blk_new' (by simp))) | exact sl8_one (Blk.drew (Blk.alloc (blk_new' (by simp)) _)) | exact sl8_one (blk_new' (by simp)) | exact sl8_one (Blk.alloc (blk_new' (by simp)) _))).mono ?_; rintro e w' ⟨⟨v, rfl, hv⟩, hbe⟩; obtain ⟨bc, o, c, rfl, hc, hbc, hcells⟩ := Cells.of_own hv hpos)
  all_goals
    rw [Hcl.out] at hcells
    rw [hlen] at hc
    have Hc := Lib.hid hcells; clear hcells hv
    have Hbe := Lib.hid hbe; clear hbe
    have Hbc := Lib.hid hbc; clear hbc
    go_wp2_with fail
    go_ret2
  · have hb : Below w.heap.size w w' := (below_drew ((Below.refl _ w).alloc (Nat.le_refl _) _)).trans (Hbe.out.mono (by simp))
    have hbc : w.heap.size + 1 ≤ bc := by have := Hbc.out; unfold From at this; simpa using this
    have hx : (List.replicate (n * 256) (255 : UInt8))[0]? = some 255 := by rw [List.getElem?_replicate]; exact if_pos (by omega)
    have hlt : bc < w'.heap.size := World.block_lt_of_cell? w' ⟨bc, o + 0, none⟩ (Hc.out.at_ hx).1
    exact new_done w _ _ bc o c n _ (hb.alloc hb.size _) (by omega) (Hc.out.keep (Below.heap_alloc _ _ _ hlt)) h8 h256 hc (by simp)
  · have hb : Below w.heap.size w w' := (below_drew (((Below.refl _ w).alloc (Nat.le_refl _) _).alloc (by simp) _)).trans (Hbe.out.mono (by simp; omega))
    have hbc : w.heap.size + 2 ≤ bc := by have := Hbc.out; unfold From at this; simpa using this
    exact new_done w _ _ bc o c n _ hb (by omega) Hc.out h8 h256 hc rfl
  · have hb : Below w.heap.size w w' := (below_drew (((Below.refl _ w).alloc (Nat.le_refl _) _).alloc (by simp) _)).trans (Hbe.out.mono (by simp; omega))
    have hbc : w.heap.size + 2 ≤ bc := by have := Hbc.out; unfold From at this; simpa using this
    exact new_done w _ _ bc o c n _ hb (by omega) Hc.out h8 h256 hc rfl
end Go.Proofs.Ytmejngojpffcgaa

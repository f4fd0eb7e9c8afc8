import Derived.Test.YtmejngojpffcgaaProg
import Derived.Test.YtmejngojpffcgaaBase
import Derived.Lib.SlBuf
import Derived.Lib.MakeNoZero
import Derived.BigRegion
namespace Go.Proofs.Ytmejngojpffcgaa
open Go.RowKit Go.Ls

theorem mask_one : bits .and .u64 1 4294967295 = 1 := by decide
theorem mask_small (n : Nat) (hn : n < 1000000) : bits .and .u64 (n : Int) 4294967295 = n := by
  have h := bits_mask .u64 63 (by decide) (fun n h0 h1 => by simp [IntKind.wrap, IntKind.bits, IntKind.signed]; omega) 32 (by decide) (n : Int) (by omega) (by omega)
  rw [show (4294967295 : Int) = 2 ^ 32 - 1 by decide, h]; omega
theorem u64_in (n : Nat) (hn : n < 1000000) : IntKind.u64.wrap (n : Int) = n := by
  simp [IntKind.wrap, IntKind.bits, IntKind.signed]; omega
theorem mask_zero : bits .and .u64 0 4294967295 = 0 := by decide
theorem u64_zero : IntKind.u64.wrap 0 = 0 := by decide
set_option maxRecDepth 100000 in
set_option maxHeartbeats 400000 in
theorem bits_mul64_one (n : Nat) (hn : n < 1000000) (w : World) : Calls Try.prog 106 #[.int .u64 1, .int .u64 n] w fun e w' => e = .returned (.tuple #[.int .u64 0, .int .u64 n]) ∧ w = w' := by
  have h1 := mask_one
  have h2 := mask_small n hn
  have h3 : (n : Int) / 4294967296 = 0 := by omega
  have h4 := u64_in n hn
  have h5 := mask_zero
  have h6 := u64_zero
  go_enter Try.func106, Try.ntmps106
  go_wp2
  go_ret2
  exact ⟨rfl, rfl⟩
set_option maxRecDepth 100000 in
set_option maxHeartbeats 400000 in
theorem bits_mul_one (n : Nat) (hn : n < 1000000) (w : World) : Calls Try.prog 86 #[.int .u64 1, .int .u64 n] w fun e w' => e = .returned (.tuple #[.int .u64 0, .int .u64 n]) ∧ w = w' := by
  go_enter Try.func86, Try.ntmps86
  go_wp2_with (go_at_call 106; refine (bits_mul64_one n hn _).mono ?_; rintro e w' ⟨rfl, rfl⟩)
  go_ret2
  exact ⟨rfl, rfl⟩
theorem makeNoZero_run (n : Nat) (hn : n < 1000000) (w : World) : ∃ cs : Array Value, n ≤ cs.size ∧ (callFunc 87 #[.int .i64 (n : Int)]).run Try.prog w = .ok (.value (.slice (some ⟨w.heap.size, 0, none⟩) n cs.size)) ((w.alloc (.cells cs 5)).drewN 2) := by
  obtain ⟨cs, hrunM, hle, _⟩ := Lib.run_makeNoZero (P := Try.prog) w #[3] 27 5 Try.underlying27 n (by omega)
  refine ⟨cs, hle, ?_⟩
  rw [run_callFunc_extern Try.func87 (by kernel_rfl) (by kernel_rfl) (by kernel_rfl) (e := Extern.BytealgMakeNoZero.makeNoZero #[3] #[27]) (by kernel_rfl), hrunM]
  rfl
def RetOwn8 (S : Nat → Prop) (w : World) (l : List UInt8) (e : Ending) (w' : World) : Prop := (∃ v, e = .returned v ∧ Own8 S w' v l) ∧ Below w.heap.size w w'
theorem copy_rep {P : Program} (w0 wr : World) (h N k m : Nat) (x : UInt8) (t ty e : TypeId) (hu : P.underlying t = some (.slice e)) (hs : (P.info? e).map (·.size) = some 1)
    (hb : Lib.Buf w0 wr h N (List.replicate k x)) (hk : k < N) (hm : m ≤ k) :
    ∃ wr', (Builtin.copy_ #[t, t] ty #[.slice (some ⟨h, k, none⟩) (N - k) (N - k), .slice (some ⟨h, 0, none⟩) m N]).run P wr = .ok (.int .i64 ((min m (N - k) : Nat) : Int)) wr' ∧ Lib.Buf w0 wr' h N (List.replicate (k + min m (N - k)) x) := by
  obtain ⟨q, hq⟩ : ∃ q, min m (N - k) = q := ⟨_, rfl⟩
  have hq1 : q ≤ m := by omega
  have hq2 : k + q ≤ N := by omega
  have hr := run_copy_cells (P := P) wr t t ty e h k (N - k) (N - k) ⟨h, 0, none⟩ m N (List.replicate q (Value.int .u8 (x.toNat : Int))) hu hs (by rw [List.length_replicate]; exact hq.symm)
    (fun j u hj => by
      obtain ⟨hlt, he⟩ := List.getElem?_eq_some_iff.1 hj
      rw [List.length_replicate] at hlt
      rw [List.getElem_replicate] at he
      rw [addr_add, Nat.zero_add, ← he]
      exact hb.holds j x (by rw [List.getElem?_replicate, if_pos (by omega)]))
    (fun j hj => by rw [List.length_replicate] at hj; exact hb.there _ (by omega)) (fun j hj => by rw [List.length_replicate] at hj; exact hb.free _ (by omega))
    (fun u hu' => by rw [List.mem_replicate] at hu'; rw [hu'.2]; rfl)
  rw [List.length_replicate] at hr
  rw [hq]
  refine ⟨_, hr, ?_⟩
  have hin := World.cell?_setCells_in h (List.replicate q (Value.int .u8 (x.toNat : Int))) k wr (fun j hj => by rw [List.length_replicate] at hj; exact hb.there _ (by omega))
  have hout := World.cell?_setCells_out h (List.replicate q (Value.int .u8 (x.toNat : Int))) k wr
  have hcell : ∀ j, j < N → ((wr.setCells h k (List.replicate q (Value.int .u8 (x.toNat : Int)))).cell? ⟨h, j, none⟩).isSome = true ∧ (j < k + q → (wr.setCells h k (List.replicate q (Value.int .u8 (x.toNat : Int)))).cell? ⟨h, j, none⟩ = some (.int .u8 (x.toNat : Int))) := by
    intro j hj
    by_cases h1 : k ≤ j ∧ j < k + q
    · obtain ⟨d, rfl⟩ : ∃ d, j = k + d := ⟨j - k, by omega⟩
      have := hin d (by rw [List.length_replicate]; omega)
      rw [List.getElem_replicate] at this
      exact ⟨by rw [this]; rfl, fun _ => this⟩
    · have := hout ⟨h, j, none⟩ (fun _ _ => by rw [List.length_replicate]; show j < _ ∨ _ ≤ j; omega)
      rw [this]
      exact ⟨hb.there j hj, fun hlt => hb.holds j x (by rw [List.getElem?_replicate, if_pos (by omega)])⟩
  refine ⟨Lib.below_setCells h (Nat.le_refl _) _ _ hb.below, fun j hj => (hcell j hj).1, fun j hj => by rw [World.frozen?_setCells]; exact hb.free j hj, fun j y hy => ?_, by rw [List.length_replicate]; exact hq2⟩
  rw [List.getElem?_replicate] at hy
  split at hy
  · cases hy; exact (hcell j (by omega)).2 (by omega)
  · cases hy
theorem buf_drew {w0 wr : World} {h N : Nat} {l : List UInt8} (hb : Lib.Buf w0 wr h N l) : Lib.Buf w0 wr.drew h N l := ⟨hb.below.drew, hb.there, hb.free, hb.holds, hb.fits⟩
theorem own_buf {w0 wr : World} {h N : Nat} {l : List UInt8} (hb : Lib.Buf w0 wr h N l) (hl : l.length = N) (S : Nat → Prop) (hS : S h) : Own8 S wr (.slice (some ⟨h, 0, none⟩) N N) l := by
  subst hl
  refine ⟨_, _, rfl, Nat.le_refl _, fun _ => ⟨h, 0, rfl, hS, fun j u hu => ?_⟩⟩
  rw [Nat.zero_add]
  simp only [u8s, List.getElem?_map, Option.map_eq_some_iff] at hu
  obtain ⟨y, hy, rfl⟩ := hu
  exact ⟨hb.holds j y hy, hb.free j (List.getElem?_eq_some_iff.1 hy).1⟩
set_option maxRecDepth 100000 in
set_option maxHeartbeats 800000 in
theorem bytes_repeat {S : Nat → Prop} (x : UInt8) (n : Nat) (h0 : 0 < n) (hn : n < 1000000) (v : Value) (w : World) (hv : Sl8 S w v [x]) :
    Calls Try.prog 49 #[v, .int .i64 n] w (RetOwn8 (From w.heap.size) w (List.replicate n x)) := by
  obtain ⟨A, c, rfl, hc, hr⟩ := hv
  obtain ⟨b, o, rfl, _, hcell⟩ := hr.at_ (j := 0) (u8s_get (l := [x]) (by simp))
  simp only [List.length_singleton] at *
  obtain ⟨cs, hle, hrun⟩ := makeNoZero_run n hn w
  have hs5 : (Try.prog.info? 5).map (·.size) = some 1 := by kernel_rfl
  have B0 := Lib.Buf.start w cs 5 n 2 hle
  obtain ⟨w1, hr1, B1⟩ := Lib.copy_part (P := Try.prog) w _ w.heap.size n [] [x] (.slice (some ⟨b, o, none⟩) 1 c) 27 3 5 Try.underlying27 hs5 (Nat.le_refl _) B0
    ⟨_, c, rfl, (fun e => by cases e), (fun a e j y hy => by
      cases e
      cases j with
      | zero => cases hy; rw [addr_add]; exact hcell
      | succ j => simp at hy)⟩ (by simp; omega)
  rw [List.length_nil, Lib.tailV_zero] at hr1
  have HB1 := Lib.hid (show Lib.Buf w w1 w.heap.size n (List.replicate 1 x) from B1)
  clear B1 B0 hcell hr
  have Hs5 := Lib.hid hs5; clear hs5
  have hu : IntKind.u64.wrap (n : Int) = n := u64_in n hn
  have n0 : ((n : Int) == 0) = false := beq_eq_false_iff_ne.2 (by omega)
  obtain ⟨M, hM0, hM⟩ : ∃ M : Nat, 0 < M ∧ (M : Int) = if (n : Int) > 8192 then 8192 else (n : Int) := by
    by_cases h : (n : Int) > 8192
    · exact ⟨8192, by omega, by rw [if_pos h]; rfl⟩
    · exact ⟨n, by omega, by rw [if_neg h]⟩
  by_cases hbig : (n : Int) > 8192
  all_goals
    (first | rw [if_pos hbig] at hM | rw [if_neg hbig] at hM)
    obtain HM := Lib.hid hM
    clear hM
    go_enter Try.func49, Try.ntmps49
    go_wp2_with (first | (go_at_call 86; refine (bits_mul_one n hn _).mono ?_; rintro e w' ⟨rfl, rfl⟩) | (at_builtin; refine Lib.wpList_copy_run _ rfl _ _ 27 27 rfl _ _ rfl rfl hr1 ?_))
    go_loopw [10, 11] (fun p _ wr => ∃ k : Nat, 1 ≤ k ∧ k ≤ n ∧ p = .int .i64 k ∧ Hid (Lib.Buf w wr w.heap.size n (List.replicate k x))) (fun p _ _ => n - (intOf p).toNat)
    case atStart => exact ⟨1, by omega, by omega, rfl, HB1⟩
    case round =>
      obtain ⟨k, hk1, hk, rfl, hB⟩ := hrel
      by_cases hlt : k < n
      · obtain ⟨m, hm⟩ : ∃ m : Nat, (m : Int) = min (k : Int) (M : Int) := ⟨min k M, by omega⟩
        have hmk : m ≤ k := by omega
        have hm0 : 0 < m := by omega
        rw [HM.out] at hm
        have Hm := Lib.hid hm
        clear hm
        obtain ⟨w2, hr2, B2⟩ := copy_rep (P := Try.prog) w wr.drew w.heap.size n k m x 27 3 5 Try.underlying27 Hs5.out (buf_drew hB.out) hlt hmk
        have HB2 := Lib.hid B2
        clear B2
        have hsl1 : ∀ W, (Instr.slice 27 (.slice (some ⟨w.heap.size, 0, none⟩) n n) (some (.int .i64 (k : Int))) none none).run Try.prog W = .ok (.slice (some ⟨w.heap.size, k, none⟩) (n - k) (n - k)) W := fun W => by
          have := Lib.run_slice_tailV W 27 5 Try.underlying27 Try.sizeOf5 w.heap.size n k (by omega)
          unfold Lib.tailV at this
          rwa [if_neg (by omega)] at this
        have hsl2 : ∀ W, (Instr.slice 27 (.slice (some ⟨w.heap.size, 0, none⟩) n n) none (some (.int .i64 (m : Int))) none).run Try.prog W = .ok (.slice (some ⟨w.heap.size, 0, none⟩) m n) W := fun W => by
          rw [run_slice_h W 27 _ _ _ Try.underlying27 .i64 m (by omega) (by omega)]
          simp [sliced, Result.andThen, Program.elem, Try.underlying27, Try.sizeOf5, addr_add]
        go_wp2
        rw [← Hm.out]
        go_region
        go_wp2
        go_roundw
        case rel => exact ⟨k + min m (n - k), by omega, by omega, by go_num, HB2⟩
        case measure => simp [intOf]; omega
      · obtain rfl : k = n := by omega
        go_wp2
        go_ret
        exact ⟨⟨_, rfl, own_buf hB.out (by simp) _ (Nat.le_refl _)⟩, hB.out.below⟩
end Go.Proofs.Ytmejngojpffcgaa

import Derived.Test.YtmejngojpffcgaaProg
import Derived.Test.YtmejngojpffcgaaBase
import Derived.Test.YtmejngojpffcgaaPure
namespace Go.Proofs.Ytmejngojpffcgaa
open Go.RowKit Go.Ls

set_option maxRecDepth 100000 in
set_option maxHeartbeats 400000 in
theorem crc_step (r : UInt32) (w : World) : Calls Try.prog 137 #[.int .u32 (w32 r)] w fun e w' => e = .returned (.int .u32 (w32 (crcStep r))) ∧ w = w' := by
  go_enter Try.func137, Try.ntmps137
  go_wp2
  go_ret
  exact ⟨rfl, rfl⟩
set_option maxRecDepth 100000 in
set_option maxHeartbeats 400000 in
theorem crc_steps (r : UInt32) (n : Nat) (hn : n < 1000) (w : World) : Calls Try.prog 132 #[.int .u32 (w32 r), .int .i64 n] w fun e w' => e = .returned (.int .u32 (w32 (crcSteps r n))) ∧ w = w' := by
  go_enter Try.func132, Try.ntmps132
  go_wp2
  go_loop [0, 6] (fun a i => ∃ k : Nat, k ≤ n ∧ a = .int .u32 (w32 (crcSteps r k)) ∧ i = .int .i64 k) (fun _ i => n - (intOf i).toNat)
  case atStart => exact ⟨0, Nat.zero_le _, rfl, rfl⟩
  case round =>
    obtain ⟨k, hk, rfl, rfl⟩ := hrel
    by_cases hlt : k < n
    · go_wp2_with (go_at_call 137; refine (crc_step _ _).mono ?_; rintro e w' ⟨rfl, rfl⟩)
      go_round
      case rel => exact ⟨k + 1, by omega, rfl, by go_num⟩
      case measure => simp [intOf]; omega
    · have : k = n := by omega
      subst this
      go_wp2
      go_ret
      exact ⟨rfl, rfl⟩
theorem crc_begin (w : World) : Calls Try.prog 109 #[] w fun e w' => e = .returned (.int .u32 (w32 4294967295)) ∧ w = w' := by
  go_enter Try.func109, Try.ntmps109
  go_wp2
  go_ret
  exact ⟨rfl, rfl⟩
theorem crc_end (r : UInt32) (w : World) : Calls Try.prog 107 #[.int .u32 (w32 r)] w fun e w' => e = .returned (.int .u32 (w32 (~~~r))) ∧ w = w' := by
  go_enter Try.func107, Try.ntmps107
  go_wp2
  go_ret
  exact ⟨rfl, rfl⟩

theorem crc_table1 (n : Nat) (w : World) : Calls Try.prog 131 #[.int .i64 n] w fun e w' => e = .returned (.int .u32 (w32 (crcSteps (UInt32.ofNat n) 4))) ∧ w = w' := by
  have hw : IntKind.u32.wrap (n : Int) = w32 (UInt32.ofNat n) := by
    rw [IntKind.wrap_u32]; unfold w32; simp
  go_enter Try.func131, Try.ntmps131
  go_wp2_with fail
  refine (crc_steps _ 4 (by omega) _).mono ?_
  rintro e w' ⟨rfl, rfl⟩
  go_wp2
  go_ret
  exact ⟨rfl, rfl⟩
def crcTab (k : Nat) : List Value := (List.range 16).map fun j => if j < k then .int .u32 (w32 (crcSteps (UInt32.ofNat j) 4)) else .int .u32 0
theorem crcTab_get (k j : Nat) (hj : j < 16) : (crcTab k)[j]? = some (if j < k then .int .u32 (w32 (crcSteps (UInt32.ofNat j) 4)) else .int .u32 0) := by simp [crcTab, hj]
theorem crcTab_one (k : Nat) : (crcTab k).toArray.all (·.oneCell') = true := all_oneCell_toArray fun v hv => by
  simp only [crcTab, List.mem_map] at hv
  obtain ⟨j, _, rfl⟩ := hv
  split <;> rfl
theorem crcTab_size (k : Nat) : (crcTab k).toArray.size = 16 := by simp [crcTab]
theorem crcTab_set (k : Nat) (hk : k < 16) : (crcTab k).toArray.setIfInBounds k (.int .u32 (w32 (crcSteps (UInt32.ofNat k) 4))) = (crcTab (k + 1)).toArray := by
  rw [List.setIfInBounds_toArray]
  congr 1
  apply List.ext_getElem?
  intro i
  rw [List.getElem?_set]
  by_cases hi : i < 16
  · rw [crcTab_get k i hi, crcTab_get (k + 1) i hi]
    by_cases h : k = i
    · subst h; simp [crcTab]; exact hk
    · rw [if_neg h]; congr 1
      by_cases h2 : i < k
      · rw [if_pos h2, if_pos (by omega)]
      · rw [if_neg h2, if_neg (by omega)]
  · rw [if_neg (by omega), List.getElem?_eq_none (by simp [crcTab]; omega), List.getElem?_eq_none (by simp [crcTab]; omega)]
set_option maxRecDepth 100000 in
set_option maxHeartbeats 400000 in
theorem crc_table (w : World) : Calls Try.prog 124 #[] w fun e w' => e = .returned (.agg (crcTab 16).toArray) ∧ Below w.heap.size w w' := by
  have hi : (Try.prog.info? 185).map (·.size) = some 16 := by kernel_rfl
  go_enter Try.func124, Try.ntmps124
  go_wp2_with fail
  go_loopw [3, 4] (fun a i wr => ∃ k : Nat, k ≤ 16 ∧ i = .int .i64 k ∧ Blk wr (w.heap.size + 1) 185 (crcTab k).toArray ∧ Blk wr w.heap.size 185 (crcTab 0).toArray ∧ Below w.heap.size w wr) (fun _ i _ => 16 - (intOf i).toNat)
  case atStart =>
    refine ⟨0, by omega, rfl, ?_, ?_, ((Below.refl _ _).alloc (by simp) _).alloc (by simp) _⟩
    · exact heap_alloc2_new _ _ _
    · exact heap_alloc2_old _ _ _
  case round =>
    obtain ⟨k, hk, rfl, hb, hb0, hB⟩ := hrel
    by_cases hlt : k < 16
    · have hc := hb.cellv (j := k) (by simpa using crcTab_get k k hlt)
      have hf := hb.frozen k
      have Hb := Lib.hid hb; clear hb
      have Hb0 := Lib.hid hb0; clear hb0
      have Hi := Lib.hid hi; clear hi
      go_wp2_with (go_at_call 131; refine (crc_table1 _ _).mono ?_; rintro e w' ⟨rfl, rfl⟩)
      go_roundw
      case rel => exact ⟨k + 1, by omega, by go_num, by rw [← crcTab_set k hlt]; exact Hb.out.set k _, Hb0.out.far (by simp) _, hB.setCell (p := ⟨w.heap.size + 1, k, none⟩) (by simp) _⟩
      case measure => simp [intOf]; omega
    · have : k = 16 := by omega
      subst this
      have Hb := Lib.hid hb; clear hb
      have Hb0 := Lib.hid hb0; clear hb0
      have Hi := Lib.hid hi; clear hi
      go_wp2_with (first | (refine wpList_load_row rfl 185 _ rfl (w.heap.size + 1) rfl 185 _ (0, 0) _ Hb.out Try.underlying185 rfl Hi.out ?_) | (refine wpList_store_row rfl 185 _ _ rfl w.heap.size (crcTab 16).toArray rfl rfl 185 _ Hb0.out Hi.out (by rw [crcTab_size, crcTab_size]) (crcTab_one 16) ?_))
      (try simp only [Exit.inBlock, Exit.then])
      refine bodyPost_ret (results_cell_row rfl _ _ w.heap.size 185 _ (0, 0) _ rfl (Hb0.out.row (crcTab 16).toArray) Try.underlying185 rfl Hi.out) rfl ⟨rfl, below_setRow hB (Nat.le_refl _) _⟩
theorem crcTab_at (a : UInt32) : (crcTab 16)[(w32 (a &&& 15)).toNat]? = some (.int .u32 (w32 (crcSteps (a &&& 15) 4))) := by
  have h := w32_and15_lt a 16 rfl
  have h0 := w32_nonneg (a &&& 15)
  rw [crcTab_get 16 _ (by omega), if_pos (by omega)]
  have : UInt32.ofNat (w32 (a &&& 15)).toNat = a &&& 15 := by
    unfold w32; simp
  rw [this]
set_option maxRecDepth 100000 in
set_option maxHeartbeats 400000 in
theorem crc_add (s : UInt32) {S : Nat → Prop} (v : Value) (l : List UInt8) (w : World) (hl : Sl8 S w v l) (hn : l.length ≤ 140737488355328) :
    Calls Try.prog 108 #[.int .u32 (w32 s), v] w fun e w' => e = .returned (.int .u32 (w32 (crcAdd s l))) ∧ Below w.heap.size w w' := by
  have hi : (Try.prog.info? 185).map (·.size) = some 16 := by kernel_rfl
  have Hi := Lib.hid hi; clear hi
  obtain ⟨A, c, rfl, hc, hr⟩ := hl
  go_enter Try.func108, Try.ntmps108
  go_wp2_with (first | (go_at_call 124; refine (crc_table _).mono ?_; rintro e w1 ⟨rfl, hB1⟩) | (refine wpList_store_row rfl 185 _ _ rfl w1.heap.size (crcTab 16).toArray rfl rfl 185 _ (heap_alloc_new _ _) Hi.out (by rw [crcTab_size]; rfl) (crcTab_one 16) ?_))
  refine wp_gen fun W HW => ?_
  have HT := Lib.hid (show Blk W w1.heap.size 185 (crcTab 16).toArray by rw [HW.out]; exact (Blk.new w1 _ _).row _)
  have HBW : Below w.heap.size w W := by rw [HW.out]; exact below_setRow (hB1.alloc hB1.size _) hB1.size _
  have HR := Lib.hid (hr.below HBW)
  clear HW hr
  have htab : ∀ a : UInt32, W.cell? ⟨w1.heap.size, (w32 (a &&& 15)).toNat, none⟩ = some (.int .u32 (w32 (crcSteps (a &&& 15) 4))) := fun a => HT.out.cellv (by simpa using crcTab_at a)
  go_loop [0, 7, 11] (fun a _ i => ∃ k : Nat, k ≤ l.length ∧ a = .int .u32 (w32 (crcAdd s (l.take k))) ∧ i = .int .i64 k) (fun _ _ i => l.length - (intOf i).toNat)
  case atStart => exact ⟨0, Nat.zero_le _, rfl, rfl⟩
  case round =>
    obtain ⟨k, hk, rfl, rfl⟩ := hrel
    by_cases hlt : k < l.length
    · obtain ⟨b, o, rfl, _, hcell⟩ := HR.out.at_ (u8s_get hlt)
      have HS := Lib.hid (show crcAdd s (l.take (k + 1)) = crcByte (crcAdd s (l.take k)) l[k] by rw [List.take_succ_eq_append_getElem hlt, crcAdd, List.foldl_append]; rfl)
      go_wp2
      go_round
      case rel => exact ⟨k + 1, by omega, by rw [HS.out]; rfl, by go_num⟩
      case measure => simp [intOf]; omega
    · go_wp2
      go_ret
      exact ⟨ret_int (by rw [List.take_of_length_le (by omega)]), HBW⟩
end Go.Proofs.Ytmejngojpffcgaa

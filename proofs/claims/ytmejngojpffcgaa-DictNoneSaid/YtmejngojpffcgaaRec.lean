import Derived.Test.YtmejngojpffcgaaCrc
import Derived.Test.YtmejngojpffcgaaBytes
import Derived.Test.YtmejngojpffcgaaRep
namespace Go.Proofs.Ytmejngojpffcgaa
open Go.RowKit Go.Ls

set_option maxRecDepth 100000 in
theorem record_padded (n : Nat) (hn : n ≤ 100000) (w : World) : Calls Try.prog 88 #[.int .i64 n] w fun e w' => e = .returned (.int .i64 (padN n)) ∧ w = w' := by
  go_enter Try.func88, Try.ntmps88
  go_wp2
  go_ret
  exact ⟨ret_int (by unfold padN; omega), rfl⟩
set_option maxRecDepth 100000 in
theorem record_size (n : Nat) (hn : n ≤ 140737488355328) (w : World) : Calls Try.prog 58 #[.int .i64 n] w fun e w' => e = .returned (.int .i64 (recSize n)) ∧ w = w' := by
  by_cases h : n > 4080
  · have hs : recSize n = 0 := if_pos h
    have Hs := Lib.hid hs; clear hs
    go_enter Try.func58, Try.ntmps58
    go_wp2
    go_ret
    exact ⟨ret_int (by rw [Hs.out]; rfl), rfl⟩
  · have hs : recSize n = padN n + 12 := if_neg h
    have Hs := Lib.hid hs; clear hs
    go_enter Try.func58, Try.ntmps58
    have hb : padN n ≤ 4080 := by unfold padN; omega
    go_wp2_with (go_at_call 88; refine (record_padded n (by omega) _).mono ?_; rintro e w' ⟨rfl, rfl⟩)
    go_ret
    exact ⟨ret_int (by rw [Hs.out]; omega), rfl⟩
set_option maxRecDepth 100000 in
theorem bytes_repeat0 (v : Value) (w : World) :
    Calls Try.prog 49 #[v, .int .i64 0] w fun e w' => e = .returned (.slice (some ⟨w.heap.size, 0, none⟩) 0 0) ∧ w' = w.alloc (.cells #[] 5) := by
  go_enter Try.func49, Try.ntmps49
  go_wp2
  go_ret
  exact ⟨rfl, rfl⟩
/-- bytes.Repeat of one byte, of any count that is small. -/
theorem bytes_repeat_any {S : Nat → Prop} (x : UInt8) (n : Nat) (hn : n < 1000000) (v : Value) (w : World) (hv : Sl8 S w v [x]) :
    Calls Try.prog 49 #[v, .int .i64 n] w (RetOwn8 (From w.heap.size) w (List.replicate n x)) := by
  rcases Nat.eq_zero_or_pos n with rfl | h
  · refine (bytes_repeat0 v w).mono ?_
    rintro e w' ⟨rfl, rfl⟩
    exact ⟨⟨_, rfl, ⟨_, 0, rfl, by simp, fun h => by simp [u8s] at h⟩⟩, (Below.refl _ _).alloc (Nat.le_refl _) _⟩
  · exact bytes_repeat x n h hn v w hv
theorem make8_4 (W : World) : (Instr.makeSlice 27 (.int .i64 4) (.int .i64 4)).run Try.prog W = .ok (.slice (some ⟨W.heap.size, 0, none⟩) 4 4) (W.alloc (.cells #[.int .u8 0, .int .u8 0, .int .u8 0, .int .u8 0] 5)) := by kernel_rfl
/-- The three parts of a record. -/
def RetParts (w : World) (l : List UInt8) (e : Ending) (w' : World) : Prop :=
  ∃ h b z, e = .returned (.agg #[h, b, z]) ∧ Sl8 (From w.heap.size) w' h (recHead l.length) ∧ Sl8 (From w.heap.size) w' b (recBody l) ∧ Sl8 (From w.heap.size) w' z zero4 ∧ Below w.heap.size w w'
theorem sl8_blk {w : World} {b : Nat} {t : TypeId} {l : List UInt8} {cs : Array Value} (h : Blk w b t cs) (hcs : cs.toList = u8s l) (S : Nat → Prop) (hS : S b) (c : Nat) (hc : l.length ≤ c) : Sl8 S w (.slice (some ⟨b, 0, none⟩) l.length c) l :=
  ⟨_, c, rfl, hc, Row.blk h hS (n := l.length) (by rw [hcs, ← u8s_length, List.take_length])⟩
set_option maxRecDepth 100000 in
set_option maxHeartbeats 1000000 in
theorem record_parts {S : Nat → Prop} (v : Value) (l : List UInt8) (w : World) (hl : Sl8 S w v l) (hn : l.length ≤ 4080) :
    Calls Try.prog 89 #[v] w (RetParts w l) := by
  have hi3 : (Try.prog.info? 141).map (·.size) = some 3 := by kernel_rfl
  have Hi3 := Lib.hid hi3; clear hi3
  obtain ⟨A, c, rfl, hc, hr⟩ := hl
  have Hr := Lib.hid hr; clear hr
  have e1 : (l.length : Int) / 256 = b8 (UInt8.ofNat (l.length / 256)) := by
    unfold b8; simp; omega
  have E1 := Lib.hid e1; clear e1
  have c2 := u8_of_nat l.length
  have hpad : padN l.length ≤ 4080 ∧ l.length ≤ padN l.length := by unfold padN; omega
  go_enter Try.func89, Try.ntmps89
  go_wp2_with fail
  rw [E1.out, not_b8]
  refine calls_gen fun W1 HW1 => ?_
  have HH := Lib.hid (show Blk W1 (w.heap.size + 1) 5 (u8s (recHead l.length)).toArray by rw [HW1.out]; exact heap_alloc2_new _ _ _)
  have HZ := Lib.hid (show Blk W1 w.heap.size 141 #[.slice none 0 0, .slice none 0 0, .slice none 0 0] by rw [HW1.out]; exact heap_alloc2_old _ _ _)
  have HB1 : Below w.heap.size w W1 := by rw [HW1.out]; exact ((Below.refl _ _).alloc (Nat.le_refl _) _).alloc (by simp) _
  have hs1 : W1.heap.size = w.heap.size + 2 := by rw [HW1.out]; simp
  clear HW1 c2
  refine (clone8 _ l W1 ⟨A, c, rfl, hc, Hr.out.below HB1⟩ (by omega)).mono ?_
  rintro e w1 ⟨⟨cv, rfl, ho⟩, hB⟩
  have HO1 := Lib.hid ho; clear ho
  have HBe := Lib.hid hB; clear hB
  go_wp2_with fail
  refine (record_padded l.length (by omega) _).mono ?_
  rintro e w' ⟨rfl, rfl⟩
  go_wp2_with fail
  rw [show ((padN l.length : Nat) : Int) - (l.length : Int) = ((padN l.length - l.length : Nat) : Int) by omega]
  refine calls_gen fun W2 HW2 => ?_
  have HF := Lib.hid (show Blk W2 w1.heap.size 5 (u8s [255]).toArray by rw [HW2.out]; exact Blk.new _ _ _)
  have HB2 := Lib.hid (show Below w1.heap.size w1 W2 by rw [HW2.out]; exact (Below.refl _ _).alloc (Nat.le_refl _) _)
  clear HW2
  refine (bytes_repeat_any 255 (padN l.length - l.length) (by omega) _ W2 (sl8_blk HF.out (by simp) (fun _ => True) trivial 1 (by simp))).mono ?_
  rintro e w2 ⟨⟨rv, rfl, hrv⟩, hB⟩
  obtain ⟨A2, c2, hv2, hc2, hr2⟩ := hrv.sl
  rw [List.length_replicate] at hv2 hc2
  subst hv2
  clear hrv
  have HB3 := Lib.hid (below_next HB2.out hB); clear hB HB2 HF
  have HR2 := Lib.hid hr2; clear hr2
  have HO2 := Lib.hid (own_below HO1.out HB3.out); clear HO1
  have HB4 := Lib.hid (below_next HBe.out HB3.out); clear HBe HB3
  have hlf := recFill_length l
  have Hlf := Lib.hid hlf; clear hlf
  go_wp2_with (at_builtin; go_must (refine wpList_app elem8 rfl _ _ rfl W1.heap.size cv l.length (u8s l) rfl HO2.out A2 (padN l.length - l.length) c2 (u8s (List.replicate (padN l.length - l.length) 255)) rfl HR2.out (by simp [u8s]) (one8 _) (padN l.length) (by omega) (u8s (recFill l)) (u8s_append _ _) (by omega) (by omega) HB4.out.size ?_); intro A3 c3 w3 ho3 hg3 _)
  have hlt3 : ∀ k, cv.ownBlock = some k → W1.heap.size ≤ k := fun k hk => (HO2.out.lt k hk).1
  have HB5 := Lib.hid (below_grown HB4.out hg3.out HB4.out.size hlt3)
  have HO4 := ho3
  clear ho3 hg3 HO2 HB4 HR2 hlt3 hc2
  refine (crc_begin _).mono ?_
  rintro e w' ⟨rfl, rfl⟩
  go_wp2_with fail
  refine (crc_add 4294967295 _ (recHead l.length) w3 (sl8_blk (HH.out.below HB5.out (by omega)) (by simp) (fun _ => True) trivial 4 (Nat.le_refl _)) (by show 4 ≤ _; omega)).mono ?_
  rintro e w4 ⟨rfl, hB⟩
  have HB6 := Lib.hid hB; clear hB
  go_wp2_with fail
  have HO4' := Lib.hid (own_below HO4.out HB6.out); clear HO4
  refine (crc_add _ (.slice A3 (padN l.length) c3) (recFill l) w4 (by have := (Own.of_row HO4'.out).sl; unfold Sl8; rw [Hlf.out]; exact this) (by rw [Hlf.out]; omega)).mono ?_
  rintro e w5 ⟨rfl, hB⟩
  have HO5 := Lib.hid (own_below HO4'.out hB)
  have HB7 := Lib.hid (below_next HB5.out ((below_next HB6.out hB).mono (Nat.le_refl _))); clear hB HB6 HB5 HO4'
  go_wp2_with fail
  refine (crc_end _ _).mono ?_
  rintro e w' ⟨rfl, rfl⟩
  rw [show ~~~(crcAdd (crcAdd 4294967295 (recHead l.length)) (recFill l)) = recSum l from rfl]
  have hsz := HB7.out.size
  go_wp2_with (at_builtin; go_must (refine wpList_app elem8 rfl _ _ rfl W1.heap.size (.slice A3 (padN l.length) c3) (padN l.length) (u8s (recFill l)) rfl (own_below HO5.out ((Below.refl _ _).alloc (Nat.le_refl _) _)) _ 4 4 (u8s (big4 (recSum l))) rfl (Row.blk (S := fun _ => True) (t := 5) (cs := (u8s (big4 (recSum l))).toArray) (heap_alloc_new _ _) trivial (n := 4) rfl) rfl (one8 _) (padN l.length + 4) rfl (u8s (recBody l)) (u8s_append _ _) (by omega) (by omega) (by simp; omega) ?_); intro A6 c6 w6 ho6 hg6 _; refine stop_here ?_)
  have hlt6 : ∀ k, (Value.slice A3 (padN l.length) c3).ownBlock = some k → W1.heap.size ≤ k := fun k hk => (HO5.out.lt k hk).1
  have HB8 := Lib.hid (below_grown (HB7.out.alloc HB7.out.size _) hg6.out (by simp; omega) hlt6)
  have hmk := make8_4
  have HZ6 := Lib.hid ((HZ.out.below HB8.out (by omega)).alloc (.cells #[.int .u8 0, .int .u8 0, .int .u8 0, .int .u8 0] 5))
  have HH6 := Lib.hid ((HH.out.below HB8.out (by omega)).alloc (.cells #[.int .u8 0, .int .u8 0, .int .u8 0, .int .u8 0] 5))
  have hsz6 := HB8.out.size
  clear hg6 hlt6 hsz
  refine go_on ?_
  go_wp2_with (refine wpList_store_row rfl 141 _ _ rfl w.heap.size #[.slice (some ⟨w.heap.size + 1, 0, none⟩) 4 4, .slice A6 (padN l.length + 4) c6, .slice (some ⟨w6.heap.size, 0, none⟩) 4 4] rfl rfl 141 _ HZ6.out Hi3.out rfl (by simp [Value.oneCell']) ?_)
  (try simp only [Exit.inBlock, Exit.then])
  refine bodyPost_ret (results_cell_row rfl _ _ w.heap.size 141 #[.slice (some ⟨w.heap.size + 1, 0, none⟩) 4 4, .slice A6 (padN l.length + 4) c6, .slice (some ⟨w6.heap.size, 0, none⟩) 4 4] (0, 0) _ rfl (HZ6.out.row _) Try.underlying141 rfl Hi3.out) rfl ?_
  have hw : ∀ k, k < w6.heap.size → k ≠ w.heap.size → ((w6.alloc (.cells #[.int .u8 0, .int .u8 0, .int .u8 0, .int .u8 0] 5)).setRow w.heap.size #[.slice (some ⟨w.heap.size + 1, 0, none⟩) 4 4, .slice A6 (padN l.length + 4) c6, .slice (some ⟨w6.heap.size, 0, none⟩) 4 4]).heap[k]? = w6.heap[k]? := fun k hk hne => (setRow_other _ _ _ _ hne).trans (Below.heap_alloc _ _ _ hk)
  refine ⟨_, _, _, rfl, ?_, ?_, ?_, ?_⟩
  · exact sl8_blk (l := recHead l.length) (HH6.out.rowFar (g := w.heap.size) (by omega) _) (by simp) (From w.heap.size) (show w.heap.size ≤ w.heap.size + 1 by omega) 4 (Nat.le_refl _)
  · have h6 := (Own.of_row ho6.out).sl
    have : Sl8 (From W1.heap.size) w6 (.slice A6 (padN l.length + 4) c6) (recBody l) := by unfold Sl8; rw [recBody_length]; exact h6
    exact (Sl.keep this fun b hb hf => hw b hb (by have : W1.heap.size ≤ b := hf; omega)).mono fun b hb => by have : W1.heap.size ≤ b := hb; show w.heap.size ≤ b; omega
  · have hz := (Blk.new w6 5 (u8s zero4).toArray).rowFar (g := w.heap.size) (by omega) #[.slice (some ⟨w.heap.size + 1, 0, none⟩) 4 4, .slice A6 (padN l.length + 4) c6, .slice (some ⟨w6.heap.size, 0, none⟩) 4 4]
    exact sl8_blk (l := zero4) hz (by simp) (From w.heap.size) (show w.heap.size ≤ w6.heap.size by omega) 4 (Nat.le_refl _)
  · exact below_setRow ((HB1.trans (HB8.out.mono (by omega))).alloc (by omega) _) (Nat.le_refl _) _
end Go.Proofs.Ytmejngojpffcgaa

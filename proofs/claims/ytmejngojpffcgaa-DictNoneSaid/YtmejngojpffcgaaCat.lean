import Derived.Test.YtmejngojpffcgaaRec
import Derived.Lib.AppendZeros
namespace Go.Proofs.Ytmejngojpffcgaa
open Go.RowKit Go.Ls

/-- slices.Grow of nil: room for n. -/
def RetGrow (w : World) (n : Nat) (e : Ending) (w' : World) : Prop := ∃ A c, e = .returned (.slice A 0 c) ∧ n ≤ c ∧ w'.ownsRow w.heap.size 5 1 (.slice A 0 c) 0 [] ∧ Below w.heap.size w w'
set_option maxRecDepth 100000 in
set_option maxHeartbeats 400000 in
theorem grow8 (n : Nat) (h0 : 0 < n) (hn : n ≤ 1000000) (w : World) : Calls Try.prog 112 #[.slice none 0 0, .int .i64 n] w (RetGrow w n) := by
  obtain ⟨i, hi, hz, hs, hb⟩ := info_parts elem8.info
  have hr := Lib.run_append_nil_zeros (P := Try.prog) w 27 3 27 5 i (.int .u8 0) .i64 .i64 Try.underlying27 Try.underlying3 hi hz n h0 (by omega) (by omega) (by rw [hb]; omega)
  have hge := grownCap_ge w n 0 5
  have hle := grownCap_le_maxLen w n 0 5 (by simp only [maxLen]; omega)
  have hsz : (Builtin.zeroCells (Value.int .u8 0).cells n ++ Builtin.zeroCells (Value.int .u8 0).cells (grownCap w n 0 5 - n)).size = grownCap w n 0 5 * 1 := by
    rw [Array.size_append, size_zeroCells, size_zeroCells]
    show n * 1 + (_ - n) * 1 = _
    omega
  generalize (Builtin.zeroCells (Value.int .u8 0).cells n ++ Builtin.zeroCells (Value.int .u8 0).cells (grownCap w n 0 5 - n)) = cur at hr hsz
  generalize grownCap w n 0 5 = cap at hr hge hle hsz
  have Hr := Lib.hid hr; clear hr
  have Hsz := Lib.hid hsz; clear hsz
  clear hi hz hs hb
  go_enter Try.func112, Try.ntmps112
  go_wp2_with (at_builtin; go_must (refine wpList_append_eq rfl _ _ 27 3 rfl _ _ rfl rfl Hr.out ?_))
  go_ret
  refine ⟨_, _, rfl, hge, ?_, (Below.refl _ _).drew.alloc (Nat.le_refl _) _⟩
  exact World.ownsRow_made w.drew cur cap (Nat.le_refl _) hle Hsz.out
/-- A slice of byte slices: their values, and their bytes. -/
structure Parts (S : Nat → Prop) (w : World) (A : Option Addr) (ps : List (Value × List UInt8)) : Prop where
  row : Row S w A (ps.map (·.1))
  each : ∀ p ∈ ps, Sl8 S w p.1 p.2
theorem Parts.below {S : Nat → Prop} {w w' : World} {A : Option Addr} {ps : List (Value × List UInt8)} (h : Parts S w A ps) (hb : Below w.heap.size w w') : Parts S w' A ps :=
  ⟨h.row.below hb, fun p hp => (h.each p hp).below hb⟩
theorem Parts.get {S : Nat → Prop} {w : World} {A : Option Addr} {ps : List (Value × List UInt8)} (h : Parts S w A ps) {k : Nat} (hk : k < ps.length) :
    ∃ b o Ak ck, A = some ⟨b, o, none⟩ ∧ w.cell? ⟨b, o + k, none⟩ = some (.slice Ak (ps[k].2).length ck) ∧ (ps[k].2).length ≤ ck ∧ Row S w Ak (u8s ps[k].2) := by
  obtain ⟨Ak, ck, hv, hc, hr⟩ := h.each ps[k] (List.getElem_mem hk)
  obtain ⟨b, o, e, _, hcell⟩ := h.row.at_ (j := k) (v := ps[k].1) (by simp [hk])
  exact ⟨b, o, Ak, ck, e, by rw [hcell, hv], hc, hr⟩
def sumLen (ps : List (Value × List UInt8)) : Nat := (ps.flatMap (·.2)).length
def cat (ps : List (Value × List UInt8)) : List UInt8 := ps.flatMap (·.2)
theorem cat_take_succ (ps : List (Value × List UInt8)) (k : Nat) (hk : k < ps.length) : cat (ps.take (k + 1)) = cat (ps.take k) ++ ps[k].2 := by
  unfold cat; rw [List.take_succ_eq_append_getElem hk, List.flatMap_append]; simp
theorem cat_take_le (ps : List (Value × List UInt8)) (k : Nat) : (cat (ps.take k)).length ≤ (cat ps).length := by
  have : cat ps = cat (ps.take k) ++ cat (ps.drop k) := by unfold cat; rw [← List.flatMap_append, List.take_append_drop]
  rw [this, List.length_append]; omega
set_option maxRecDepth 100000 in
set_option maxHeartbeats 800000 in
theorem concat8 {S : Nat → Prop} (A : Option Addr) (c : Nat) (ps : List (Value × List UInt8)) (w : World) (hp : Parts S w A ps) (hn : ps.length ≤ 1000000) (hsum0 : 0 < (cat ps).length) (hsum : (cat ps).length ≤ 1000000) :
    Calls Try.prog 93 #[.slice A ps.length c] w (RetRow8 w (cat ps)) := by
  have HP := Lib.hid hp; clear hp
  go_enter Try.func93, Try.ntmps93
  go_wp2_with fail
  go_loop [3, 5, 11] (fun s _ i => ∃ k : Nat, k ≤ ps.length ∧ i = .int .i64 k ∧ s = .int .i64 (cat (ps.take k)).length) (fun _ _ i => ps.length - (intOf i).toNat)
  case atStart => exact ⟨0, Nat.zero_le _, rfl, rfl⟩
  case round =>
    obtain ⟨k, hk, rfl, rfl⟩ := hrel
    have hle := cat_take_le ps k
    by_cases hlt : k < ps.length
    · have hle1 := cat_take_le ps (k + 1)
      have hcs : (cat (ps.take (k + 1))).length = (cat (ps.take k)).length + ps[k].2.length := by rw [cat_take_succ ps k hlt, List.length_append]
      have hb1 : (cat (ps.take k)).length + ps[k].2.length ≤ 1000000 := by omega
      have Hcs := Lib.hid hcs; clear hcs hle1
      obtain ⟨b, o, Ak, ck, rfl, hcell, _, _⟩ := HP.out.get hlt
      go_wp2_with fail
      go_round
      case rel => exact ⟨k + 1, by omega, by go_num, by rw [Hcs.out]; go_num⟩
      case measure => simp [intOf]; omega
    · obtain rfl : k = ps.length := by omega
      have ht : cat (ps.take ps.length) = cat ps := by rw [List.take_length]
      rw [ht]
      have hz : ¬ ((cat ps).length = 0) := by omega
      go_wp2_with fail
      refine (grow8 _ hsum0 hsum _).mono ?_
      rintro e w1 ⟨A1, c1, rfl, hc1, ho1, hB1⟩
      have HO1 := Lib.hid ho1; clear ho1 ht
      have HB1 := Lib.hid hB1; clear hB1
      go_wp2_with fail
      go_loopw [6, 8, 27] (fun v _ i wr => ∃ (k : Nat) (A' : Option Addr) (c' : Nat), k ≤ ps.length ∧ i = .int .i64 k ∧ v = .slice A' (cat (ps.take k)).length c' ∧ Hid (wr.ownsRow w.heap.size 5 1 (.slice A' (cat (ps.take k)).length c') (cat (ps.take k)).length (u8s (cat (ps.take k)))) ∧ Hid (Below w.heap.size w wr)) (fun _ _ i _ => ps.length - (intOf i).toNat)
      case atStart => exact ⟨0, A1, c1, Nat.zero_le _, rfl, rfl, HO1, HB1⟩
      case round =>
        obtain ⟨k, A', c', hk, rfl, rfl, HO, HB⟩ := hrel
        have hle := cat_take_le ps k
        by_cases hlt : k < ps.length
        · have hle1 := cat_take_le ps (k + 1)
          have Hcs := Lib.hid (cat_take_succ ps k hlt)
          have hcl : (cat (ps.take (k + 1))).length = (cat (ps.take k)).length + ps[k].2.length := by rw [Hcs.out, List.length_append]
          have Hcl := Lib.hid hcl; clear hcl
          have HPk := HP.out.below HB.out
          obtain ⟨b, o, Ak, ck, rfl, hcell, _, hrk⟩ := HPk.get hlt
          have Hrk := Lib.hid hrk; clear hrk HPk
          go_wp2_with (at_builtin; go_must (refine wpList_app elem8 rfl _ _ rfl w.heap.size (.slice A' (cat (ps.take k)).length c') (cat (ps.take k)).length (u8s (cat (ps.take k))) rfl HO.out Ak ps[k].2.length ck (u8s ps[k].2) rfl Hrk.out (by rw [u8s_length, Nat.mul_one]) (one8 _) (cat (ps.take (k + 1))).length Hcl.out (u8s (cat (ps.take (k + 1)))) (by rw [Hcs.out, u8s_append]) (by omega) (by omega) HB.out.size ?_); intro A2 c2 w2 ho2 hg2 _)
          go_roundw
          case rel => exact ⟨k + 1, A2, c2, by omega, by go_num, rfl, ho2, below_grown HB.out hg2.out HB.out.size (fun j hj => (HO.out.lt j hj).1)⟩
          case measure => simp [intOf]; omega
        · obtain rfl : k = ps.length := by omega
          have ht : cat (ps.take ps.length) = cat ps := by rw [List.take_length]
          rw [ht] at HO ⊢
          go_wp2
          go_ret
          exact ⟨⟨_, rfl, HO.out⟩, HB.out⟩
def RetBytes (w : World) (l : List UInt8) (e : Ending) (w' : World) : Prop := (∃ v, e = .returned (.tuple #[v, .int .i64 0]) ∧ w'.ownsRow w.heap.size 5 1 v l.length (u8s l)) ∧ Below w.heap.size w w'
set_option maxRecDepth 100000 in
set_option maxHeartbeats 400000 in
theorem record_bytes {S : Nat → Prop} (v : Value) (l : List UInt8) (w : World) (hl : Sl8 S w v l) (hn : l.length ≤ 4080) :
    Calls Try.prog 67 #[v] w (RetBytes w (recBytes l)) := by
  have hi3 : (Try.prog.info? 141).map (·.size) = some 3 := by kernel_rfl
  have Hi3 := Lib.hid hi3; clear hi3
  obtain ⟨A, c, rfl, hc, hr⟩ := hl
  have Hl := Lib.hid (show Sl8 S w (.slice A l.length c) l from ⟨A, c, rfl, hc, hr⟩); clear hr
  go_enter Try.func67, Try.ntmps67
  go_wp2_with fail
  refine (record_parts _ l w Hl.out hn).mono ?_
  rintro e w1 ⟨h, b, z, rfl, hh, hb, hz, hB⟩
  obtain ⟨Ah, ch, rfl, hch, hrh⟩ := hh
  obtain ⟨Ab, cb, rfl, hcb, hrb⟩ := hb
  obtain ⟨Az, cz, rfl, hcz, hrz⟩ := hz
  have Hh := Lib.hid hrh; clear hrh
  have Hb := Lib.hid hrb; clear hrb
  have Hz := Lib.hid hrz; clear hrz
  have HB := Lib.hid hB; clear hB
  have hlen := recBytes_length l hn
  have hcat : cat [(Value.slice Ah (recHead l.length).length ch, recHead l.length), (.slice Ab (recBody l).length cb, recBody l), (.slice Az zero4.length cz, zero4)] = recBytes l := by
    simp [cat, recBytes]
  have hls : recSize l.length ≤ 4092 ∧ 12 ≤ recSize l.length := by unfold recSize padN; split <;> omega
  have Hlen := Lib.hid hlen; clear hlen
  have Hcat := Lib.hid hcat; clear hcat
  go_wp2_with fail
  refine calls_gen fun W HW => ?_
  have HBW := Lib.hid (show Below w1.heap.size w1 W by rw [HW.out]; exact (Below.refl _ _).alloc (Nat.le_refl _) _)
  have HA := Lib.hid (show Blk W w1.heap.size 141 #[.slice Ah (recHead l.length).length ch, .slice Ab (recBody l).length cb, .slice Az zero4.length cz] by rw [HW.out]; exact Blk.new _ _ _)
  clear HW
  have hp : Parts (fun _ => True) W (some ⟨w1.heap.size, 0, none⟩) [(.slice Ah (recHead l.length).length ch, recHead l.length), (.slice Ab (recBody l).length cb, recBody l), (.slice Az zero4.length cz, zero4)] := by
    refine ⟨Row.blk HA.out trivial (n := 3) rfl, fun p hp => ?_⟩
    simp only [List.mem_cons, List.not_mem_nil, or_false] at hp
    rcases hp with rfl | rfl | rfl
    · exact ⟨_, _, rfl, hch, (Hh.out.below HBW.out).mono fun _ _ => trivial⟩
    · exact ⟨_, _, rfl, hcb, (Hb.out.below HBW.out).mono fun _ _ => trivial⟩
    · exact ⟨_, _, rfl, hcz, (Hz.out.below HBW.out).mono fun _ _ => trivial⟩
  refine (concat8 _ 3 _ W hp (by show 3 ≤ _; omega) (by rw [Hcat.out, Hlen.out]; omega) (by rw [Hcat.out, Hlen.out]; omega)).mono ?_
  rintro e w2 ⟨⟨v2, rfl, ho2⟩, hB2⟩
  rw [Hcat.out] at ho2
  have HO2 := Lib.hid ho2; clear ho2 hp
  have HB2 := Lib.hid (below_next HBW.out hB2); clear hB2
  go_wp2
  go_ret2
  exact ⟨⟨_, rfl, own_lower HO2.out (Nat.le_trans HB.out.size HBW.out.size)⟩, below_next HB.out HB2.out⟩
end Go.Proofs.Ytmejngojpffcgaa

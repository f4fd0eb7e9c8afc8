import Derived.Test.YtmejngojpffcgaaAt
namespace Go.Proofs.Ytmejngojpffcgaa
open Go.RowKit Go.Ls

/-- Bytes in a block of bytes: whoever turns no such block keeps them. -/
def Pay (S : Nat → Prop) (w : World) (v : Value) (l : List UInt8) : Prop :=
  ∃ A c, v = .slice A l.length c ∧ l.length ≤ c ∧ (0 < l.length → ∃ (b : Nat) (cs : Array Value), A = some ⟨b, 0, none⟩ ∧ S b ∧ Blk w b 5 cs ∧ ∀ (j : Nat) (x : Value), (u8s l)[j]? = some x → cs[j]? = some x)
theorem Pay.sl {S : Nat → Prop} {w : World} {v : Value} {l : List UInt8} (h : Pay S w v l) : Sl8 S w v l := by
  obtain ⟨A, c, rfl, hc, hr⟩ := h
  refine ⟨A, c, rfl, hc, fun hp => ?_⟩
  obtain ⟨b, cs, e, hs, hb, hx⟩ := hr (by rw [u8s_length] at hp; exact hp)
  exact ⟨b, 0, e, hs, fun j v hj => by rw [Nat.zero_add]; exact hb.cellv (hx j v hj)⟩
theorem Pay.nil (S : Nat → Prop) (w : World) : Pay S w (.slice none 0 0) [] := ⟨_, 0, rfl, Nat.le_refl _, fun h => absurd h (Nat.lt_irrefl 0)⟩
theorem Pay.mono {S S' : Nat → Prop} {w : World} {v : Value} {l : List UInt8} (h : Pay S w v l) (hS : ∀ b, S b → S' b) : Pay S' w v l := by
  obtain ⟨A, c, rfl, hc, hr⟩ := h
  refine ⟨A, c, rfl, hc, fun hp => ?_⟩
  obtain ⟨b, cs, e, hs, hx⟩ := hr hp
  exact ⟨b, cs, e, hS b hs, hx⟩
theorem Pay.keep {S : Nat → Prop} {w w' : World} {v : Value} {l : List UInt8} (h : Pay S w v l) (hk : ∀ b cs, S b → Blk w b 5 cs → Blk w' b 5 cs) : Pay S w' v l := by
  obtain ⟨A, c, rfl, hc, hr⟩ := h
  refine ⟨A, c, rfl, hc, fun hp => ?_⟩
  obtain ⟨b, cs, e, hs, hb, hx⟩ := hr hp
  exact ⟨b, cs, e, hs, hk b cs hs hb, hx⟩
theorem Pay.below {S : Nat → Prop} {w w' : World} {v : Value} {l : List UInt8} (h : Pay S w v l) (hb : Below w.heap.size w w') : Pay S w' v l :=
  h.keep fun _ _ _ hk => hk.below hb hk.lt
theorem Pay.of_row {base : Nat} {w : World} {v : Value} {l : List UInt8} (h : w.ownsRow base 5 1 v l.length (u8s l)) : Pay (From base) w v l := by
  rcases h.2 with ⟨rfl, h0⟩ | ⟨g, cap, cur, rfl, hb, hg, hc, hm, hs, ht⟩
  · have : l = [] := List.eq_nil_of_length_eq_zero h0
    subst this
    exact Pay.nil _ _
  · refine ⟨_, cap, rfl, hc, fun _ => ⟨g, cur, rfl, hb, hg, fun j x hj => ?_⟩⟩
    rw [← ht, List.getElem?_take] at hj
    split at hj
    · simpa using hj
    · cases hj

/-- A record as the program tells it, its payload in new memory. -/
def RetRec (w : World) (r : Rec) (e : Ending) (w' : World) : Prop :=
  ∃ pv, e = .returned (.agg #[.int .i64 r.place, .int .i64 r.size, .int .u8 (b8 r.kind), pv]) ∧ Pay (From w.heap.size) w' pv r.payload ∧ Below w.heap.size w w'
theorem zeroRec : (Try.prog.info? 86).map (·.size) = some 4 := by kernel_rfl
theorem sl8_nil (S : Nat → Prop) (w : World) : Sl8 S w (.slice none 0 0) [] := ⟨_, 0, rfl, Nat.le_refl _, Row.none_ _ _ _⟩
theorem lenInt_none {l : List UInt8} (h : recLen l = none) : lenInt (recLen l) = -1 := by rw [h]; rfl
set_option maxRecDepth 100000 in
set_option maxHeartbeats 800000 in
theorem record_at {S : Nat → Prop} (v : Value) (l : List UInt8) (w : World) (hl : Sl8 S w v l) (hn : l.length ≤ 140737488355328) :
    Calls Try.prog 97 #[v] w (RetRec w (recAt l)) := by
  have Hz := Lib.hid zeroRec
  have Hl := Lib.hid hl
  obtain ⟨A, c, rfl, hc, hr⟩ := hl
  have Hr := Lib.hid hr; clear hr
  cases hbl : isBlank l with
  | true =>
    have Hp := Lib.hid (show recAt l = ⟨0, l.length, 0, []⟩ by unfold recAt; rw [hbl]; rfl)
    have Hbl := Lib.hid (show (!l.any (· != 255)) = true from hbl); clear hbl
    go_enter Try.func97, Try.ntmps97
    go_wp2_with fail
    refine (record_length _ l _ (Sl.below Hl.out ((Below.refl _ _).alloc (Nat.le_refl _) _)) hn).mono ?_
    rintro e w1 ⟨rfl, n, hw1⟩
    have hc1 : w1.heap.size = w.heap.size + 1 := by rw [hw1]; simp
    have HB1 := Lib.hid (show Below w.heap.size w w1 by rw [hw1]; exact below_drewN ((Below.refl _ _).alloc (Nat.le_refl _) _) n)
    have HZ := Lib.hid (show Blk w1 w.heap.size 86 #[.int .i64 0, .int .i64 0, .int .u8 0, .slice none 0 0] by rw [hw1]; exact (Blk.new _ _ _).drewN n)
    clear hw1
    go_wp2_with fail
    refine (record_blank _ l w1 (Sl.below Hl.out HB1.out) hn).mono ?_
    rintro e w' ⟨rfl, rfl⟩
    rw [Hbl.out]
    go_wp2_with (refine wpList_store_row rfl 86 _ _ rfl w.heap.size #[.int .i64 0, .int .i64 l.length, .int .u8 0, .slice none 0 0] rfl rfl 86 _ HZ.out Hz.out rfl (by simp [Value.oneCell']) ?_)
    (try simp only [Exit.inBlock, Exit.then])
    refine bodyPost_ret (results_cell_row rfl _ _ w.heap.size 86 #[.int .i64 0, .int .i64 l.length, .int .u8 0, .slice none 0 0] (0, 0) _ rfl (HZ.out.row _) Try.underlying86 rfl Hz.out) rfl ?_
    rw [Hp.out]
    exact ⟨_, rfl, Pay.nil _ _, below_setRow HB1.out (Nat.le_refl _) _⟩
  | false =>
    have Hbl := Lib.hid (show (!l.any (· != 255)) = false from hbl)
    cases hlen : recLen l with
    | none =>
      have Hp := Lib.hid (show recAt l = ⟨0, min 4 l.length, 3, []⟩ by unfold recAt; rw [hbl, hlen]; rfl)
      have Hli := Lib.hid (lenInt_none hlen); clear hbl hlen
      go_enter Try.func97, Try.ntmps97
      go_wp2_with fail
      refine (record_length _ l _ (Sl.below Hl.out ((Below.refl _ _).alloc (Nat.le_refl _) _)) hn).mono ?_
      rintro e w1 ⟨rfl, n, hw1⟩
      have hc1 : w1.heap.size = w.heap.size + 1 := by rw [hw1]; simp
      have HB1 := Lib.hid (show Below w.heap.size w w1 by rw [hw1]; exact below_drewN ((Below.refl _ _).alloc (Nat.le_refl _) _) n)
      have HZ := Lib.hid (show Blk w1 w.heap.size 86 #[.int .i64 0, .int .i64 0, .int .u8 0, .slice none 0 0] by rw [hw1]; exact (Blk.new _ _ _).drewN n)
      clear hw1
      rw [Hli.out]
      go_wp2_with fail
      refine (record_blank _ l w1 (Sl.below Hl.out HB1.out) hn).mono ?_
      rintro e w' ⟨rfl, rfl⟩
      rw [Hbl.out]
      go_wp2_with (refine wpList_store_row rfl 86 _ _ rfl w.heap.size #[.int .i64 0, .int .i64 (min 4 (l.length : Int)), .int .u8 3, .slice none 0 0] rfl rfl 86 _ HZ.out Hz.out rfl (by simp [Value.oneCell']) ?_)
      (try simp only [Exit.inBlock, Exit.then])
      refine bodyPost_ret (results_cell_row rfl _ _ w.heap.size 86 #[.int .i64 0, .int .i64 (min 4 (l.length : Int)), .int .u8 3, .slice none 0 0] (0, 0) _ rfl (HZ.out.row _) Try.underlying86 rfl Hz.out) rfl ?_
      rw [Hp.out]
      refine ⟨_, ?_, Pay.nil _ _, below_setRow HB1.out (Nat.le_refl _) _⟩
      rw [show min 4 (l.length : Int) = ((min 4 l.length : Nat) : Int) by omega]
      rfl
    | some n =>
      have hpure : recAt l = if recBytes ((l.drop 4).take n) == l.take (recSize n) then ⟨0, recSize n, 1, (l.drop 4).take n⟩ else ⟨0, recSize n, 2, []⟩ := by unfold recAt; rw [hbl, hlen]; rfl
      have hbd : n ≤ 4080 ∧ recSize n ≤ l.length ∧ n + 12 ≤ recSize n := by
        unfold recLen at hlen
        split at hlen
        · cases hlen
        · split at hlen
          · cases hlen
          · simp only [] at hlen
            split at hlen
            · cases hlen
            · rename_i h
              cases hlen
              refine ⟨by omega, by omega, ?_⟩
              unfold recSize padN
              rw [if_neg (by omega)]
              omega
      have Hli := Lib.hid (show lenInt (recLen l) = (n : Int) by rw [hlen]; rfl)
      have Hpure := Lib.hid hpure
      clear hbl hlen hpure
      obtain ⟨hb1, hb2, hb3⟩ := hbd
      have hs2 : recSize n ≤ 4092 := by unfold recSize padN; split <;> omega
      obtain ⟨b, o, rfl, _, _⟩ := Hr.out (by rw [u8s_length]; omega)
      have hplen : ((l.drop 4).take n).length = n := by rw [List.length_take, List.length_drop]; omega
      have HP := Lib.hid (show Sl8 S w (.slice (some ⟨b, o + 4, none⟩) n (c - 4)) ((l.drop 4).take n) from ⟨_, c - 4, by rw [hplen], by rw [hplen]; omega, by
        have := (Hr.out.drop 4).take n
        rw [show ((u8s l).drop 4).take n = u8s ((l.drop 4).take n) by simp [u8s, List.map_take, List.map_drop]] at this
        rwa [show (some (⟨b, o, none⟩ : Addr)).map (·.add 4) = some ⟨b, o + 4, none⟩ by simp [addr_add]] at this⟩)
      have HT := Lib.hid (show Sl8 S w (.slice (some ⟨b, o, none⟩) (recSize n) c) (l.take (recSize n)) from ⟨_, c, by rw [List.length_take, Nat.min_eq_left hb2], by rw [List.length_take]; omega, by
        have := Hr.out.take (recSize n)
        rwa [show (u8s l).take (recSize n) = u8s (l.take (recSize n)) by simp [u8s, List.map_take]] at this⟩)
      have hsl1 : ∀ W, (Instr.slice 27 (.slice (some ⟨b, o, none⟩) l.length c) (some (.int .i64 4)) (some (.int .i64 (4 + (n : Int)))) none).run Try.prog W = .ok (.slice (some ⟨b, o + 4, none⟩) n (c - 4)) W := fun W => by
        rw [run_slice_lh W 27 _ _ _ Try.underlying27 .i64 .i64 4 (4 + (n : Int)) (by omega) (by omega) (by omega)]
        have h1 : ¬ c = 4 := by omega
        have h2 : (4 + (n : Int)).toNat - 4 = n := by omega
        simp [sliced, Result.andThen, Program.elem, Try.underlying27, Try.sizeOf5, addr_add, h1, h2]
      have hsl2 : ∀ W, (Instr.slice 27 (.slice (some ⟨b, o, none⟩) l.length c) none (some (.int .i64 (recSize n : Int))) none).run Try.prog W = .ok (.slice (some ⟨b, o, none⟩) (recSize n) c) W := fun W => by
        rw [run_slice_h W 27 _ _ _ Try.underlying27 .i64 (recSize n) (by omega) (by omega)]
        simp [sliced, Result.andThen, Program.elem, Try.underlying27, Try.sizeOf5, addr_add]
      go_enter Try.func97, Try.ntmps97
      go_wp2_with fail
      refine (record_length _ l _ (Sl.below Hl.out ((Below.refl _ _).alloc (Nat.le_refl _) _)) hn).mono ?_
      rintro e w1 ⟨rfl, nd, hw1⟩
      have HB1 := Lib.hid (show Below w.heap.size w w1 by rw [hw1]; exact below_drewN ((Below.refl _ _).alloc (Nat.le_refl _) _) nd)
      have HZ := Lib.hid (show Blk w1 w.heap.size 86 #[.int .i64 0, .int .i64 0, .int .u8 0, .slice none 0 0] by rw [hw1]; exact (Blk.new _ _ _).drewN nd)
      have hsz1 : w1.heap.size = w.heap.size + 1 := by rw [hw1]; simp
      clear hw1
      rw [Hli.out]
      go_wp2_with fail
      refine (record_blank _ l w1 (Sl.below Hl.out HB1.out) hn).mono ?_
      rintro e w' ⟨rfl, rfl⟩
      rw [Hbl.out]
      go_wp2_with fail
      refine (record_bytes _ ((l.drop 4).take n) w1 (Sl.below HP.out HB1.out) (by rw [hplen]; omega)).mono ?_
      rintro e w2 ⟨⟨v2, rfl, hv2⟩, hb2'⟩
      have HB2 := Lib.hid hb2'; clear hb2'
      have HV := Lib.hid hv2; clear hv2
      go_wp2_with fail
      refine (record_size n (by omega) w2).mono ?_
      rintro e w' ⟨rfl, rfl⟩
      have hsz2 : w1.heap.size ≤ w2.heap.size := HB2.out.size
      have HB3 := Lib.hid (show Below w.heap.size w w2 from below_next HB1.out HB2.out)
      have HZ2 := Lib.hid (Blk.below HZ.out HB2.out (by omega))
      go_wp2_with fail
      refine (bytes_equal v2 _ _ _ w2 (Own.of_row HV.out).sl (Sl.below HT.out HB3.out)).mono ?_
      rintro e w' ⟨rfl, rfl⟩
      cases hq : recBytes ((l.drop 4).take n) == l.take (recSize n) with
      | false =>
        have Hp := Lib.hid (show recAt l = ⟨0, recSize n, 2, []⟩ by rw [Hpure.out, hq]; rfl)
        go_wp2_with fail
        refine (record_size n (by omega) w2).mono ?_
        rintro e w' ⟨rfl, rfl⟩
        go_wp2_with (refine wpList_store_row rfl 86 _ _ rfl w.heap.size #[.int .i64 0, .int .i64 (recSize n), .int .u8 2, .slice none 0 0] rfl rfl 86 _ HZ2.out Hz.out rfl (by simp [Value.oneCell']) ?_)
        (try simp only [Exit.inBlock, Exit.then])
        refine bodyPost_ret (results_cell_row rfl _ _ w.heap.size 86 #[.int .i64 0, .int .i64 (recSize n), .int .u8 2, .slice none 0 0] (0, 0) _ rfl (HZ2.out.row _) Try.underlying86 rfl Hz.out) rfl ?_
        rw [Hp.out]
        exact ⟨_, rfl, Pay.nil _ _, below_setRow HB3.out (Nat.le_refl _) _⟩
      | true =>
        have Hp := Lib.hid (show recAt l = ⟨0, recSize n, 1, (l.drop 4).take n⟩ by rw [Hpure.out, hq]; rfl)
        go_wp2_with fail
        refine (record_size n (by omega) w2).mono ?_
        rintro e w' ⟨rfl, rfl⟩
        go_wp2_with fail
        refine (clone8 _ _ w2 (Sl.below HP.out HB3.out) (by rw [hplen]; omega)).mono ?_
        rintro e w3 ⟨⟨v3, rfl, hv3⟩, hb3'⟩
        obtain ⟨A3, c3, rfl, hc3⟩ := own_form hv3
        have HB4 := Lib.hid (show Below w.heap.size w w3 from below_next HB3.out hb3')
        have HZ3 := Lib.hid (Blk.below HZ2.out hb3' (by omega))
        have HV3 := Lib.hid hv3; clear hv3
        clear hb3'
        go_wp2_with (refine wpList_store_row rfl 86 _ _ rfl w.heap.size #[.int .i64 0, .int .i64 (recSize n), .int .u8 1, .slice A3 n c3] rfl rfl 86 _ HZ3.out Hz.out rfl (by simp [Value.oneCell']) ?_)
        (try simp only [Exit.inBlock, Exit.then])
        refine bodyPost_ret (results_cell_row rfl _ _ w.heap.size 86 #[.int .i64 0, .int .i64 (recSize n), .int .u8 1, .slice A3 n c3] (0, 0) _ rfl (HZ3.out.row _) Try.underlying86 rfl Hz.out) rfl ?_
        rw [Hp.out]
        rw [hplen] at HV3
        have hs3 := Pay.of_row (l := (l.drop 4).take n) (by rw [hplen]; exact own_lower HV3.out (show w.heap.size + 1 ≤ w2.heap.size by omega))
        obtain ⟨A4, c4, he4, hc4, hr4⟩ := hs3
        rw [hplen] at he4
        refine ⟨_, rfl, ?_, below_setRow HB4.out (Nat.le_refl _) _⟩
        refine Pay.mono (S := From (w.heap.size + 1)) (Pay.keep ⟨A4, c4, by rw [hplen]; exact he4, hc4, hr4⟩ fun b cs hb hk => Blk.rowFar hk (fun e => ?_) _) fun b hb => ?_
        · unfold From at hb; omega
        · unfold From at *; omega
end Go.Proofs.Ytmejngojpffcgaa

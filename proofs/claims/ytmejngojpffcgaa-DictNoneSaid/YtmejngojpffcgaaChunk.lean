import Derived.Test.YtmejngojpffcgaaEach
import Derived.Test.YtmejngojpffcgaaCell
import Derived.RegionIn
import Derived.Sort.QuietIn
namespace Go.Ls
open Go.RowKit
/-- The four bytes of a number. -/
def four (b : List UInt8) (k : Nat) : List UInt8 := (b.drop (4 * k)).take 4
def fours (b : List UInt8) : List (List UInt8) := (List.range (b.length / 4)).map (four b)
theorem four_length {b : List UInt8} {k : Nat} (h : 4 * k + 4 ≤ b.length) : (four b k).length = 4 := by simp [four]; omega
def ChX (Sb : Nat → Prop) (b : List UInt8) (pre : List (Value × List UInt8)) (x : Value × List UInt8) (A : World) : Prop :=
  Sl8 Sb A x.1 x.2 ∧ x.2.length = 4 ∧ 4 * pre.length + 4 ≤ b.length
def ChS (b : List UInt8) (xs : List (Value × List UInt8)) (_A : World) : Prop := xs.map (·.2) = fours b
end Go.Ls
namespace Go.Proofs.Ytmejngojpffcgaa
open Go.RowKit Go.Ls
attribute [local go_sem] Oper.semAt_some
/-- The types of what a chunk's iterator has boxed: whoever goes over chunks turns no block of these. -/
def boxTypes (t : TypeId) : Prop := t = 27 ∨ t = 3
set_option maxRecDepth 100000 in
set_option maxHeartbeats 1000000 in
theorem chunk1 {Sb : Nat → Prop} (m : Nat) (Bs Bn : Nat) (v : Value) (b : List UInt8) (B : Nat) (w : World) (hl : Sl8 Sb w v b) (hSb : ∀ k, Sb k → k < B) (hn : b.length ≤ 1099511627776) (h4 : b.length % 4 = 0)
    (hbox : Blk w Bs 27 #[v]) (hbn : Blk w Bn 3 #[.int .i64 4]) :
    Seq Fence.wide m Try.prog 101 #[.pointer (some ⟨Bs, 0, none⟩), .pointer (some ⟨Bn, 0, none⟩)] (fun x : Value × List UInt8 => #[x.1]) boxTypes B (ChX Sb b) (ChS b) w := by
  intro l J W hW hJb hY h0
  have hl1 : Sl8 Sb W v b := Sl.below hl hW
  have hbox1 : Blk W Bs 27 #[v] := hbox.below hW hbox.lt
  have hbn1 : Blk W Bn 3 #[.int .i64 4] := hbn.below hW hbn.lt
  have hsz := hW.size
  obtain ⟨A, c, rfl, hc, hr⟩ := hl1
  obtain ⟨n, hn4⟩ : ∃ n, b.length = 4 * n := ⟨b.length / 4, by omega⟩
  obtain ⟨bl, hbl⟩ : ∃ bl, bl = b.length := ⟨_, rfl⟩
  rw [← hbl] at hbox hbox1 hc hn4 hn
  have Hbl := Lib.hid hbl; clear hbl
  have Hr := Lib.hid hr; clear hr
  have HY := Lib.hid hY; clear hY
  have HJb := Lib.hid hJb; clear hJb
  clear hl hbox hbn
  refine callsIn_of_wp Try.func101 rfl trivial ?_ rfl
  simp only [Try.ntmps101, List.size_toArray, List.length_cons, List.length_nil, Nat.reduceAdd, Nat.reduceSub, Array.replicate_succ, Array.replicate_zero, List.push_toArray, List.append_toArray, List.nil_append, List.cons_append]
  gi_wp2
  gi_loopw [4] (fun i wr => ∃ (k : Nat) (pre : List (Value × List UInt8)), i = .int .i64 ((4 * k : Nat) : Int) ∧ k ≤ n ∧ Hid (pre.length = k) ∧ Hid (pre.map (·.2) = (List.range k).map (four b)) ∧ Hid (J pre wr) ∧ Hid (Below B W wr) ∧ Hid (Blk wr Bs 27 #[.slice A bl c]) ∧ Hid (Blk wr Bn 3 #[.int .i64 4]))
    (fun i _ => bl - (intOf i).toNat)
  case atStart => exact ⟨0, [], rfl, Nat.zero_le _, rfl, (show _ = _ from rfl), h0, Below.refl _ _, hbox1, hbn1⟩
  case round =>
    obtain ⟨k, pre, rfl, hk, hpl, hpm, hJs, hbe, hboxr, hbnr⟩ := hrel
    have hboxc := hboxr.out.cellv (j := 0) rfl
    have hbnc := hbnr.out.cellv (j := 0) rfl
    simp only [List.getElem_toArray, List.getElem_cons_zero] at hboxc hbnc
    obtain ⟨i, hi⟩ : ∃ i, i = 4 * k := ⟨_, rfl⟩
    rw [← hi]
    by_cases hlt : k < n
    · have hib : i + 4 ≤ bl := by omega
      have hr' : Row Sb wr A (u8s b) := Hr.out.keep fun j _ hj => hbe.out.block j (hSb j hj)
      obtain ⟨ba, o, rfl, _, _⟩ := hr' (by rw [u8s_length, ← Hbl.out]; omega)
      have hsl : ∀ W, (Instr.slice 27 (.slice (some ⟨ba, o, none⟩) bl c) (some (.int .i64 (i : Int))) none none).run Try.prog W = .ok (.slice (some ⟨ba, o + i, none⟩) (bl - i) (c - i)) W := fun W => by
        rw [run_slice_l W 27 _ _ _ Try.underlying27 .i64 (i : Int) (by omega) (by omega)]
        have h1 : ¬ c = i := by omega
        simp [sliced, Result.andThen, Program.elem, Try.underlying27, Try.sizeOf5, addr_add, h1]
      have hsl2 : ∀ W, (Instr.slice 27 (.slice (some ⟨ba, o, none⟩) bl c) (some (.int .i64 (i : Int))) (some (.int .i64 ((i : Int) + 4))) (some (.int .i64 ((i : Int) + 4)))).run Try.prog W = .ok (.slice (some ⟨ba, o + i, none⟩) 4 4) W := fun W => by
        rw [run_slice_lhm W 27 _ _ _ Try.underlying27 .i64 .i64 .i64 (i : Int) ((i : Int) + 4) ((i : Int) + 4) (by omega) (by omega) (by omega) (by omega)]
        have h1 : ¬ ((i : Int) + 4).toNat = (i : Int).toNat := by omega
        have h2 : ((i : Int) + 4).toNat - (i : Int).toNat = 4 := by omega
        simp [sliced, Result.andThen, Program.elem, Try.underlying27, Try.sizeOf5, addr_add]
        omega
      obtain ⟨rl, hrl⟩ : ∃ rl, rl = bl - i := ⟨_, rfl⟩
      rw [← hrl] at hsl
      have hmin : (4 : Int) ≤ (rl : Int) := by omega
      have hminv : min (4 : Int) (rl : Int) = 4 := by omega
      have hX : ∀ nq, ChX Sb b pre (.slice (some ⟨ba, o + i, none⟩) 4 4, four b k) (wr.drewN nq) := fun nq => by
        have hfl := four_length (b := b) (k := k) (by rw [← Hbl.out, ← hi]; exact hib)
        refine ⟨⟨_, 4, by rw [hfl], by rw [hfl]; exact Nat.le_refl _, ?_⟩, hfl, by rw [hpl.out, ← hi, ← Hbl.out]; exact hib⟩
        have h2 := (hr'.drop i).take 4
        rw [show ((u8s b).drop i).take 4 = u8s (four b k) by simp [u8s, four, hi, List.map_drop, List.map_take]] at h2
        rw [show (some (⟨ba, o, none⟩ : Addr)).map (·.add i) = some ⟨ba, o + i, none⟩ by simp [addr_add]] at h2
        exact h2.keep fun _ _ _ => rfl
      have hib2 : (i : Int) < bl := by omega
      have Hib := Lib.hid hib
      have Hrl := Lib.hid hrl
      have Hi := Lib.hid hi
      have Hn4 := Lib.hid hn4
      clear hn4 hr' hi hrl hib hlt
      gi_wp2_with fail
      gi_quiet (fail)
      have hbd : Below wr.heap.size wr (wr.drewN nq) := Go.Ls.below_drewN (Below.refl _ _) nq
      obtain ⟨fn, tmps, assign, body, hy, hR⟩ := HY.out pre (.slice (some ⟨ba, o + i, none⟩) 4 4, four b k) wr (wr.drewN nq) (hX nq) hJs.out hbd
      have Hboxq := Lib.hid (hboxr.out.drewN nq)
      have Hbnq := Lib.hid (hbnr.out.drewN nq)
      have Hbeq := Lib.hid (Go.Ls.below_drewN hbe.out nq)
      simp only at hy
      have Hsl := Lib.hid hsl2
      clear hsl hbd hX
      gi_wp2_with fail
      refine ⟨fun h => (by cases h), hR.mono ?_⟩
      rintro e w5 ⟨rfl, hJ5, hk5, hm5⟩
      have hbox5 := hk5.blk _ _ _ (.inl rfl) Hboxq.out
      have hbn5 := hk5.blk _ _ _ (.inr rfl) Hbnq.out
      have hbnc5 := hbn5.cellv (j := 0) rfl
      have hboxc5 := hbox5.cellv (j := 0) rfl
      simp only [List.getElem_toArray, List.getElem_cons_zero] at hbnc5 hboxc5
      have Hbox5 := Lib.hid hbox5
      have Hbn5 := Lib.hid hbn5
      have HB5 := Lib.hid (show Below B W w5 from Hbeq.out.trans hk5.below)
      have HJ5 := Lib.hid hJ5
      have Hpl5 := Lib.hid (show (pre ++ [((Value.slice (some ⟨ba, o + i, none⟩) 4 4, four b k) : Value × List UInt8)]).length = k + 1 from by rw [List.length_append, hpl.out]; rfl)
      have Hpm5 := Lib.hid (show (pre ++ [((Value.slice (some ⟨ba, o + i, none⟩) 4 4, four b k) : Value × List UInt8)]).map (·.2) = (List.range (k + 1)).map (four b) from by rw [List.map_append, hpm.out, List.range_succ, List.map_append]; rfl)
      have hib := Hib.out
      have hi := Hi.out
      have hn4 := Hn4.out
      clear hJ5 hk5 hm5 hR hy hboxc hbnc hbox5 hbn5 hminv hmin
      have Hi4 := Lib.hid (show (i : Int) + 4 = ((4 * (k + 1) : Nat) : Int) from by omega)
      have Hms := Lib.hid (show bl - (i + 4) < bl - i from by omega)
      have Hk1 := Lib.hid (show k + 1 ≤ n from by omega)
      clear hi hn4
      gi_wp2_with fail
      go_roundw
      case rel => exact ⟨k + 1, _, (by rw [← Hi4.out]), Hk1.out, Hpl5, Hpm5, HJ5, HB5, Hbox5, Hbn5⟩
      case measure => simp [intOf]; have := Hms.out; have := Hi.out; omega
    · have hkn : k = n := by omega
      have hbi : ¬ (i : Int) < bl := by omega
      have hxs : pre.map (·.2) = fours b := by rw [hpm.out, hkn, fours, ← Hbl.out, hn4, Nat.mul_div_cancel_left _ (by omega)]
      have Hxs := Lib.hid hxs
      clear hxs hn4 hi hlt hkn
      gi_wp2_with fail
      go_end0
      exact ⟨⟨_, rfl⟩, pre, Hxs.out, hJs.out⟩
end Go.Proofs.Ytmejngojpffcgaa

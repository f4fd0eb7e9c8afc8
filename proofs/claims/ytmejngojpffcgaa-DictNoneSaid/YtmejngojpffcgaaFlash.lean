import Derived.Test.YtmejngojpffcgaaFl
import Derived.Test.YtmejngojpffcgaaBytes
import Derived.Test.YtmejngojpffcgaaRec
namespace Go.Proofs.Ytmejngojpffcgaa
open Go.RowKit Go.Ls

/-- What the power is armed with, told in memory; D: the blocks that are the flash's own. -/
def PowerAt (w : World) (D : Nat → Prop) (b bc : Nat) (pv : Value) : Option (Nat × List UInt8) → Prop
  | none => pv = .pointer none
  | some (left, mask) => ∃ pb mv, pv = .pointer (some ⟨pb, 0, none⟩) ∧ Blk w pb 113 #[.int .i64 left, mv] ∧ D pb ∧ pb ≠ b ∧ pb ≠ bc ∧ Sl8 (fun k => D k ∧ k ≠ b ∧ k ≠ bc ∧ k ≠ pb) w mv mask ∧ left < 2147483648 ∧ mask.length ≤ 140737488355328
/-- A flash in memory: its block b, its cells from o on in block bc. -/
structure FlashAt (w : World) (D : Nat → Prop) (b bc o : Nat) (f : Fl) : Prop where
  ne : b ≠ bc
  own : D b ∧ D bc
  blk : ∃ (c : Nat) (A : Option Addr) (cw : Nat) (pv : Value), Blk w b 56 #[.slice (some ⟨bc, o, none⟩) f.cells.length c, .slice A f.sectors cw, pv, .bool f.down] ∧ f.cells.length ≤ c ∧ PowerAt w D b bc pv f.power
  cells : Cells w bc o f.cells
  pos : 0 < f.cells.length
  small : f.cells.length ≤ 65536
  sects : 0 < f.sectors ∧ f.sectors ≤ 256
theorem FlashAt.lt {w : World} {D : Nat → Prop} {b bc o : Nat} {f : Fl} (h : FlashAt w D b bc o f) : b < w.heap.size ∧ bc < w.heap.size := by
  obtain ⟨_, _, ⟨c, A, cw, pv, h1, _⟩, h2, h3, _, _⟩ := h
  refine ⟨h1.lt, ?_⟩
  exact World.block_lt_of_cell? w ⟨bc, o + 0, none⟩ (h2.at_ (List.getElem?_eq_getElem h3)).1
theorem PowerAt.keep {w w' : World} {D : Nat → Prop} {b bc : Nat} {pv : Value} {q : Option (Nat × List UInt8)} (h : PowerAt w D b bc pv q) (hk : ∀ j, j < w.heap.size → D j → j ≠ b → j ≠ bc → w'.heap[j]? = w.heap[j]?) : PowerAt w' D b bc pv q := by
  cases q with
  | none => exact h
  | some q =>
    obtain ⟨left, mask⟩ := q
    obtain ⟨pb, mv, h1, h2, h3, h4, h5, h6, h7⟩ := h
    exact ⟨pb, mv, h1, (hk pb h2.lt h3 h4 h5).trans h2, h3, h4, h5, Sl.keep h6 fun j hj hd => hk j hj hd.1 hd.2.1 hd.2.2.1, h7⟩
theorem FlashAt.keep {w w' : World} {D : Nat → Prop} {b bc o : Nat} {f : Fl} (h : FlashAt w D b bc o f) (hk : ∀ j, j < w.heap.size → D j → w'.heap[j]? = w.heap[j]?) : FlashAt w' D b bc o f := by
  have hlt := h.lt
  obtain ⟨h1, h2, ⟨c, A, cw, pv, h3, h4, h5⟩, h6, h7, h8, h9⟩ := h
  exact ⟨h1, h2, ⟨c, A, cw, pv, (hk b hlt.1 h2.1).trans h3, h4, h5.keep fun j hj hd _ _ => hk j hj hd⟩, h6.keep (hk bc hlt.2 h2.2), h7, h8, h9⟩
theorem FlashAt.below {w w' : World} {D : Nat → Prop} {b bc o : Nat} {f : Fl} (h : FlashAt w D b bc o f) (hb : Below w.heap.size w w') : FlashAt w' D b bc o f := h.keep fun j hj _ => hb.block j hj

theorem sectors_nil (w : World) : Calls Try.prog 68 #[.pointer none] w fun e w' => e = .returned (.int .i64 0) ∧ w = w' := by
  go_enter Try.func68, Try.ntmps68
  go_wp2_with fail
  go_ret
  exact ⟨rfl, rfl⟩
theorem sectors_at (w : World) (b n cw : Nat) (v0 v2 v3 : Value) (A : Option Addr) (h : Blk w b 56 #[v0, .slice A n cw, v2, v3]) :
    Calls Try.prog 68 #[.pointer (some ⟨b, 0, none⟩)] w fun e w' => e = .returned (.int .i64 n) ∧ w = w' := by
  have h1 := h.cellv (j := 1) rfl
  simp only [List.getElem_toArray, List.getElem_cons_zero, List.getElem_cons_succ] at h1
  go_enter Try.func68, Try.ntmps68
  go_wp2_with fail
  go_ret
  exact ⟨rfl, rfl⟩
theorem may_nil (w : World) : Calls Try.prog 50 #[.pointer none] w fun e w' => e = .returned (.int .i64 1) ∧ w = w' := by
  go_enter Try.func50, Try.ntmps50
  go_wp2_with fail
  refine (sectors_nil w).mono ?_
  rintro e w' ⟨rfl, rfl⟩
  go_wp2_with fail
  go_ret
  exact ⟨rfl, rfl⟩
def mayOf (n : Nat) (down : Bool) : Nat := if n = 0 then 1 else if down then 12 else 0
theorem may_at (w : World) (b n cw : Nat) (v0 v2 : Value) (down : Bool) (A : Option Addr) (h : Blk w b 56 #[v0, .slice A n cw, v2, .bool down]) :
    Calls Try.prog 50 #[.pointer (some ⟨b, 0, none⟩)] w fun e w' => e = .returned (.int .i64 (mayOf n down)) ∧ w = w' := by
  have h3 := h.cellv (j := 3) rfl
  simp only [List.getElem_toArray, List.getElem_cons_zero, List.getElem_cons_succ] at h3
  by_cases h0 : n = 0
  · subst h0
    go_enter Try.func50, Try.ntmps50
    go_wp2_with fail
    refine (sectors_at w b 0 cw v0 v2 _ A h).mono ?_
    rintro e w' ⟨rfl, rfl⟩
    go_wp2_with fail
    go_ret
    exact ⟨rfl, rfl⟩
  · cases down with
    | true =>
      have hm : (mayOf n true : Int) = 12 := by unfold mayOf; rw [if_neg h0]; rfl
      rw [hm]
      go_enter Try.func50, Try.ntmps50
      go_wp2_with fail
      refine (sectors_at w b n cw v0 v2 _ A h).mono ?_
      rintro e w' ⟨rfl, rfl⟩
      go_wp2_with fail
      go_ret
      exact ⟨rfl, rfl⟩
    | false =>
      have hm : (mayOf n false : Int) = 0 := by unfold mayOf; rw [if_neg h0]; rfl
      rw [hm]
      go_enter Try.func50, Try.ntmps50
      go_wp2_with fail
      refine (sectors_at w b n cw v0 v2 _ A h).mono ?_
      rintro e w' ⟨rfl, rfl⟩
      go_wp2_with fail
      go_ret
      exact ⟨rfl, rfl⟩
theorem there_at (w : World) (b m c : Nat) (v1 v2 v3 : Value) (A : Option Addr) (h : Blk w b 56 #[.slice A m c, v1, v2, v3]) (k n : Nat) (hm : m ≤ 140737488355328) (hn : n < 9223372036854775808) :
    Calls Try.prog 51 #[.pointer (some ⟨b, 0, none⟩), .int .i64 k, .int .i64 n] w fun e w' => e = .returned (.bool (decide (k + n ≤ m))) ∧ w = w' := by
  have h0 := h.cellv (j := 0) rfl
  simp only [List.getElem_toArray, List.getElem_cons_zero] at h0
  go_enter Try.func51, Try.ntmps51
  go_wp2_with fail
  go_ret
  exact ⟨ret_bool (decide_eq_decide.2 (by omega)), rfl⟩

/-- Reading: nothing, and why; or what stands there, in new memory. -/
def RetRead (w : World) (f : Fl) (k n : Nat) (e : Ending) (w' : World) : Prop :=
  Below w.heap.size w w' ∧
  ((f.down = true ∧ e = .returned (.tuple #[.slice none 0 0, .int .i64 12])) ∨
   (f.down = false ∧ f.cells.length < k + n ∧ e = .returned (.tuple #[.slice none 0 0, .int .i64 10])) ∨
   (f.down = false ∧ k + n ≤ f.cells.length ∧ ∃ v, e = .returned (.tuple #[v, .int .i64 0]) ∧ w'.ownsRow w.heap.size 5 1 v n (u8s (f.seg k n))))
set_option maxRecDepth 100000 in
set_option maxHeartbeats 400000 in
theorem flash_read {D : Nat → Prop} (w : World) (b bc o : Nat) (f : Fl) (h : FlashAt w D b bc o f) (k n : Nat) (hk : k < 9223372036854775808) (hn : n < 9223372036854775808) :
    Calls Try.prog 24 #[.pointer (some ⟨b, 0, none⟩), .int .i64 k, .int .i64 n] w (RetRead w f k n) := by
  obtain ⟨hne, _, ⟨c, A, cw, pv, hb, hc, hp⟩, hcells, hpos, hsmall, hs1, hs2⟩ := h
  have hmay := may_at w b f.sectors cw _ _ _ _ hb
  have hthere := there_at w b _ _ _ _ _ _ hb k n (by omega) hn
  have hcell := hb.cellv (j := 0) rfl
  simp only [List.getElem_toArray, List.getElem_cons_zero] at hcell
  have Hb := Lib.hid hb
  have Hcells := Lib.hid hcells
  clear hb hcells hp
  cases hd : f.down with
  | true =>
    have hm : (mayOf f.sectors true : Int) = 12 := by unfold mayOf; rw [if_neg (by omega)]; rfl
    rw [hd, hm] at hmay
    go_enter Try.func24, Try.ntmps24
    go_wp2_with fail
    refine hmay.mono ?_
    rintro e w' ⟨rfl, rfl⟩
    go_wp2_with fail
    go_ret2
    exact ⟨Below.refl _ _, .inl ⟨hd, rfl⟩⟩
  | false =>
    have hm : (mayOf f.sectors false : Int) = 0 := by unfold mayOf; rw [if_neg (by omega)]; rfl
    rw [hd, hm] at hmay
    by_cases hin : k + n ≤ f.cells.length
    · rw [decide_eq_true hin] at hthere
      have hsl : ∀ W, (Instr.slice 27 (.slice (some ⟨bc, o, none⟩) f.cells.length c) (some (.int .i64 (k : Int))) (some (.int .i64 ((k : Int) + n))) none).run Try.prog W = .ok (.slice (if c = k then some ⟨bc, o, none⟩ else some ⟨bc, o + k, none⟩) n (c - k)) W := fun W => by
        rw [run_slice_lh W 27 _ _ _ Try.underlying27 .i64 .i64 (k : Int) ((k : Int) + n) (by omega) (by omega) (by omega)]
        have h2 : ((k : Int) + n).toNat - k = n := by omega
        simp [sliced, Result.andThen, Program.elem, Try.underlying27, Try.sizeOf5, addr_add, h2]
      have hlen : (f.seg k n).length = n := f.seg_length k n hin
      have HS := Lib.hid (show Sl8 (fun _ => True) w (.slice (if c = k then some ⟨bc, o, none⟩ else some ⟨bc, o + k, none⟩) n (c - k)) (f.seg k n) from ⟨_, c - k, by rw [hlen], by rw [hlen]; omega, by
        split
        · have : n = 0 := by omega
          subst this
          simp [Fl.seg, u8s]
          exact Row.none_ _ _ _
        · exact Hcells.out.row _ trivial k n⟩)
      generalize (if c = k then some (⟨bc, o, none⟩ : Addr) else some ⟨bc, o + k, none⟩) = A2 at hsl HS
      go_enter Try.func24, Try.ntmps24
      go_wp2_with fail
      refine hmay.mono ?_
      rintro e w' ⟨rfl, rfl⟩
      go_wp2_with fail
      refine hthere.mono ?_
      rintro e w' ⟨rfl, rfl⟩
      go_wp2_with fail
      refine (clone8 _ _ w HS.out (by rw [hlen]; omega)).mono ?_
      rintro e w' ⟨⟨v, rfl, hv⟩, hbe⟩
      rw [hlen] at hv
      go_wp2_with fail
      go_ret2
      exact ⟨hbe, .inr (.inr ⟨hd, hin, v, rfl, hv⟩)⟩
    · rw [decide_eq_false hin] at hthere
      go_enter Try.func24, Try.ntmps24
      go_wp2_with fail
      refine hmay.mono ?_
      rintro e w' ⟨rfl, rfl⟩
      go_wp2_with fail
      refine hthere.mono ?_
      rintro e w' ⟨rfl, rfl⟩
      go_wp2_with fail
      go_ret2
      exact ⟨Below.refl _ _, .inr (.inl ⟨hd, by omega, rfl⟩)⟩
end Go.Proofs.Ytmejngojpffcgaa

/- Contracts of the flash: New, Read, Change, Program and record.Write where no power is counted. No condition beyond those each theorem names. -/
import Derived.Test.YtmejngojpffcgaaKbase
import Derived.Deep.RegionWith
import Derived.Laws.MakeOwn
import Derived.StillTailTactics
section
/- A flash as Lean's own data: no Go in this text, but for the row of cells. -/
namespace Go.Ls

/-- Some cells of a row, told anew. -/
def patch (l : List UInt8) (k : Nat) (m : List UInt8) : List UInt8 := l.take k ++ (m ++ l.drop (k + m.length))
theorem patch_length (l : List UInt8) (k : Nat) (m : List UInt8) (h : k + m.length ≤ l.length) : (patch l k m).length = l.length := by
  simp only [patch, List.length_append, List.length_take, List.length_drop]; omega
theorem patch_nil (l : List UInt8) (k : Nat) : patch l k [] = l := by simp [patch]
theorem patch_get (l : List UInt8) (k : Nat) (m : List UInt8) (h : k + m.length ≤ l.length) (j : Nat) :
    (patch l k m)[j]? = if k ≤ j ∧ j < k + m.length then m[j - k]? else l[j]? := by
  unfold patch
  rw [List.getElem?_append, List.getElem?_append, List.length_take, List.getElem?_take, List.getElem?_drop]
  by_cases h1 : j < k
  · rw [if_pos (by omega), if_pos (by omega), if_neg (by omega)]
  · rw [if_neg (by omega), show min k l.length = k by omega]
    by_cases h2 : j - k < m.length
    · rw [if_pos h2, if_pos (by omega)]
    · rw [if_neg h2, if_neg (by omega), show k + m.length + (j - k - m.length) = j by omega]
theorem patch_snoc (l : List UInt8) (k : Nat) (m : List UInt8) (x : UInt8) (h : k + m.length < l.length) : patch l k (m ++ [x]) = (patch l k m).set (k + m.length) x := by
  apply List.ext_getElem?
  intro j
  rw [patch_get _ _ _ (by simp; omega), List.getElem?_set, patch_get _ _ _ (by omega), patch_length _ _ _ (by omega)]
  simp only [List.length_append, List.length_singleton]
  by_cases h1 : k + m.length = j
  · subst h1
    rw [if_pos (by omega), if_pos rfl, if_pos h, List.getElem?_append_right (by omega)]
    simp
  · rw [if_neg h1]
    by_cases h2 : k ≤ j ∧ j < k + m.length
    · rw [if_pos (by omega), if_pos h2, List.getElem?_append_left (by omega)]
    · rw [if_neg (by omega), if_neg h2]

structure Fl where
  cells : List UInt8
  sectors : Nat
  power : Option (Nat × List UInt8)
  down : Bool
def Fl.seg (f : Fl) (k n : Nat) : List UInt8 := (f.cells.drop k).take n
def Fl.may (f : Fl) : Nat := if f.sectors = 0 then 1 else if f.down then 12 else 0
def Fl.change (f : Fl) (k n : Nat) (whole : Nat → UInt8 → UInt8) (torn : Nat → UInt8 → UInt8 → UInt8) : Fl × Nat :=
  match f.power with
  | some (0, mask) => ({ f with cells := patch f.cells k ((f.seg k n).mapIdx fun i x => torn i x (mask.getD i 0)), power := none, down := true }, 12)
  | some (p + 1, mask) => ({ f with cells := patch f.cells k ((f.seg k n).mapIdx whole), power := some (p, mask) }, 0)
  | none => ({ f with cells := patch f.cells k ((f.seg k n).mapIdx whole) }, 0)
def Fl.program (f : Fl) (k : Nat) (b : List UInt8) : Fl × Nat :=
  if f.may ≠ 0 then (f, f.may)
  else if f.cells.length < k + b.length then (f, 10)
  else if k % 4 ≠ 0 ∨ b.length % 4 ≠ 0 then (f, 11)
  else if b.length = 0 then (f, 0)
  else f.change k b.length (fun i x => x &&& b.getD i 0) (fun i x m => x &&& ~~~(m &&& ~~~(b.getD i 0)))
def Fl.new (n : Nat) : Fl := ⟨List.replicate (n * 256) 255, n, none, false⟩
theorem Fl.seg_length (f : Fl) (k n : Nat) (h : k + n ≤ f.cells.length) : (f.seg k n).length = n := by simp only [Fl.seg, List.length_take, List.length_drop]; omega
theorem Fl.seg_get (f : Fl) (k n : Nat) {j : Nat} (hj : j < n) : (f.seg k n)[j]? = f.cells[k + j]? := by
  simp [Fl.seg, hj]

/-! ### A row of bytes that may be written -/
def Cells (w : World) (b o : Nat) (l : List UInt8) : Prop := ∀ (j : Nat) (v : Value), (u8s l)[j]? = some v → w.cell? ⟨b, o + j, none⟩ = some v ∧ w.frozen? ⟨b, o + j, none⟩ = false
theorem Cells.keep {w w' : World} {b o : Nat} {l : List UInt8} (h : Cells w b o l) (hk : w'.heap[b]? = w.heap[b]?) : Cells w' b o l := fun j v hj =>
  ⟨(World.cell?_of_block (a := ⟨b, o + j, none⟩) hk).trans (h j v hj).1, (World.frozen?_of_block (a := ⟨b, o + j, none⟩) hk).trans (h j v hj).2⟩
theorem Cells.at_ {w : World} {b o : Nat} {l : List UInt8} (h : Cells w b o l) {j : Nat} {x : UInt8} (hj : l[j]? = some x) : w.cell? ⟨b, o + j, none⟩ = some (.int .u8 (b8 x)) ∧ w.frozen? ⟨b, o + j, none⟩ = false :=
  h j _ (by simp [u8s, hj])
theorem Cells.set {w : World} {b o : Nat} {l : List UInt8} (h : Cells w b o l) (k : Nat) (x : UInt8) : Cells (w.setCell ⟨b, o + k, none⟩ (.int .u8 (b8 x))) b o (l.set k x) := by
  intro j v hj
  have hlt : j < l.length := by have := (List.getElem?_eq_some_iff.1 hj).1; simpa [u8s] using this
  obtain ⟨h1, h2⟩ := h.at_ (List.getElem?_eq_getElem hlt)
  refine ⟨?_, by rw [World.frozen?_setCell]; exact h2⟩
  by_cases he : k = j
  · subst he
    have : v = .int .u8 (b8 x) := by simpa [u8s, hlt] using hj.symm
    rw [this]
    exact World.cell?_setCell_same' _ _ _ (by rw [h1]; rfl)
  · have hv : v = .int .u8 (b8 l[j]) := by simpa [u8s, List.getElem?_set, he, hlt] using hj.symm
    rw [hv, ← h1]
    exact World.cell?_setCell_other w ⟨b, o + k, none⟩ ⟨b, o + j, none⟩ _ (fun e => by injection e with _ e2; omega)
theorem Cells.row {w : World} {b o : Nat} {l : List UInt8} (h : Cells w b o l) (S : Nat → Prop) (hS : S b) (k n : Nat) : Row S w (some ⟨b, o + k, none⟩) (u8s ((l.drop k).take n)) := fun _ => by
  refine ⟨b, o + k, rfl, hS, fun j v hj => ?_⟩
  rw [Nat.add_assoc]
  refine (h (k + j) v ?_).1
  simp only [u8s, List.map_take, List.map_drop, List.getElem?_take, List.getElem?_drop] at hj ⊢
  split at hj
  · exact hj
  · cases hj
theorem Cells.of_own {S : Nat → Prop} {w : World} {v : Value} {l : List UInt8} (h : Own8 S w v l) (h0 : 0 < l.length) : ∃ b o c, v = .slice (some ⟨b, o, none⟩) l.length c ∧ l.length ≤ c ∧ S b ∧ Cells w b o l := by
  obtain ⟨A, c, e, hc, hr⟩ := h
  obtain ⟨b, o, rfl, hs, hx⟩ := hr (by rw [u8s_length]; exact h0)
  exact ⟨b, o, c, e, hc, hs, hx⟩
end Go.Ls
end

section
namespace Go.Proofs.Ytmejngojpffcgaa
open Go.RowKit Go.Ls

/-- What the power is armed with, told in memory; D: the blocks that are the flash's own. -/
def PowerAt (w : World) (D : Nat → Prop) (b bc : Nat) (pv : Value) : Option (Nat × List UInt8) → Prop
  | none => pv = .pointer none
  | some (left, mask) => ∃ pb mv, pv = .pointer (some ⟨pb, 0, none⟩) ∧ Blk w pb 113 #[.int .i64 left, mv] ∧ D pb ∧ pb ≠ b ∧ pb ≠ bc ∧ Sl8 (fun k => D k ∧ k ≠ b ∧ k ≠ bc ∧ k ≠ pb) w mv mask ∧ left < 2147483648 ∧ mask.length ≤ 140737488355328
/-- A flash in memory: its block b, its cells from o on in block bc. -/
structure FlashAt (w : World) (D : Nat → Prop) (b bc o : Nat) (f : Fl) : Prop where
  ne : b ≠ bc
  own : D b ∧ D bc
  blk : ∃ (c : Nat) (A : Option Addr) (cw : Nat) (pv : Value), Blk w b 56 #[.slice (some ⟨bc, o, none⟩) f.cells.length c, .slice A f.sectors cw, pv, .bool f.down] ∧ f.cells.length ≤ c ∧ PowerAt w D b bc pv f.power
  cells : Cells w bc o f.cells
  pos : 0 < f.cells.length
  small : f.cells.length ≤ 65536
  sects : 0 < f.sectors ∧ f.sectors ≤ 256
theorem FlashAt.lt {w : World} {D : Nat → Prop} {b bc o : Nat} {f : Fl} (h : FlashAt w D b bc o f) : b < w.heap.size ∧ bc < w.heap.size := by
  obtain ⟨_, _, ⟨c, A, cw, pv, h1, _⟩, h2, h3, _, _⟩ := h
  refine ⟨h1.lt, ?_⟩
  exact World.block_lt_of_cell? w ⟨bc, o + 0, none⟩ (h2.at_ (List.getElem?_eq_getElem h3)).1
theorem PowerAt.keep {w w' : World} {D : Nat → Prop} {b bc : Nat} {pv : Value} {q : Option (Nat × List UInt8)} (h : PowerAt w D b bc pv q) (hk : ∀ j, j < w.heap.size → D j → j ≠ b → j ≠ bc → w'.heap[j]? = w.heap[j]?) : PowerAt w' D b bc pv q := by
  cases q with
  | none => exact h
  | some q =>
    obtain ⟨left, mask⟩ := q
    obtain ⟨pb, mv, h1, h2, h3, h4, h5, h6, h7⟩ := h
    exact ⟨pb, mv, h1, (hk pb h2.lt h3 h4 h5).trans h2, h3, h4, h5, Sl.keep h6 fun j hj hd => hk j hj hd.1 hd.2.1 hd.2.2.1, h7⟩
theorem FlashAt.keep {w w' : World} {D : Nat → Prop} {b bc o : Nat} {f : Fl} (h : FlashAt w D b bc o f) (hk : ∀ j, j < w.heap.size → D j → w'.heap[j]? = w.heap[j]?) : FlashAt w' D b bc o f := by
  have hlt := h.lt
  obtain ⟨h1, h2, ⟨c, A, cw, pv, h3, h4, h5⟩, h6, h7, h8, h9⟩ := h
  exact ⟨h1, h2, ⟨c, A, cw, pv, (hk b hlt.1 h2.1).trans h3, h4, h5.keep fun j hj hd _ _ => hk j hj hd⟩, h6.keep (hk bc hlt.2 h2.2), h7, h8, h9⟩
theorem FlashAt.below {w w' : World} {D : Nat → Prop} {b bc o : Nat} {f : Fl} (h : FlashAt w D b bc o f) (hb : Below w.heap.size w w') : FlashAt w' D b bc o f := h.keep fun j hj _ => hb.block j hj

theorem sectors_nil (w : World) : Calls Try.prog 68 #[.pointer none] w fun e w' => e = .returned (.int .i64 0) ∧ w = w' := by
  go_enter Try.func68, Try.ntmps68
  go_wp2_with fail
  go_ret
  exact ⟨rfl, rfl⟩
theorem sectors_at (w : World) (b n cw : Nat) (v0 v2 v3 : Value) (A : Option Addr) (h : Blk w b 56 #[v0, .slice A n cw, v2, v3]) :
    Calls Try.prog 68 #[.pointer (some ⟨b, 0, none⟩)] w fun e w' => e = .returned (.int .i64 n) ∧ w = w' := by
  have h1 := h.cellv (j := 1) rfl
  simp only [List.getElem_toArray, List.getElem_cons_zero, List.getElem_cons_succ] at h1
  go_enter Try.func68, Try.ntmps68
  go_wp2_with fail
  go_ret
  exact ⟨rfl, rfl⟩
theorem may_nil (w : World) : Calls Try.prog 50 #[.pointer none] w fun e w' => e = .returned (.int .i64 1) ∧ w = w' := by
  go_enter Try.func50, Try.ntmps50
  go_wp2_with fail
  refine (sectors_nil w).mono ?_
  rintro e w' ⟨rfl, rfl⟩
  go_wp2_with fail
  go_ret
  exact ⟨rfl, rfl⟩
def mayOf (n : Nat) (down : Bool) : Nat := if n = 0 then 1 else if down then 12 else 0
theorem may_at (w : World) (b n cw : Nat) (v0 v2 : Value) (down : Bool) (A : Option Addr) (h : Blk w b 56 #[v0, .slice A n cw, v2, .bool down]) :
    Calls Try.prog 50 #[.pointer (some ⟨b, 0, none⟩)] w fun e w' => e = .returned (.int .i64 (mayOf n down)) ∧ w = w' := by
  have h3 := h.cellv (j := 3) rfl
  simp only [List.getElem_toArray, List.getElem_cons_zero, List.getElem_cons_succ] at h3
  by_cases h0 : n = 0
  · subst h0
    go_enter Try.func50, Try.ntmps50
    go_wp2_with fail
    refine (sectors_at w b 0 cw v0 v2 _ A h).mono ?_
    rintro e w' ⟨rfl, rfl⟩
    go_wp2_with fail
    go_ret
    exact ⟨rfl, rfl⟩
  · cases down with
    | true =>
      have hm : (mayOf n true : Int) = 12 := by unfold mayOf; rw [if_neg h0]; rfl
      rw [hm]
      go_enter Try.func50, Try.ntmps50
      go_wp2_with fail
      refine (sectors_at w b n cw v0 v2 _ A h).mono ?_
      rintro e w' ⟨rfl, rfl⟩
      go_wp2_with fail
      go_ret
      exact ⟨rfl, rfl⟩
    | false =>
      have hm : (mayOf n false : Int) = 0 := by unfold mayOf; rw [if_neg h0]; rfl
      rw [hm]
      go_enter Try.func50, Try.ntmps50
      go_wp2_with fail
      refine (sectors_at w b n cw v0 v2 _ A h).mono ?_
      rintro e w' ⟨rfl, rfl⟩
      go_wp2_with fail
      go_ret
      exact ⟨rfl, rfl⟩
theorem there_at (w : World) (b m c : Nat) (v1 v2 v3 : Value) (A : Option Addr) (h : Blk w b 56 #[.slice A m c, v1, v2, v3]) (k n : Nat) (hm : m ≤ 140737488355328) (hn : n < 9223372036854775808) :
    Calls Try.prog 51 #[.pointer (some ⟨b, 0, none⟩), .int .i64 k, .int .i64 n] w fun e w' => e = .returned (.bool (decide (k + n ≤ m))) ∧ w = w' := by
  have h0 := h.cellv (j := 0) rfl
  simp only [List.getElem_toArray, List.getElem_cons_zero] at h0
  go_enter Try.func51, Try.ntmps51
  go_wp2_with fail
  go_ret
  exact ⟨ret_bool (decide_eq_decide.2 (by omega)), rfl⟩

/-- Reading: nothing, and why; or what stands there, in new memory. -/
def RetRead (w : World) (f : Fl) (k n : Nat) (e : Ending) (w' : World) : Prop :=
  Below w.heap.size w w' ∧
  ((f.down = true ∧ e = .returned (.tuple #[.slice none 0 0, .int .i64 12])) ∨
   (f.down = false ∧ f.cells.length < k + n ∧ e = .returned (.tuple #[.slice none 0 0, .int .i64 10])) ∨
   (f.down = false ∧ k + n ≤ f.cells.length ∧ ∃ v, e = .returned (.tuple #[v, .int .i64 0]) ∧ w'.ownsRow w.heap.size 5 1 v n (u8s (f.seg k n))))
set_option maxRecDepth 100000 in
set_option maxHeartbeats 400000 in
theorem flash_read {D : Nat → Prop} (w : World) (b bc o : Nat) (f : Fl) (h : FlashAt w D b bc o f) (k n : Nat) (hk : k < 9223372036854775808) (hn : n < 9223372036854775808) :
    Calls Try.prog 24 #[.pointer (some ⟨b, 0, none⟩), .int .i64 k, .int .i64 n] w (RetRead w f k n) := by
  obtain ⟨hne, _, ⟨c, A, cw, pv, hb, hc, hp⟩, hcells, hpos, hsmall, hs1, hs2⟩ := h
  have hmay := may_at w b f.sectors cw _ _ _ _ hb
  have hthere := there_at w b _ _ _ _ _ _ hb k n (by omega) hn
  have hcell := hb.cellv (j := 0) rfl
  simp only [List.getElem_toArray, List.getElem_cons_zero] at hcell
  have Hb := Lib.hid hb
  have Hcells := Lib.hid hcells
  clear hb hcells hp
  cases hd : f.down with
  | true =>
    have hm : (mayOf f.sectors true : Int) = 12 := by unfold mayOf; rw [if_neg (by omega)]; rfl
    rw [hd, hm] at hmay
    go_enter Try.func24, Try.ntmps24
    go_wp2_with fail
    refine hmay.mono ?_
    rintro e w' ⟨rfl, rfl⟩
    go_wp2_with fail
    go_ret2
    exact ⟨Below.refl _ _, .inl ⟨hd, rfl⟩⟩
  | false =>
    have hm : (mayOf f.sectors false : Int) = 0 := by unfold mayOf; rw [if_neg (by omega)]; rfl
    rw [hd, hm] at hmay
    by_cases hin : k + n ≤ f.cells.length
    · rw [decide_eq_true hin] at hthere
      have hsl : ∀ W, (Instr.slice 27 (.slice (some ⟨bc, o, none⟩) f.cells.length c) (some (.int .i64 (k : Int))) (some (.int .i64 ((k : Int) + n))) none).run Try.prog W = .ok (.slice (if c = k then some ⟨bc, o, none⟩ else some ⟨bc, o + k, none⟩) n (c - k)) W := fun W => by
        rw [run_slice_lh W 27 _ _ _ Try.underlying27 .i64 .i64 (k : Int) ((k : Int) + n) (by omega) (by omega) (by omega)]
        have h2 : ((k : Int) + n).toNat - k = n := by omega
        simp [sliced, Result.andThen, Program.elem, Try.underlying27, Try.sizeOf5, addr_add, h2]
      have hlen : (f.seg k n).length = n := f.seg_length k n hin
      have HS := Lib.hid (show Sl8 (fun _ => True) w (.slice (if c = k then some ⟨bc, o, none⟩ else some ⟨bc, o + k, none⟩) n (c - k)) (f.seg k n) from ⟨_, c - k, by rw [hlen], by rw [hlen]; omega, by
        split
        · have : n = 0 := by omega
          subst this
          simp [Fl.seg, u8s]
          exact Row.none_ _ _ _
        · exact Hcells.out.row _ trivial k n⟩)
      generalize (if c = k then some (⟨bc, o, none⟩ : Addr) else some ⟨bc, o + k, none⟩) = A2 at hsl HS
      go_enter Try.func24, Try.ntmps24
      go_wp2_with fail
      refine hmay.mono ?_
      rintro e w' ⟨rfl, rfl⟩
      go_wp2_with fail
      refine hthere.mono ?_
      rintro e w' ⟨rfl, rfl⟩
      go_wp2_with fail
      refine (clone8 _ _ w HS.out (by rw [hlen]; omega)).mono ?_
      rintro e w' ⟨⟨v, rfl, hv⟩, hbe⟩
      rw [hlen] at hv
      go_wp2_with fail
      go_ret2
      exact ⟨hbe, .inr (.inr ⟨hd, hin, v, rfl, hv⟩)⟩
    · rw [decide_eq_false hin] at hthere
      go_enter Try.func24, Try.ntmps24
      go_wp2_with fail
      refine hmay.mono ?_
      rintro e w' ⟨rfl, rfl⟩
      go_wp2_with fail
      refine hthere.mono ?_
      rintro e w' ⟨rfl, rfl⟩
      go_wp2_with fail
      go_ret2
      exact ⟨Below.refl _ _, .inr (.inl ⟨hd, by omega, rfl⟩)⟩
end Go.Proofs.Ytmejngojpffcgaa
end

section
namespace Go.Proofs.Ytmejngojpffcgaa
open Go.RowKit Go.Ls

theorem infoInt : (Try.prog.info? 3).map (fun i => (i.zero, i.size, i.bytes)) = some (some (.int .i64 0), 1, 8) := by kernel_rfl
theorem blk_new' {w : World} {t : TypeId} {cs : Array Value} {n : Nat} (h : n = w.heap.size) : Blk (w.alloc (.cells cs t)) n t cs := by subst h; exact Blk.new w t cs
theorem sl8_one {w : World} {b : Nat} {t : TypeId} (h : Blk w b t #[.int .u8 255]) : Sl8 (fun _ => True) w (.slice (some ⟨b, 0, none⟩) 1 1) [255] := sl8_blk (l := [255]) h rfl _ trivial 1 (Nat.le_refl _)
def RetNew (n : Nat) (w : World) (e : Ending) (w' : World) : Prop :=
  ∃ b bc o, e = .returned (.tuple #[.pointer (some ⟨b, 0, none⟩), .int .i64 0]) ∧ FlashAt w' (fun j => j = b ∨ j = bc) b bc o (Fl.new n) ∧ Below w.heap.size w w' ∧ w.heap.size ≤ b ∧ w.heap.size ≤ bc
theorem below_drew {B : Nat} {w W : World} (h : Below B w W) : Below B w W.drew := ⟨h.os, h.tape, h.output, h.size, h.block⟩
theorem new_done (w w1 : World) (b bc o c n : Nat) (A : Option Addr) (hb : Below w.heap.size w w1) (hbc : w.heap.size ≤ bc) (hcells : Cells w1 bc o (List.replicate (n * 256) 255)) (h8 : 8 ≤ n) (h256 : n ≤ 256) (hc : n * 256 ≤ c) (he : b = w1.heap.size) :
    RetNew n w (.returned (.tuple #[.pointer (some ⟨b, 0, none⟩), .int .i64 0])) (w1.alloc (.cells #[.slice (some ⟨bc, o, none⟩) (n * 256) c, .slice A n n, .pointer none, .bool false] 56)) := by
  subst he
  have hx : (List.replicate (n * 256) (255 : UInt8))[0]? = some 255 := by rw [List.getElem?_replicate]; exact if_pos (by omega)
  have hlt : bc < w1.heap.size := World.block_lt_of_cell? w1 ⟨bc, o + 0, none⟩ (hcells.at_ hx).1
  refine ⟨_, bc, o, rfl, ⟨by omega, ⟨.inl rfl, .inr rfl⟩, ⟨c, A, n, _, by simpa [Fl.new] using Blk.new w1 _ _, by simp [Fl.new]; omega, rfl⟩, hcells.keep (Below.heap_alloc _ _ _ hlt), by simp [Fl.new]; omega, by simp [Fl.new]; omega, by simp [Fl.new]; omega⟩, hb.alloc hb.size _, hb.size, hbc⟩
set_option maxRecDepth 100000 in
set_option maxHeartbeats 800000 in
theorem flash_new (n : Nat) (h8 : 8 ≤ n) (h256 : n ≤ 256) (w : World) : Calls Try.prog 17 #[.int .i64 n] w (RetNew n w) := by
  obtain ⟨i0, hi, hz0, hz1, hz2⟩ := info_parts infoInt
  have hmk : ∀ W : World, (Instr.makeSlice 53 (.int .i64 n) (.int .i64 n)).run Try.prog W = .ok (.slice (some ⟨W.heap.size, 0, none⟩) n n) (W.alloc (.cells (madeCells (Value.int .i64 0).cells (n * i0.size)) 3)) := fun W => by
    have := run_makeSlice (P := Try.prog) (w := W) 53 3 i0 (.int .i64 0) Try.underlying53 hi hz0 .i64 .i64 n n (by omega) (by omega) (by rw [hz1]; simp; omega) (by rw [hz2]; simp; omega) (by omega)
    simpa using this
  generalize madeCells (Value.int .i64 0).cells (n * i0.size) = wcs at hmk
  go_enter Try.func17, Try.ntmps17
  have hrep : ∀ v (W : World), Sl8 (fun _ => True) W v [255] → Calls Try.prog 49 #[v, .int .i64 (IntKind.i64.wrap ((n : Int) * 256))] W (RetOwn8 (From W.heap.size) W (List.replicate (n * 256) 255)) := fun v W hv => by
    have := bytes_repeat 255 (n * 256) (by omega) (by omega) v W hv
    rwa [show ((n * 256 : Nat) : Int) = IntKind.i64.wrap ((n : Int) * 256) by rw [IntKind.wrap_i64]; omega] at this
  have hpos : 0 < (List.replicate (n * 256) (255 : UInt8)).length := by rw [List.length_replicate]; omega
  obtain ⟨cl, hcl⟩ : ∃ cl, cl = List.replicate (n * 256) (255 : UInt8) := ⟨_, rfl⟩
  rw [← hcl] at hpos
  simp only [← hcl] at hrep
  have hlen : cl.length = n * 256 := by rw [hcl, List.length_replicate]
  have Hcl := Lib.hid hcl; clear hcl
  go_wp2_with fail
  go_region_with (go_at_call 49; refine (hrep _ _ (by first | exact sl8_one (Blk.drew (blk_new' (by simp))) | exact sl8_one (Blk.drew (Blk.alloc (blk_new' (by simp)) _)) | exact sl8_one (blk_new' (by simp)) | exact sl8_one (Blk.alloc (blk_new' (by simp)) _))).mono ?_; rintro e w' ⟨⟨v, rfl, hv⟩, hbe⟩; obtain ⟨bc, o, c, rfl, hc, hbc, hcells⟩ := Cells.of_own hv hpos)
  all_goals
    rw [Hcl.out] at hcells
    rw [hlen] at hc
    have Hc := Lib.hid hcells; clear hcells hv
    have Hbe := Lib.hid hbe; clear hbe
    have Hbc := Lib.hid hbc; clear hbc
    go_wp2_with fail
    go_ret2
  · have hb : Below w.heap.size w w' := (below_drew ((Below.refl _ w).alloc (Nat.le_refl _) _)).trans (Hbe.out.mono (by simp))
    have hbc : w.heap.size + 1 ≤ bc := by have := Hbc.out; unfold From at this; simpa using this
    have hx : (List.replicate (n * 256) (255 : UInt8))[0]? = some 255 := by rw [List.getElem?_replicate]; exact if_pos (by omega)
    have hlt : bc < w'.heap.size := World.block_lt_of_cell? w' ⟨bc, o + 0, none⟩ (Hc.out.at_ hx).1
    exact new_done w _ _ bc o c n _ (hb.alloc hb.size _) (by omega) (Hc.out.keep (Below.heap_alloc _ _ _ hlt)) h8 h256 hc (by simp)
  · have hb : Below w.heap.size w w' := (below_drew (((Below.refl _ w).alloc (Nat.le_refl _) _).alloc (by simp) _)).trans (Hbe.out.mono (by simp; omega))
    have hbc : w.heap.size + 2 ≤ bc := by have := Hbc.out; unfold From at this; simpa using this
    exact new_done w _ _ bc o c n _ hb (by omega) Hc.out h8 h256 hc rfl
  · have hb : Below w.heap.size w w' := (below_drew (((Below.refl _ w).alloc (Nat.le_refl _) _).alloc (by simp) _)).trans (Hbe.out.mono (by simp; omega))
    have hbc : w.heap.size + 2 ≤ bc := by have := Hbc.out; unfold From at this; simpa using this
    exact new_done w _ _ bc o c n _ hb (by omega) Hc.out h8 h256 hc rfl
end Go.Proofs.Ytmejngojpffcgaa
end

section
namespace Go.Proofs.Ytmejngojpffcgaa
open Go.RowKit Go.Ls

/-- What lies outside D lies as it lay. -/
structure Only (D : Nat → Prop) (w w' : World) : Prop where
  os : w'.os = w.os
  tape : w'.tape = w.tape
  output : w'.output = w.output
  size : w.heap.size ≤ w'.heap.size
  block : ∀ j, j < w.heap.size → ¬ D j → w'.heap[j]? = w.heap[j]?
theorem Only.refl (D : Nat → Prop) (w : World) : Only D w w := ⟨rfl, rfl, rfl, Nat.le_refl _, fun _ _ _ => rfl⟩
theorem Only.trans {D : Nat → Prop} {u v w : World} (h : Only D u v) (k : Only D v w) : Only D u w :=
  ⟨k.os.trans h.os, k.tape.trans h.tape, k.output.trans h.output, Nat.le_trans h.size k.size, fun j hj hd => (k.block j (Nat.lt_of_lt_of_le hj h.size) hd).trans (h.block j hj hd)⟩
theorem Only.of_below {D : Nat → Prop} {w w' : World} (h : Below w.heap.size w w') : Only D w w' := ⟨h.os, h.tape, h.output, h.size, fun j hj _ => h.block j hj⟩
theorem Only.mono {D D' : Nat → Prop} {w w' : World} (h : Only D w w') (hd : ∀ j, j < w.heap.size → D j → D' j) : Only D' w w' := ⟨h.os, h.tape, h.output, h.size, fun j hj hn => h.block j hj fun hx => hn (hd j hj hx)⟩
theorem Only.setCell {D : Nat → Prop} (w : World) (p : Addr) (v : Value) (hp : D p.block) : Only D w (w.setCell p v) :=
  ⟨rfl, rfl, rfl, by simp, fun j _ hd => heap_setCell_other w p j v (fun e => hd (by rw [e]; exact hp))⟩

/-- A function value that tells a byte anew, whatever of D has turned. -/
def Fun2 (w : World) (D : Nat → Prop) (fv : Value) (n : Nat) (g : Nat → UInt8 → UInt8) : Prop :=
  ∃ fid cap, fv = .func (.func fid) #[] cap ∧ (∀ args W, (callFunc fid args).run Try.prog W = .ok (.enter fid args) W) ∧
    ∀ W, Only D w W → ∀ i, i < n → ∀ x : UInt8, Calls Try.prog fid (#[.int .i64 i, .int .u8 (b8 x)] ++ cap) W fun e w' => e = .returned (.int .u8 (b8 (g i x))) ∧ W = w'
def Fun3 (w : World) (D : Nat → Prop) (fv : Value) (n : Nat) (g : Nat → UInt8 → UInt8 → UInt8) : Prop :=
  ∃ fid cap, fv = .func (.func fid) #[] cap ∧ (∀ args W, (callFunc fid args).run Try.prog W = .ok (.enter fid args) W) ∧
    ∀ W, Only D w W → ∀ i, i < n → ∀ x m : UInt8, Calls Try.prog fid (#[.int .i64 i, .int .u8 (b8 x), .int .u8 (b8 m)] ++ cap) W fun e w' => e = .returned (.int .u8 (b8 (g i x m))) ∧ W = w'
theorem mapIdx_take_succ {α : Type} (l : List α) (g : Nat → α → α) (j : Nat) (x : α) (h : l[j]? = some x) : (l.take (j + 1)).mapIdx g = (l.take j).mapIdx g ++ [g j x] := by
  obtain ⟨hj, hx⟩ := List.getElem?_eq_some_iff.1 h
  rw [List.take_add_one, h, Option.toList_some, List.mapIdx_append]
  simp [List.length_take, Nat.min_eq_left (Nat.le_of_lt hj)]

theorem FlashAt.patched {w w' : World} {D : Nat → Prop} {b bc o : Nat} {f : Fl} (h : FlashAt w D b bc o f) (hon : Only (fun x => x = bc) w w') {l : List UInt8} (hl : l.length = f.cells.length) (hc : Cells w' bc o l) : FlashAt w' D b bc o { f with cells := l } := by
  have hlt := h.lt
  obtain ⟨h1, h2, ⟨c, A, cw, pv, h3, h4, h5⟩, h6, h7, h8, h9⟩ := h
  refine ⟨h1, h2, ⟨c, A, cw, pv, ?_, ?_, ?_⟩, hc, ?_, ?_, h9⟩
  · show Blk w' b _ #[.slice (some ⟨bc, o, none⟩) l.length c, _, _, _]
    rw [hl]
    exact (hon.block b hlt.1 h1).trans h3
  · show l.length ≤ c; omega
  · exact h5.keep fun j hj _ _ hne => hon.block j hj hne
  · show 0 < l.length; omega
  · show l.length ≤ 65536; omega

set_option maxRecDepth 100000 in
set_option maxHeartbeats 800000 in
theorem change_plain {D : Nat → Prop} (w : World) (b bc o : Nat) (f : Fl) (h : FlashAt w D b bc o f) (k n c : Nat) (hin : k + n ≤ f.cells.length) (h0 : 0 < n) (hc : n ≤ c) (fw ft : Value) (g : Nat → UInt8 → UInt8) (hw : Fun2 w D fw n g) (hpw : f.power = none) :
    Calls Try.prog 52 #[.pointer (some ⟨b, 0, none⟩), .slice (some ⟨bc, o + k, none⟩) n c, fw, ft] w
      fun e w' => e = .returned (.int .i64 0) ∧ FlashAt w' D b bc o { f with cells := patch f.cells k ((f.seg k n).mapIdx g) } ∧ Only D w w' := by
  have hF := h
  obtain ⟨hne, ⟨hDb, hDc⟩, ⟨c0, A, cw, pv, hb, hc0, hp⟩, hcells, hpos, hsmall, hs⟩ := h
  rw [hpw] at hp
  obtain rfl : pv = .pointer none := hp
  have hcell2 := hb.cellv (j := 2) rfl
  simp only [List.getElem_toArray, List.getElem_cons_zero, List.getElem_cons_succ] at hcell2
  obtain ⟨fid, cap, rfl, hen, hcall⟩ := hw
  have hlen : (f.seg k n).length = n := f.seg_length k n hin
  have Hcall := Lib.hid hcall; clear hcall
  have Hcells := Lib.hid hcells; clear hcells
  have Hb := Lib.hid hb; clear hb
  have HF := Lib.hid hF; clear hF
  go_enter Try.func52, Try.ntmps52
  go_wp2_with fail
  go_loopw [75] (fun i wr => ∃ j : Nat, j ≤ n ∧ i = .int .i64 j ∧ Hid (Cells wr bc o (patch f.cells k (((f.seg k n).take j).mapIdx g))) ∧ Hid (Only (fun x => x = bc) w wr))
    (fun i _ => n - (intOf i).toNat)
  case atStart => exact ⟨0, Nat.zero_le _, rfl, by rw [List.take_zero, List.mapIdx_nil, patch_nil]; exact Hcells.out, Only.refl _ _⟩
  case round =>
    obtain ⟨j, hj, rfl, hcs, hon⟩ := hrel
    by_cases hlt : j < n
    · have hx : (f.seg k n)[j]? = some (f.seg k n)[j] := List.getElem?_eq_getElem (by omega)
      have hold : (patch f.cells k (((f.seg k n).take j).mapIdx g))[k + j]? = some (f.seg k n)[j] := by
        rw [patch_get _ _ _ (by simp; omega), if_neg (by simp; omega), ← f.seg_get k n hlt, hx]
      obtain ⟨hv, hfz⟩ := hcs.out.at_ hold
      rw [← Nat.add_assoc] at hv hfz
      have HX := Hcall.out wr (hon.out.mono fun x _ e => by subst e; exact hDc) j hlt (f.seg k n)[j]
      have Hset := Lib.hid (show Cells (wr.setCell ⟨bc, o + k + j, none⟩ (.int .u8 (b8 (g j (f.seg k n)[j])))) bc o (patch f.cells k (((f.seg k n).take (j + 1)).mapIdx g)) from by
        rw [mapIdx_take_succ _ _ _ _ hx, patch_snoc _ _ _ _ (by simp; omega)]
        have := hcs.out.set (k + j) (g j (f.seg k n)[j])
        rw [Nat.add_assoc]
        simpa [hlen, Nat.min_eq_left (Nat.le_of_lt hlt)] using this)
      have Hon := Lib.hid (hon.out.trans (Only.setCell wr ⟨bc, o + k + j, none⟩ (.int .u8 (b8 (g j (f.seg k n)[j]))) rfl))
      generalize (f.seg k n)[j] = x at *
      clear hx hold
      go_wp2_with (first | (refine HX.mono ?_; rintro e w' ⟨rfl, rfl⟩))
      go_roundw
      case rel => exact ⟨j + 1, by omega, by go_num, Hset, Hon⟩
      case measure => simp [intOf]; omega
    · obtain rfl : j = n := by omega
      rw [List.take_of_length_le (by omega)] at hcs
      go_wp2_with fail
      go_ret
      exact ⟨rfl, HF.out.patched hon.out (patch_length _ _ _ (by simp; omega)) hcs.out, hon.out.mono fun x _ e => by subst e; exact hDc⟩
def RetChange (w : World) (D : Nat → Prop) (b bc o : Nat) (r : Fl × Nat) (e : Ending) (w' : World) : Prop :=
  e = .returned (.int .i64 r.2) ∧ FlashAt w' D b bc o r.1 ∧ Only D w w'
set_option maxRecDepth 100000 in
set_option maxHeartbeats 800000 in
theorem change_counted {D : Nat → Prop} (w : World) (b bc o : Nat) (f : Fl) (h : FlashAt w D b bc o f) (k n c : Nat) (hin : k + n ≤ f.cells.length) (h0 : 0 < n) (hc : n ≤ c) (fw ft : Value) (g : Nat → UInt8 → UInt8) (hw : Fun2 w D fw n g) (left : Nat) (mask : List UInt8) (hpw : f.power = some (left + 1, mask)) :
    Calls Try.prog 52 #[.pointer (some ⟨b, 0, none⟩), .slice (some ⟨bc, o + k, none⟩) n c, fw, ft] w
      fun e w' => e = .returned (.int .i64 0) ∧ FlashAt w' D b bc o { f with cells := patch f.cells k ((f.seg k n).mapIdx g), power := some (left, mask) } ∧ Only D w w' := by
  have hF := h
  obtain ⟨hne, ⟨hDb, hDc⟩, ⟨c0, A, cw, pv, hb, hc0, hp⟩, hcells, hpos, hsmall, hs⟩ := h
  rw [hpw] at hp
  obtain ⟨pb, mv, rfl, hpbk, hDp, hpb, hpbc, hmask, hleft, hmlen⟩ := hp
  have hcell2 := hb.cellv (j := 2) rfl
  simp only [List.getElem_toArray, List.getElem_cons_zero, List.getElem_cons_succ] at hcell2
  have hpc0 := hpbk.cellv (j := 0) rfl
  have hpf0 := hpbk.frozen 0
  simp only [List.getElem_toArray, List.getElem_cons_zero, List.getElem_cons_succ] at hpc0
  obtain ⟨fid, cap, rfl, hen, hcall⟩ := hw
  have hlen : (f.seg k n).length = n := f.seg_length k n hin
  have hon1 : Only D w (w.setCell ⟨pb, 0, none⟩ (.int .i64 left)) := Only.setCell w ⟨pb, 0, none⟩ _ hDp
  have hlt := hF.lt
  have hF1 : FlashAt (w.setCell ⟨pb, 0, none⟩ (.int .i64 left)) D b bc o { f with power := some (left, mask) } := by
    refine ⟨hne, ⟨hDb, hDc⟩, ⟨c0, A, cw, _, hb.far (by simpa using Ne.symm hpb) _, hc0, ⟨pb, mv, rfl, ?_, hDp, hpb, hpbc, ?_, by omega, hmlen⟩⟩, hcells.keep (heap_setCell_other w _ _ _ (Ne.symm hpbc)), hpos, hsmall, hs⟩
    · exact hpbk.set 0 (.int .i64 left)
    · exact Sl.keep hmask fun z _ hz => heap_setCell_other w _ z _ hz.2.2.2
  have hwrap : IntKind.i64.wrap (((left + 1 : Nat) : Int) - 1) = (left : Int) := by rw [IntKind.wrap_i64]; omega
  have hz : ((((left + 1 : Nat) : Int)) == 0) = false := by simp; omega
  have Hcall := Lib.hid hcall; clear hcall
  have Hon1 := Lib.hid hon1; clear hon1
  have HF1 := Lib.hid hF1; clear hF1
  obtain ⟨lf, hlf⟩ : ∃ z : Int, z = ((left + 1 : Nat) : Int) := ⟨_, rfl⟩
  rw [← hlf] at hpc0 hwrap hz
  clear hcells hb hF hpbk hmask hlf
  go_enter Try.func52, Try.ntmps52
  go_wp2_with fail
  generalize (w.setCell ⟨pb, 0, none⟩ (.int .i64 left)) = w1 at *
  have Hcells := Lib.hid HF1.out.cells
  go_loopw [75] (fun i wr => ∃ j : Nat, j ≤ n ∧ i = .int .i64 j ∧ Hid (Cells wr bc o (patch f.cells k (((f.seg k n).take j).mapIdx g))) ∧ Hid (Only (fun x => x = bc) w1 wr))
    (fun i _ => n - (intOf i).toNat)
  case atStart => exact ⟨0, Nat.zero_le _, rfl, by rw [List.take_zero, List.mapIdx_nil, patch_nil]; exact Hcells.out, Only.refl _ _⟩
  case round =>
    obtain ⟨j, hj, rfl, hcs, hon⟩ := hrel
    by_cases hlt : j < n
    · have hx : (f.seg k n)[j]? = some (f.seg k n)[j] := List.getElem?_eq_getElem (by omega)
      have hold : (patch f.cells k (((f.seg k n).take j).mapIdx g))[k + j]? = some (f.seg k n)[j] := by
        rw [patch_get _ _ _ (by simp; omega), if_neg (by simp; omega), ← f.seg_get k n hlt, hx]
      obtain ⟨hv, hfz⟩ := hcs.out.at_ hold
      rw [← Nat.add_assoc] at hv hfz
      have HX := Hcall.out wr (Hon1.out.trans (hon.out.mono fun x _ e => by subst e; exact hDc)) j hlt (f.seg k n)[j]
      have Hset := Lib.hid (show Cells (wr.setCell ⟨bc, o + k + j, none⟩ (.int .u8 (b8 (g j (f.seg k n)[j])))) bc o (patch f.cells k (((f.seg k n).take (j + 1)).mapIdx g)) from by
        rw [mapIdx_take_succ _ _ _ _ hx, patch_snoc _ _ _ _ (by simp; omega)]
        have := hcs.out.set (k + j) (g j (f.seg k n)[j])
        rw [Nat.add_assoc]
        simpa [hlen, Nat.min_eq_left (Nat.le_of_lt hlt)] using this)
      have Hon := Lib.hid (hon.out.trans (Only.setCell wr ⟨bc, o + k + j, none⟩ (.int .u8 (b8 (g j (f.seg k n)[j]))) rfl))
      generalize (f.seg k n)[j] = x at *
      clear hx hold
      go_wp2_with (first | (refine HX.mono ?_; rintro e w' ⟨rfl, rfl⟩))
      go_roundw
      case rel => exact ⟨j + 1, by omega, by go_num, Hset, Hon⟩
      case measure => simp [intOf]; omega
    · obtain rfl : j = n := by omega
      rw [List.take_of_length_le (by omega)] at hcs
      go_wp2_with fail
      go_ret
      exact ⟨rfl, HF1.out.patched hon.out (patch_length _ _ _ (by simp; omega)) hcs.out, Hon1.out.trans (hon.out.mono fun x _ e => by subst e; exact hDc)⟩
set_option maxRecDepth 100000 in
set_option maxHeartbeats 800000 in
theorem change_torn {D : Nat → Prop} (w : World) (b bc o : Nat) (f : Fl) (h : FlashAt w D b bc o f) (k n c : Nat) (hin : k + n ≤ f.cells.length) (h0 : 0 < n) (hc : n ≤ c) (fw ft : Value) (g : Nat → UInt8 → UInt8 → UInt8) (hw : Fun3 w D ft n g) (mask : List UInt8) (hpw : f.power = some (0, mask)) :
    Calls Try.prog 52 #[.pointer (some ⟨b, 0, none⟩), .slice (some ⟨bc, o + k, none⟩) n c, fw, ft] w
      fun e w' => e = .returned (.int .i64 12) ∧ FlashAt w' D b bc o { f with cells := patch f.cells k ((f.seg k n).mapIdx fun i x => g i x (mask.getD i 0)), power := none, down := true } ∧ Only D w w' := by
  have hF := h
  obtain ⟨hne, ⟨hDb, hDc⟩, ⟨c0, A, cw, pv, hb, hc0, hp⟩, hcells, hpos, hsmall, hs⟩ := h
  rw [hpw] at hp
  obtain ⟨pb, mv, rfl, hpbk, hDp, hpb, hpbc, hmask, hleft, hmlen⟩ := hp
  have hcell2 := hb.cellv (j := 2) rfl
  simp only [List.getElem_toArray, List.getElem_cons_zero, List.getElem_cons_succ] at hcell2
  have hpc0 := hpbk.cellv (j := 0) rfl
  simp only [List.getElem_toArray, List.getElem_cons_zero] at hpc0
  have hz : ((((0 : Nat) : Int)) == 0) = true := by decide
  obtain ⟨fid, cap, rfl, hen, hcall⟩ := hw
  obtain ⟨Am, cm, rfl, hcm, hmr⟩ := hmask
  obtain ⟨ml, hml⟩ : ∃ ml, ml = mask.length := ⟨_, rfl⟩
  rw [← hml] at hpbk hcm hmlen
  have Hml := Lib.hid hml; clear hml
  have hlen : (f.seg k n).length = n := f.seg_length k n hin
  have hltF := hF.lt
  have Hcall := Lib.hid hcall; clear hcall
  have Hcells := Lib.hid hcells; clear hcells
  have Hb := Lib.hid hb; clear hb
  have HF := Lib.hid hF; clear hF
  have Hpbk := Lib.hid hpbk; clear hpbk
  have Hmr := Lib.hid hmr; clear hmr
  obtain ⟨lf, hlf⟩ : ∃ z : Int, z = ((0 : Nat) : Int) := ⟨_, rfl⟩
  rw [← hlf] at hpc0 hz
  clear hlf
  go_enter Try.func52, Try.ntmps52
  go_wp2_with fail
  go_loopw [30] (fun i wr => ∃ j : Nat, j ≤ n ∧ i = .int .i64 j ∧ Hid (Cells wr bc o (patch f.cells k (((f.seg k n).take j).mapIdx fun i x => g i x (mask.getD i 0)))) ∧ Hid (Only (fun x => x = bc) w wr))
    (fun i _ => n - (intOf i).toNat)
  case atStart => exact ⟨0, Nat.zero_le _, rfl, by rw [List.take_zero, List.mapIdx_nil, patch_nil]; exact Hcells.out, Only.refl _ _⟩
  case round =>
    obtain ⟨j, hj, rfl, hcs, hon⟩ := hrel
    by_cases hlt : j < n
    · have hx : (f.seg k n)[j]? = some (f.seg k n)[j] := List.getElem?_eq_getElem (by omega)
      have hold : (patch f.cells k (((f.seg k n).take j).mapIdx fun i x => g i x (mask.getD i 0)))[k + j]? = some (f.seg k n)[j] := by
        rw [patch_get _ _ _ (by simp; omega), if_neg (by simp; omega), ← f.seg_get k n hlt, hx]
      obtain ⟨hv, hfz⟩ := hcs.out.at_ hold
      rw [← Nat.add_assoc] at hv hfz
      have HX := Hcall.out wr (hon.out.mono fun x _ e => by subst e; exact hDc) j hlt (f.seg k n)[j] (mask.getD j 0)
      have Hset := Lib.hid (show Cells (wr.setCell ⟨bc, o + k + j, none⟩ (.int .u8 (b8 (g j (f.seg k n)[j] (mask.getD j 0))))) bc o (patch f.cells k (((f.seg k n).take (j + 1)).mapIdx fun i x => g i x (mask.getD i 0))) from by
        rw [mapIdx_take_succ _ _ _ _ hx, patch_snoc _ _ _ _ (by simp; omega)]
        have := hcs.out.set (k + j) (g j (f.seg k n)[j] (mask.getD j 0))
        rw [Nat.add_assoc]
        simpa [hlen, Nat.min_eq_left (Nat.le_of_lt hlt)] using this)
      have Hon := Lib.hid (hon.out.trans (Only.setCell wr ⟨bc, o + k + j, none⟩ (.int .u8 (b8 (g j (f.seg k n)[j] (mask.getD j 0)))) rfl))
      have hpr := (hon.out.block pb (by have := Hpbk.out.lt; exact this) hpbc).trans Hpbk.out
      have q1 := Blk.cellv (j := 1) hpr rfl
      simp only [List.getElem_toArray, List.getElem_cons_zero, List.getElem_cons_succ] at q1
      clear hx hold hpr
      by_cases hjm : j < ml
      · obtain ⟨bm, om, rfl, hSm, qm⟩ := (Hmr.out.keep fun z hz hS => hon.out.block z hz hS.2.2.1).at_ (u8s_get (l := mask) (j := j) (by have := Hml.out; omega))
        have hgd : mask.getD j 0 = mask[j]'(by have := Hml.out; omega) := by rw [List.getD_eq_getElem?_getD, List.getElem?_eq_getElem (by have := Hml.out; omega)]; rfl
        rw [← hgd] at qm
        clear hgd
        generalize (f.seg k n)[j] = x at *
        generalize mask.getD j 0 = mj at *
        go_wp2_with (first | (refine HX.mono ?_; rintro e w' ⟨rfl, rfl⟩))
        go_roundw
        case rel => exact ⟨j + 1, by omega, by go_num, Hset, Hon⟩
        case measure => simp [intOf]; omega
      · have hgd : mask.getD j 0 = 0 := by rw [List.getD_eq_getElem?_getD, List.getElem?_eq_none (by have := Hml.out; omega)]; rfl
        rw [hgd] at HX Hset Hon
        rw [show b8 0 = 0 from rfl] at HX
        clear hgd
        generalize (f.seg k n)[j] = x at *
        go_wp2_with (first | (refine HX.mono ?_; rintro e w' ⟨rfl, rfl⟩))
        go_roundw
        case rel => exact ⟨j + 1, by omega, by go_num, Hset, Hon⟩
        case measure => simp [intOf]; omega
    · obtain rfl : j = n := by omega
      rw [List.take_of_length_le (by omega)] at hcs
      have hb2 : Blk wr b 56 #[.slice (some ⟨bc, o, none⟩) f.cells.length c0, .slice A f.sectors cw, .pointer (some ⟨pb, 0, none⟩), .bool f.down] := (hon.out.block b hltF.1 hne).trans Hb.out
      have f2 := Blk.frozen hb2 2
      have f3 := Blk.frozen hb2 3
      have s2 := Blk.cellv (j := 2) hb2 rfl
      have s3 := Blk.cellv (j := 3) hb2 rfl
      simp only [List.getElem_toArray, List.getElem_cons_zero, List.getElem_cons_succ] at s2 s3
      have Hb2 := Lib.hid hb2; clear hb2
      go_wp2_with fail
      go_ret
      have hb3 : Blk ((wr.setCell ⟨b, 2, none⟩ (.pointer none)).setCell ⟨b, 3, none⟩ (.bool true)) b 56 #[.slice (some ⟨bc, o, none⟩) f.cells.length c0, .slice A f.sectors cw, .pointer none, .bool true] := (Blk.set Hb2.out 2 (.pointer none)).set 3 (.bool true)
      have ho3 : Only D wr ((wr.setCell ⟨b, 2, none⟩ (.pointer none)).setCell ⟨b, 3, none⟩ (.bool true)) := (Only.setCell wr ⟨b, 2, none⟩ _ hDb).trans (Only.setCell _ ⟨b, 3, none⟩ _ hDb)
      have hc3 : Cells ((wr.setCell ⟨b, 2, none⟩ (.pointer none)).setCell ⟨b, 3, none⟩ (.bool true)) bc o (patch f.cells k ((f.seg k j).mapIdx fun i x => g i x (mask.getD i 0))) :=
        (hcs.out.keep (heap_setCell_other wr _ _ _ (Ne.symm hne))).keep (heap_setCell_other _ _ _ _ (Ne.symm hne))
      have hpl : (patch f.cells k ((f.seg k j).mapIdx fun i x => g i x (mask.getD i 0))).length = f.cells.length := patch_length _ _ _ (by simp; omega)
      refine ⟨rfl, ⟨hne, ⟨hDb, hDc⟩, ⟨c0, A, cw, _, ?_, ?_, rfl⟩, hc3, ?_, ?_, hs⟩, (hon.out.mono fun x _ e => by subst e; exact hDc).trans ho3⟩
      · show Blk _ b _ #[.slice _ (patch _ _ _).length c0, _, _, _]
        rw [hpl]; exact hb3
      · show (patch _ _ _).length ≤ c0; omega
      · show 0 < (patch _ _ _).length; omega
      · show (patch _ _ _).length ≤ 65536; omega
/-- All of it: whatever the power. -/
theorem change_any {D : Nat → Prop} (w : World) (b bc o : Nat) (f : Fl) (h : FlashAt w D b bc o f) (k n c : Nat) (hin : k + n ≤ f.cells.length) (h0 : 0 < n) (hc : n ≤ c) (fw ft : Value) (g : Nat → UInt8 → UInt8) (gt : Nat → UInt8 → UInt8 → UInt8) (hw : Fun2 w D fw n g) (ht : Fun3 w D ft n gt) :
    Calls Try.prog 52 #[.pointer (some ⟨b, 0, none⟩), .slice (some ⟨bc, o + k, none⟩) n c, fw, ft] w (RetChange w D b bc o (f.change k n g gt)) := by
  obtain ⟨cells, sectors, power, down⟩ := f
  match power, h, hin with
  | none, h, hin => exact change_plain w b bc o _ h k n c hin h0 hc fw ft g hw rfl
  | some (0, mask), h, hin => exact change_torn w b bc o _ h k n c hin h0 hc fw ft gt ht mask rfl
  | some (left + 1, mask), h, hin => exact change_counted w b bc o _ h k n c hin h0 hc fw ft g hw left mask rfl
end Go.Proofs.Ytmejngojpffcgaa
end

section
namespace Go.Proofs.Ytmejngojpffcgaa
open Go.RowKit Go.Ls

theorem prog_and {S : Nat → Prop} (w : World) (Bs : Nat) (v : Value) (l : List UInt8) (hbox : Blk w Bs 27 #[v]) (hl : Sl8 S w v l) (i : Nat) (hi : i < l.length) (x : UInt8) :
    Calls Try.prog 53 #[.int .i64 i, .int .u8 (b8 x), .pointer (some ⟨Bs, 0, none⟩)] w fun e w' => e = .returned (.int .u8 (b8 (x &&& l.getD i 0))) ∧ w = w' := by
  obtain ⟨A, c, rfl, hc, hr⟩ := hl
  obtain ⟨b, o, rfl, _, hcell⟩ := hr.at_ (u8s_get hi)
  have hb0 := hbox.cellv (j := 0) rfl
  simp only [List.getElem_toArray, List.getElem_cons_zero] at hb0
  rw [show l.getD i 0 = l[i] by simp [hi]]
  generalize l[i] = y at *
  go_enter Try.func53, Try.ntmps53
  go_wp2_with fail
  go_ret
  exact ⟨rfl, rfl⟩
theorem prog_torn {S : Nat → Prop} (w : World) (Bs : Nat) (v : Value) (l : List UInt8) (hbox : Blk w Bs 27 #[v]) (hl : Sl8 S w v l) (i : Nat) (hi : i < l.length) (x m : UInt8) :
    Calls Try.prog 54 #[.int .i64 i, .int .u8 (b8 x), .int .u8 (b8 m), .pointer (some ⟨Bs, 0, none⟩)] w fun e w' => e = .returned (.int .u8 (b8 (x &&& ~~~(m &&& ~~~(l.getD i 0))))) ∧ w = w' := by
  obtain ⟨A, c, rfl, hc, hr⟩ := hl
  obtain ⟨b, o, rfl, _, hcell⟩ := hr.at_ (u8s_get hi)
  have hb0 := hbox.cellv (j := 0) rfl
  simp only [List.getElem_toArray, List.getElem_cons_zero] at hb0
  rw [show l.getD i 0 = l[i] by simp [hi]]
  generalize l[i] = y at *
  go_enter Try.func54, Try.ntmps54
  go_wp2_with fail
  go_ret
  exact ⟨rfl, rfl⟩

/-- The two function values of Program. -/
theorem prog_fun2 {S D : Nat → Prop} (w : World) (Bs : Nat) (v : Value) (l : List UInt8) (hbox : Blk w Bs 27 #[v]) (hD : ¬ D Bs) (hl : Sl8 S w v l) (hS : ∀ j, S j → ¬ D j) :
    Fun2 w D (.func (.func 53) #[] #[.pointer (some ⟨Bs, 0, none⟩)]) l.length (fun i x => x &&& l.getD i 0) :=
  ⟨_, _, rfl, fun args W => by go_simp, fun W hW i hi x => prog_and W Bs v l ((hW.block Bs hbox.lt hD).trans hbox) (Sl.keep hl fun j hj hs => hW.block j hj (hS j hs)) i hi x⟩
theorem prog_fun3 {S D : Nat → Prop} (w : World) (Bs : Nat) (v : Value) (l : List UInt8) (hbox : Blk w Bs 27 #[v]) (hD : ¬ D Bs) (hl : Sl8 S w v l) (hS : ∀ j, S j → ¬ D j) :
    Fun3 w D (.func (.func 54) #[] #[.pointer (some ⟨Bs, 0, none⟩)]) l.length (fun i x m => x &&& ~~~(m &&& ~~~(l.getD i 0))) :=
  ⟨_, _, rfl, fun args W => by go_simp, fun W hW i hi x m => prog_torn W Bs v l ((hW.block Bs hbox.lt hD).trans hbox) (Sl.keep hl fun j hj hs => hW.block j hj (hS j hs)) i hi x m⟩

theorem tmod4 (k : Nat) : ((k : Int)).tmod 4 = ((k % 4 : Nat) : Int) := rfl
theorem change_none (f : Fl) (hpw : f.power = none) (k n : Nat) (g : Nat → UInt8 → UInt8) (gt : Nat → UInt8 → UInt8 → UInt8) : f.change k n g gt = ({ f with cells := patch f.cells k ((f.seg k n).mapIdx g) }, 0) := by
  cases f; simp only at hpw; subst hpw; rfl
def RetProg (w : World) (D : Nat → Prop) (b bc o : Nat) (r : Fl × Nat) (e : Ending) (w' : World) : Prop :=
  e = .returned (.int .i64 r.2) ∧ FlashAt w' D b bc o r.1 ∧ Only D w w'
set_option maxRecDepth 100000 in
set_option maxHeartbeats 800000 in
theorem program_any {S D : Nat → Prop} (w : World) (b bc o : Nat) (f : Fl) (h : FlashAt w D b bc o f) (k : Nat) (v : Value) (l : List UInt8) (hl : Sl8 S w v l) (hS : ∀ j, S j → ¬ D j) (hDw : ∀ j, D j → j < w.heap.size)
    (hk : k < 9223372036854775808) (hn : l.length ≤ 140737488355328) :
    Calls Try.prog 18 #[.pointer (some ⟨b, 0, none⟩), .int .i64 k, v] w (RetProg w D b bc o (f.program k l)) := by
  have Hl := Lib.hid hl
  have HF := Lib.hid h
  obtain ⟨A, c, rfl, hc, hr⟩ := hl
  have hbe : Below w.heap.size w (w.alloc (.cells #[.slice A l.length c] 27)) := (Below.refl _ w).alloc (Nat.le_refl _) _
  have hF1 := h.below hbe
  have hbox := Blk.new w 27 #[.slice A l.length c]
  obtain ⟨hne, hown, ⟨c0, A0, cw, pv, hb, hc0, hp⟩, hcells, hpos, hsmall, hs1, hs2⟩ := hF1
  have hmay := may_at _ b f.sectors cw _ _ _ _ hb
  have hthere := there_at _ b _ _ _ _ _ _ hb k l.length (by omega) (by omega)
  have hcell := hb.cellv (j := 0) rfl
  simp only [List.getElem_toArray, List.getElem_cons_zero] at hcell
  have hboxc := hbox.cellv (j := 0) rfl
  simp only [List.getElem_toArray, List.getElem_cons_zero] at hboxc
  have Hbox := Lib.hid hbox; clear hbox
  have Hl1 := Lib.hid (Sl.below Hl.out hbe)
  have HF1 := Lib.hid (h.below hbe)
  have Hbe := Lib.hid hbe; clear hbe
  clear hb hcells hp h
  have hsz1 : (w.alloc (.cells #[.slice A l.length c] 27)).heap.size = w.heap.size + 1 := by simp
  cases hd : f.down with
  | true =>
    have hm : (mayOf f.sectors true : Int) = 12 := by unfold mayOf; rw [if_neg (by omega)]; rfl
    rw [hd, hm] at hmay
    have hres : f.program k l = (f, 12) := by unfold Fl.program Fl.may; rw [if_neg (show ¬ f.sectors = 0 by omega), hd]; rfl
    rw [hres]
    go_enter Try.func18, Try.ntmps18
    go_wp2_with fail
    refine hmay.mono ?_
    rintro e w' ⟨rfl, rfl⟩
    go_wp2_with fail
    go_ret
    exact ⟨rfl, HF1.out, .of_below Hbe.out⟩
  | false =>
    have hm : (mayOf f.sectors false : Int) = 0 := by unfold mayOf; rw [if_neg (by omega)]; rfl
    rw [hd, hm] at hmay
    have hmay0 : f.may = 0 := by unfold Fl.may; rw [if_neg (show ¬ f.sectors = 0 by omega), hd]; rfl
    by_cases hin : k + l.length ≤ f.cells.length
    · rw [decide_eq_true hin] at hthere
      by_cases ha : k % 4 = 0
      · by_cases hb4 : l.length % 4 = 0
        · by_cases h0 : l.length = 0
          · have hres : f.program k l = (f, 0) := by unfold Fl.program; rw [if_neg (by omega), if_neg (by omega), if_neg (by omega), if_pos h0]
            rw [hres]
            obtain rfl : l = [] := List.eq_nil_of_length_eq_zero h0
            simp only [List.length_nil] at *
            have hk4 : ((k : Int)).tmod 4 = 0 := by rw [tmod4]; omega
            go_enter Try.func18, Try.ntmps18
            go_wp2_with fail
            refine hmay.mono ?_
            rintro e w' ⟨rfl, rfl⟩
            go_wp2_with fail
            refine hthere.mono ?_
            rintro e w' ⟨rfl, rfl⟩
            go_wp2_with fail
            go_ret
            exact ⟨rfl, HF1.out, .of_below Hbe.out⟩
          · have hres : f.program k l = f.change k l.length (fun i x => x &&& l.getD i 0) (fun i x m => x &&& ~~~(m &&& ~~~(l.getD i 0))) := by unfold Fl.program; rw [if_neg (by omega), if_neg (by omega), if_neg (by omega), if_neg h0]
            rw [hres]
            have hk4 : ((k : Int)).tmod 4 = 0 := by rw [tmod4]; omega
            have hl4 : ((l.length : Int)).tmod 4 = 0 := by rw [tmod4]; omega
            have hl0 : ¬ (l.length : Int) = 0 := by omega
            have hsl : ∀ W, (Instr.slice 27 (.slice (some ⟨bc, o, none⟩) f.cells.length c0) (some (.int .i64 (k : Int))) (some (.int .i64 (IntKind.i64.wrap ((k : Int) + l.length)))) none).run Try.prog W = .ok (.slice (some ⟨bc, o + k, none⟩) l.length (c0 - k)) W := fun W => by
              rw [show IntKind.i64.wrap ((k : Int) + l.length) = (k : Int) + l.length by rw [IntKind.wrap_i64]; omega]
              rw [run_slice_lh W 27 _ _ _ Try.underlying27 .i64 .i64 (k : Int) ((k : Int) + l.length) (by omega) (by omega) (by omega)]
              have h1 : ¬ c0 = k := by omega
              have h2 : ((k : Int) + l.length).toNat - k = l.length := by omega
              simp [sliced, Result.andThen, Program.elem, Try.underlying27, Try.sizeOf5, addr_add, h1, h2]
            go_enter Try.func18, Try.ntmps18
            go_wp2_with fail
            refine hmay.mono ?_
            rintro e w' ⟨rfl, rfl⟩
            go_wp2_with fail
            refine hthere.mono ?_
            rintro e w' ⟨rfl, rfl⟩
            go_wp2_with fail
            refine wp_region_still_tail 13 (by kernel_rfl) (by kernel_rfl) ?_
            have hF2 : FlashAt (w.alloc (.cells #[.slice A l.length c] 27)).drew D b bc o f := HF1.out.below ⟨rfl, rfl, rfl, Nat.le_refl _, fun _ _ => rfl⟩
            have hbox2 : Blk (w.alloc (.cells #[.slice A l.length c] 27)).drew w.heap.size 27 #[.slice A l.length c] := Hbox.out
            have hl2 : Sl8 S (w.alloc (.cells #[.slice A l.length c] 27)).drew (.slice A l.length c) l := Hl1.out
            have hb2 : Below w.heap.size w (w.alloc (.cells #[.slice A l.length c] 27)).drew := ⟨Hbe.out.os, Hbe.out.tape, Hbe.out.output, Hbe.out.size, Hbe.out.block⟩
            have hcell2 : (w.alloc (.cells #[.slice A l.length c] 27)).drew.cell? ⟨b, 0, none⟩ = _ := hcell
            have hboxc2 := hbox2.cellv (j := 0) rfl
            simp only [List.getElem_toArray, List.getElem_cons_zero] at hboxc2
            show wpStill _ _ (w.alloc (.cells #[.slice A l.length c] 27)).drew (fun a' => wpList _ _ _ _ a' (w.alloc (.cells #[.slice A l.length c] 27)).drew) _ _
            generalize (w.alloc (.cells #[.slice A l.length c] 27)).drew = W2 at *
            have HFW := Lib.hid hF2
            have Hb2 := Lib.hid hb2
            have Hch := Lib.hid (change_any W2 b bc o f hF2 k l.length (c0 - k) hin (by omega) (by omega) _ (.func (.func 54) #[] #[.pointer (some ⟨w.heap.size, 0, none⟩)]) _ _ (prog_fun2 W2 w.heap.size _ l hbox2 (fun e => absurd (hDw _ e) (Nat.lt_irrefl _)) hl2 hS) (prog_fun3 W2 w.heap.size _ l hbox2 (fun e => absurd (hDw _ e) (Nat.lt_irrefl _)) hl2 hS))
            clear hF2 hbox2 hl2 hb2 Hbox Hl1 HF1 Hbe hcell hboxc hmay hthere hsz1
            simp only [List.take_succ_cons, List.take_zero, List.drop_succ_cons, List.drop_zero]
            repeat still_step
            try refine wpStill_nil ?_
            go_wp2_with fail
            refine Hch.out.mono ?_
            rintro e w' ⟨rfl, h1, h2⟩
            go_wp2_with fail
            go_ret
            exact ⟨rfl, h1, (Only.of_below Hb2.out).trans h2⟩
        · have hres : f.program k l = (f, 11) := by unfold Fl.program; rw [if_neg (by omega), if_neg (by omega), if_pos (by omega)]
          rw [hres]
          have hk4 : ((k : Int)).tmod 4 = 0 := by rw [tmod4]; omega
          have hl4 : ¬ ((l.length : Int)).tmod 4 = 0 := by rw [tmod4]; omega
          go_enter Try.func18, Try.ntmps18
          go_wp2_with fail
          refine hmay.mono ?_
          rintro e w' ⟨rfl, rfl⟩
          go_wp2_with fail
          refine hthere.mono ?_
          rintro e w' ⟨rfl, rfl⟩
          go_wp2_with fail
          go_ret
          exact ⟨rfl, HF1.out, .of_below Hbe.out⟩
      · have hres : f.program k l = (f, 11) := by unfold Fl.program; rw [if_neg (by omega), if_neg (by omega), if_pos (by omega)]
        rw [hres]
        have hk4 : ¬ ((k : Int)).tmod 4 = 0 := by rw [tmod4]; omega
        go_enter Try.func18, Try.ntmps18
        go_wp2_with fail
        refine hmay.mono ?_
        rintro e w' ⟨rfl, rfl⟩
        go_wp2_with fail
        refine hthere.mono ?_
        rintro e w' ⟨rfl, rfl⟩
        go_wp2_with fail
        go_ret
        exact ⟨rfl, HF1.out, .of_below Hbe.out⟩
    · have hres : f.program k l = (f, 10) := by unfold Fl.program; rw [if_neg (by omega), if_pos (by omega)]
      rw [decide_eq_false hin] at hthere
      rw [hres]
      go_enter Try.func18, Try.ntmps18
      go_wp2_with fail
      refine hmay.mono ?_
      rintro e w' ⟨rfl, rfl⟩
      go_wp2_with fail
      refine hthere.mono ?_
      rintro e w' ⟨rfl, rfl⟩
      go_wp2_with fail
      go_ret
      exact ⟨rfl, HF1.out, .of_below Hbe.out⟩
end Go.Proofs.Ytmejngojpffcgaa
end

section
namespace Go.Ls
def Fl.writeAll (f : Fl) (k : Nat) : List (List UInt8) → Fl × Nat
  | [] => (f, 0)
  | p :: ps => if (f.program k p).2 = 0 then (f.program k p).1.writeAll (k + p.length) ps else f.program k p
def Fl.write (f : Fl) (k : Nat) (l : List UInt8) : Fl × Nat := if l.length > 4080 then (f, 3) else f.writeAll k [recHead l.length, recBody l, zero4]
theorem program_power (f : Fl) (h : f.power = none) (k : Nat) (l : List UInt8) : (f.program k l).1.power = none := by
  unfold Fl.program
  split
  · exact h
  · split
    · exact h
    · split
      · exact h
      · split
        · exact h
        · cases f; simp only at h; subst h; rfl
theorem program_length (f : Fl) (k : Nat) (l : List UInt8) : (f.program k l).1.cells.length = f.cells.length := by
  unfold Fl.program
  split
  · rfl
  · split
    · rfl
    · split
      · rfl
      · split
        · rfl
        · rename_i h _ _
          have h2 : k + l.length ≤ f.cells.length := by omega
          unfold Fl.change
          split <;> (simp only; rw [patch_length]; simp only [List.length_mapIdx]; rw [f.seg_length _ _ h2]; exact h2)
theorem program_fits (f : Fl) (k : Nat) (l : List UInt8) (h : (f.program k l).2 = 0) : k + l.length ≤ f.cells.length := by
  rcases Nat.lt_or_ge f.cells.length (k + l.length) with hlt | hge
  · unfold Fl.program at h
    by_cases h0 : f.may ≠ 0
    · rw [if_pos h0] at h; exact absurd h h0
    · rw [if_neg h0, if_pos hlt] at h; have h : (10 : Nat) = 0 := h; omega
  · exact hge
end Go.Ls
namespace Go.Proofs.Ytmejngojpffcgaa
open Go.RowKit Go.Ls

theorem index3 (W : World) (v0 v1 v2 : Value) :
    (Instr.index 141 (.agg #[v0, v1, v2]) (.int .i64 0)).run Try.prog W = .ok v0 W ∧ (Instr.index 141 (.agg #[v0, v1, v2]) (.int .i64 1)).run Try.prog W = .ok v1 W ∧ (Instr.index 141 (.agg #[v0, v1, v2]) (.int .i64 2)).run Try.prog W = .ok v2 W := by
  refine ⟨?_, ?_, ?_⟩ <;> simp [Instr.index, run_underlying Try.underlying141, asIntOf, part, isAgg, run_underlying Try.underlying27]
set_option maxRecDepth 100000 in
set_option maxHeartbeats 800000 in
theorem record_write {S D : Nat → Prop} (w : World) (b bc o : Nat) (f : Fl) (h : FlashAt w D b bc o f) (k : Nat) (v : Value) (l : List UInt8) (hl : Sl8 S w v l) (hDw : ∀ j, D j → j < w.heap.size)
    (hk : k ≤ 1000000) (hn : l.length ≤ 140737488355328) :
    Calls Try.prog 59 #[.pointer (some ⟨b, 0, none⟩), .int .i64 k, v] w (RetProg w D b bc o (f.write k l)) := by
  have Hl := Lib.hid hl
  have HF := Lib.hid h; clear h
  obtain ⟨A, c, rfl, hc, hr⟩ := hl
  by_cases hlong : l.length > 4080
  · have hres : f.write k l = (f, 3) := if_pos hlong
    rw [hres]
    have hlong' : ¬ (l.length : Int) ≤ 4080 := by omega
    go_enter Try.func59, Try.ntmps59
    go_wp2_with fail
    go_ret
    exact ⟨rfl, HF.out, .refl _ _⟩
  · have hres : f.write k l = f.writeAll k [recHead l.length, recBody l, zero4] := if_neg hlong
    rw [hres]
    go_enter Try.func59, Try.ntmps59
    go_wp2_with fail
    refine (record_parts _ l w Hl.out (by omega)).mono ?_
    rintro e w1 ⟨vh, vb, vz, rfl, hh, hb, hz, hbe⟩
    have HH := Lib.hid hh; clear hh
    have HB := Lib.hid hb; clear hb
    have HZ := Lib.hid hz; clear hz
    have Hbe := Lib.hid hbe; clear hbe
    go_wp2_with fail
    go_loopw [1, 15] (fun a i wr => ∃ (j : Nat) (fj : Fl) (kj : Nat) (ps : List (List UInt8)), j ≤ 3 ∧ i = .int .i64 j ∧ a = .int .i64 kj ∧ kj ≤ 1000000 ∧ Hid (ps = [recHead l.length, recBody l, zero4].drop j) ∧ Hid (f.writeAll k [recHead l.length, recBody l, zero4] = fj.writeAll kj ps) ∧
      Hid (FlashAt wr D b bc o fj) ∧ Hid (Only D w1 wr))
      (fun _ i _ => 3 - (intOf i).toNat)
    case atStart => exact ⟨0, f, k, _, by omega, rfl, rfl, hk, rfl, rfl, HF.out.below Hbe.out, Only.refl _ _⟩
    case round =>
      obtain ⟨j, fj, kj, ps, hj, rfl, rfl, hkj, hps, hwr, hfj, hon⟩ := hrel
      have hsz := Hbe.out.size
      have hwsz := hon.out.size
      have key : ∀ (pv : Value) (p : List UInt8), Sl8 (From w.heap.size) w1 pv p → p.length ≤ 4100 → Calls Try.prog 18 #[.pointer (some ⟨b, 0, none⟩), .int .i64 kj, pv] wr (fun e w' => e = .returned (.int .i64 ((fj.program kj p).2 : Nat)) ∧ FlashAt w' D b bc o (fj.program kj p).1 ∧ Only D wr w') := fun pv p hp hpl =>
        program_any (S := From w.heap.size) wr b bc o fj hfj.out kj pv p (Sl.keep hp fun x hx hs => hon.out.block x hx fun hd => by have := hDw x hd; unfold From at hs; omega) (fun x hs hd => by have := hDw x hd; unfold From at hs; omega)
          (fun x hd => by have := hDw x hd; omega) (by omega) (by omega)
      have hsm := hfj.out.small
      have hix := fun (W : World) (v0 v1 v2 : Value) => (index3 W v0 v1 v2).1
      have hix1 := fun (W : World) (v0 v1 v2 : Value) => (index3 W v0 v1 v2).2.1
      have hix2 := fun (W : World) (v0 v1 v2 : Value) => (index3 W v0 v1 v2).2.2
      rcases (show j = 0 ∨ j = 1 ∨ j = 2 ∨ j = 3 by omega) with hj | hj | hj | hj
      · subst hj
        obtain ⟨A1, c1, e1, hc1, _⟩ := HH.out
        subst e1
        have hps1 : ps = recHead l.length :: [recBody l, zero4] := hps.out
        have hprog := key _ _ HH.out (by simp [recHead])
        by_cases he : (fj.program kj (recHead l.length)).2 = 0
        · have hfit := program_fits _ _ _ he
          have Hgo := Lib.hid (show f.writeAll k [recHead l.length, recBody l, zero4] = (fj.program kj (recHead l.length)).1.writeAll (kj + (recHead l.length).length) [recBody l, zero4] from by rw [hwr.out, hps1]; exact if_pos he)
          rw [he] at hprog
          generalize hlen : (recHead l.length).length = pl at *
          generalize (fj.program kj (recHead l.length)).1 = f2 at *
          go_wp2_with fail
          refine hprog.mono ?_
          rintro e w2 ⟨rfl, hF2, hO2⟩
          have HF2 := Lib.hid hF2; clear hF2
          have HO2 := Lib.hid (hon.out.trans hO2); clear hO2
          go_wp2_with fail
          go_roundw
          case rel => exact ⟨1, f2, kj + pl, _, by omega, by go_num, by go_num, by omega, rfl, Hgo, HF2, HO2⟩
          case measure => simp [intOf]
        · have Hgo := Lib.hid (show f.writeAll k [recHead l.length, recBody l, zero4] = fj.program kj (recHead l.length) from by rw [hwr.out, hps1]; exact if_neg he)
          have hen : ¬ (((fj.program kj (recHead l.length)).2 : Nat) : Int) = 0 := by omega
          generalize fj.program kj (recHead l.length) = r at *
          generalize hlen : (recHead l.length).length = pl at *
          obtain ⟨f2, e2⟩ := r
          simp only at hen he
          go_wp2_with fail
          refine hprog.mono ?_
          rintro e w2 ⟨rfl, hF2, hO2⟩
          have HF2 := Lib.hid hF2; clear hF2
          have HO2 := Lib.hid (hon.out.trans hO2); clear hO2
          go_wp2_with fail
          go_ret
          rw [Hgo.out]
          exact ⟨rfl, HF2.out, (Only.of_below Hbe.out).trans HO2.out⟩
      · subst hj
        obtain ⟨A1, c1, e1, hc1, _⟩ := HB.out
        subst e1
        have hps1 : ps = recBody l :: [zero4] := hps.out
        have hprog := key _ _ HB.out (by rw [recBody_length]; unfold padN; omega)
        by_cases he : (fj.program kj (recBody l)).2 = 0
        · have hfit := program_fits _ _ _ he
          have Hgo := Lib.hid (show f.writeAll k [recHead l.length, recBody l, zero4] = (fj.program kj (recBody l)).1.writeAll (kj + (recBody l).length) [zero4] from by rw [hwr.out, hps1]; exact if_pos he)
          rw [he] at hprog
          generalize hlen : (recBody l).length = pl at *
          generalize (fj.program kj (recBody l)).1 = f2 at *
          go_wp2_with fail
          refine hprog.mono ?_
          rintro e w2 ⟨rfl, hF2, hO2⟩
          have HF2 := Lib.hid hF2; clear hF2
          have HO2 := Lib.hid (hon.out.trans hO2); clear hO2
          go_wp2_with fail
          go_roundw
          case rel => exact ⟨2, f2, kj + pl, _, by omega, by go_num, by go_num, by omega, rfl, Hgo, HF2, HO2⟩
          case measure => simp [intOf]
        · have Hgo := Lib.hid (show f.writeAll k [recHead l.length, recBody l, zero4] = fj.program kj (recBody l) from by rw [hwr.out, hps1]; exact if_neg he)
          have hen : ¬ (((fj.program kj (recBody l)).2 : Nat) : Int) = 0 := by omega
          generalize fj.program kj (recBody l) = r at *
          generalize hlen : (recBody l).length = pl at *
          obtain ⟨f2, e2⟩ := r
          simp only at hen he
          go_wp2_with fail
          refine hprog.mono ?_
          rintro e w2 ⟨rfl, hF2, hO2⟩
          have HF2 := Lib.hid hF2; clear hF2
          have HO2 := Lib.hid (hon.out.trans hO2); clear hO2
          go_wp2_with fail
          go_ret
          rw [Hgo.out]
          exact ⟨rfl, HF2.out, (Only.of_below Hbe.out).trans HO2.out⟩
      · subst hj
        obtain ⟨A1, c1, e1, hc1, _⟩ := HZ.out
        subst e1
        have hps1 : ps = zero4 :: [] := hps.out
        have hprog := key _ _ HZ.out (by simp [zero4])
        by_cases he : (fj.program kj (zero4)).2 = 0
        · have hfit := program_fits _ _ _ he
          have Hgo := Lib.hid (show f.writeAll k [recHead l.length, recBody l, zero4] = (fj.program kj (zero4)).1.writeAll (kj + (zero4).length) [] from by rw [hwr.out, hps1]; exact if_pos he)
          rw [he] at hprog
          generalize hlen : (zero4).length = pl at *
          generalize (fj.program kj (zero4)).1 = f2 at *
          go_wp2_with fail
          refine hprog.mono ?_
          rintro e w2 ⟨rfl, hF2, hO2⟩
          have HF2 := Lib.hid hF2; clear hF2
          have HO2 := Lib.hid (hon.out.trans hO2); clear hO2
          go_wp2_with fail
          go_roundw
          case rel => exact ⟨3, f2, kj + pl, _, by omega, by go_num, by go_num, by omega, rfl, Hgo, HF2, HO2⟩
          case measure => simp [intOf]
        · have Hgo := Lib.hid (show f.writeAll k [recHead l.length, recBody l, zero4] = fj.program kj (zero4) from by rw [hwr.out, hps1]; exact if_neg he)
          have hen : ¬ (((fj.program kj (zero4)).2 : Nat) : Int) = 0 := by omega
          generalize fj.program kj (zero4) = r at *
          generalize hlen : (zero4).length = pl at *
          obtain ⟨f2, e2⟩ := r
          simp only at hen he
          go_wp2_with fail
          refine hprog.mono ?_
          rintro e w2 ⟨rfl, hF2, hO2⟩
          have HF2 := Lib.hid hF2; clear hF2
          have HO2 := Lib.hid (hon.out.trans hO2); clear hO2
          go_wp2_with fail
          go_ret
          rw [Hgo.out]
          exact ⟨rfl, HF2.out, (Only.of_below Hbe.out).trans HO2.out⟩
      · subst hj
        have Hgo := Lib.hid (show f.writeAll k [recHead l.length, recBody l, zero4] = (fj, 0) from by rw [hwr.out, hps.out]; rfl)
        go_wp2_with fail
        go_ret
        rw [Hgo.out]
        exact ⟨rfl, hfj.out, (Only.of_below Hbe.out).trans hon.out⟩
end Go.Proofs.Ytmejngojpffcgaa
end

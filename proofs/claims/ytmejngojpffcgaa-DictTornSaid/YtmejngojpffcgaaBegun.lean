/- Contract of lightshiplaw15.begun: a flash with words in its region. No condition beyond those each theorem names. -/
import Derived.Test.YtmejngojpffcgaaPback
import Derived.Deep.RegionHeld3
namespace Go.Ls
open Go.RowKit Go.Proofs.Ytmejngojpffcgaa
/-- A flash of 20 sectors in whose region of 4096 bytes, from 512 on, just the words l stand, and that is blank else; i words at most, of at most 60 cells. -/
structure BegAt (g : Fl) (l : List Wd) (i : Nat) : Prop where
  laid : Laid g 512 l (4608 - (logW l).length)
  len : g.cells.length = 5120
  down : g.down = false
  size : (logW l).length ≤ 288 * i
  many : l.length ≤ i
  codes : ∀ y ∈ l, y.code.length ≤ 60
theorem beg_new : BegAt (Fl.new 20) [] 0 := by
  refine ⟨⟨?_, trivial, rfl, rfl, rfl⟩, ?_, rfl, Nat.le_refl _, Nat.le_refl _, fun y hy => by cases hy⟩
  · show List.replicate (20 * 256) 255 = List.replicate 512 255 ++ ([] ++ List.replicate (4608 - 0) 255)
    rw [List.nil_append, List.replicate_append_replicate]
  · show (List.replicate (20 * 256) 255).length = 5120
    rw [List.length_replicate]
theorem size288 {x : Wd} (h : x.right = true) (hc : x.code.length ≤ 60) : recSize x.bytes.length ≤ 288 := by
  have := right_bounds h
  have := Wd.bytes_length x
  unfold recSize padN
  split <;> omega
theorem BegAt.next {g : Fl} {l : List Wd} {i : Nat} (h : BegAt g l i) : BegAt g l (i + 1) :=
  ⟨h.laid, h.len, h.down, by have := h.size; omega, by have := h.many; omega, h.codes⟩
theorem BegAt.up {g : Fl} {l : List Wd} {i j : Nat} (h : BegAt g l i) (hij : i ≤ j) : BegAt g l j :=
  ⟨h.laid, h.len, h.down, by have := h.size; omega, by have := h.many; omega, h.codes⟩
theorem BegAt.not {g : Fl} {l : List Wd} {i : Nat} (h : BegAt g l i) (hi : i ≤ 12) (x : Wd) (hx : withP l x = false) : appendP g 512 4096 x = (g, 100) := by
  have := h.size
  exact h.laid.not 4096 (by omega) (by omega) x hx
theorem BegAt.more {g : Fl} {l : List Wd} {i : Nat} (h : BegAt g l i) (hi : i < 12) (x : Wd) (hx : withP l x = true) (hc : x.code.length ≤ 60) :
    ∃ g', appendP g 512 4096 x = (g', 0) ∧ BegAt g' (l ++ [x]) (i + 1) := by
  have hs := h.size
  have hr := withP_right hx
  have h288 := size288 hr hc
  obtain ⟨g', h1, h2, h3, _, h5⟩ := h.laid.more 4096 (by omega) (by omega) x hx (by omega)
  have hl : (logW (l ++ [x])).length = (logW l).length + recSize x.bytes.length := by
    rw [logW_snoc, List.length_append, recBytes_length _ (bytes_ok hr)]
  refine ⟨g', h1, ⟨?_, by rw [h3, h.len], by rw [h5, h.down], by omega, by rw [List.length_append]; have := h.many; simp; omega, fun y hy => ?_⟩⟩
  · rw [hl, show 4608 - ((logW l).length + recSize x.bytes.length) = 4608 - (logW l).length - recSize x.bytes.length by omega]
    exact h2
  · rcases List.mem_append.1 hy with h' | h'
    · exact h.codes y h'
    · obtain rfl : y = x := by simpa using h'
      exact hc
theorem BegAt.check {g : Fl} {l : List Wd} {i : Nat} (h : BegAt g l i) (hi : i ≤ 12) (x : Wd) : (checkZ (l ++ [x]) == -1) = withP l x := by
  have := h.many
  unfold withP
  rw [decide_eq_true (by omega), Bool.true_and]
theorem checkZ_nil : checkZ [] = -1 := rfl
theorem Fit.check : ∀ (l acc : List Wd), Fit acc l → checkZ acc = -1 → checkZ (acc ++ l) = -1
  | [], acc, _, h => by rw [List.append_nil]; exact h
  | x :: l, acc, h, h0 => by
    have hx := h.2.1
    unfold withP at hx
    simp only [Bool.and_eq_true, beq_iff_eq] at hx
    have := Fit.check l (acc ++ [x]) h.2.2 hx.2
    rwa [List.append_assoc, List.singleton_append] at this
/-- An append of which just so much is known, as one step of a region that draws. -/
theorem step_append_ex {P : Program} {ops : Array Oper} {o : Oper} {a : Act} {w : World} {K : Act → World → Prop} {Q : Exit → Act → World → Prop} {E : Prop}
    (hg : o.guard = none) (s x : Operand) (t t' : TypeId) (hop : o.op = Op.call { callee := Callee.builtin Builtin.append, args := #[s, x], argTypes := #[t, t'] }) (v u : Value) (hs : a.eval s = v) (hx : a.eval x = u)
    (R : Value → World → Prop) (hr : ∃ v' w', (Builtin.append_ #[t, t'] o.type #[v, u]).run P w = .ok v' w' ∧ R v' w') (hK : ∀ v' w', R v' w' → K (a.put o.dst v') w') :
    if Region.wanted o (yielded ops a.tmps) = true then Oper.wp P o a w K Q else E := by
  obtain ⟨v', w', h1, h2⟩ := hr
  exact step_append_eq hg s x t t' hop v u hs hx h1 (hK v' w' h2)
end Go.Ls
namespace Go.Proofs.Ytmejngojpffcgaa
open Go.RowKit Go.Ls
attribute [local irreducible] wpQuiet wpList Code.wp
/-- Where the words of a begun flash may lie. -/
def Beside (S : Nat → Prop) (B b bc : Nat) : Nat → Prop := fun z => S z ∨ (B ≤ z ∧ z ≠ b ∧ z ≠ bc)
theorem own_from {W : World} {B : Nat} {t : TypeId} {size n : Nat} {v : Value} {xs : List Value} (h : W.ownsRow B t size v n xs) : ∀ k, v.ownBlock = some k → B ≤ k := fun k hk => by
  rcases h.2 with ⟨rfl, _⟩ | ⟨g, cap, cur, rfl, hb, _⟩
  · cases hk
  · simp only [Value.ownBlock, Option.some.injEq] at hk
    omega
abbrev AppMid := WordsOwn
theorem words_one {S : Nat → Prop} {W : World} {ps : List (Wd × Value)} (h : ∀ p ∈ ps, Sl32 S W p.2 p.1.code) : ∀ u ∈ ps.flatMap wcells, u.oneCell' = true := fun u hu => by
  obtain ⟨p, h1, hp⟩ := List.mem_flatMap.1 hu
  obtain ⟨A, c, e, _⟩ := h p h1
  simp only [wcells, List.mem_cons, List.not_mem_nil, or_false] at hp
  rcases hp with rfl | rfl | rfl
  · simp [str, Value.oneCell']
  · simp [Value.oneCell']
  · rw [e]; simp [Value.oneCell']
theorem grown_block {W w' : World} {r : Option Nat} (h : W.grownBy w' r) {g : Nat} (hg : g < W.heap.size) (hr : r ≠ some g) : w'.heap[g]? = W.heap[g]? := h.block g hg fun h' => hr h'.symm
/-- append([]Word{}, l...): its run, and what it gives. -/
theorem app_first {S : Nat → Prop} {W : World} {A : Option Addr} {n c : Nat} {l : List Wd} (hw : WordsAt S W (.slice A n c) l) (hl : l.length ≤ 100000) (B e : Nat) (ty : TypeId) (hSB : ∀ z, S z → z < B) (hB : B ≤ W.heap.size)
    (he : W.ownsRow B 25 3 (.slice (some ⟨e, 0, none⟩) 0 0) 0 []) :
    ∃ v' w', (Builtin.append_ #[29, 29] ty #[.slice (some ⟨e, 0, none⟩) 0 0, .slice A n c]).run Try.prog W = .ok v' w' ∧ (∃ A' c', v' = .slice A' n c') ∧ AppMid S B w' v' l ∧ W.grownBy w' (some e) ∧ B ≤ e := by
  obtain ⟨ps, hps, ⟨A1, c1, e1, hc, hr⟩, hcd⟩ := hw
  simp only [Value.slice.injEq] at e1
  obtain ⟨rfl, rfl, rfl⟩ := e1
  have hlen : ps.length = l.length := by rw [← hps]; simp
  have hBe : B ≤ e := by
    rcases he.2 with ⟨h, _⟩ | ⟨g, cap, cur, h, hb, _⟩
    · cases h
    · simp only [Value.slice.injEq, Option.some.injEq, Addr.mk.injEq] at h
      obtain ⟨⟨rfl, _⟩, _⟩ := h
      exact hb
  obtain ⟨v', w', h1, h2, h3, _⟩ := run_app elemWord W B ty (.slice (some ⟨e, 0, none⟩) 0 0) 0 [] he A l.length c (ps.flatMap wcells) hr (by rw [wcells_length, hlen]) (words_one hcd) (by omega) (by omega) hB
  rw [Nat.zero_add, List.nil_append] at h2
  refine ⟨v', w', h1, ?_, ⟨ps, hps, h2, fun p hp => ?_⟩, h3, hBe⟩
  · obtain ⟨A', c', h, _⟩ := own_form h2
    exact ⟨A', c', h⟩
  · refine (hcd p hp).keep fun z hz hS => grown_block h3 hz fun h => ?_
    have := hSB z hS
    simp only [Value.ownBlock, Option.some.injEq] at h
    omega
/-- append(that, x): its run, and what it gives. -/
theorem app_second {S : Nat → Prop} {B : Nat} {W : World} {A : Option Addr} {n c g : Nat} {l : List Wd} {x : Wd} {cv : Value} (hm : AppMid S B W (.slice A n c) l) (hl : l.length ≤ 100000) (ty : TypeId) (hSB : ∀ z, S z → (Value.slice A n c).ownBlock ≠ some z) (hB : B ≤ W.heap.size)
    (hg : Blk W g 25 #[str x.name, .int .u8 (b8 x.flags), cv]) (hx : Sl32 S W cv x.code) :
    ∃ v' w', (Builtin.append_ #[29, 29] ty #[.slice A n c, .slice (some ⟨g, 0, none⟩) 1 1]).run Try.prog W = .ok v' w' ∧ (∃ A' c', v' = .slice A' (n + 1) c') ∧ WordsAt (Go.Ls.Or S B) w' v' (l ++ [x]) ∧ Below B W w' ∧ W.grownBy w' (Value.slice A n c).ownBlock := by
  obtain ⟨ps, hps, ho, hcd⟩ := hm
  have hn : n = l.length := by
    obtain ⟨_, _, h, _⟩ := own_form ho
    simp only [Value.slice.injEq] at h
    exact h.2.1
  subst hn
  have hcd2 : ∀ p ∈ [(x, cv)], Sl32 S W p.2 p.1.code := fun p hp => by
    obtain rfl : p = (x, cv) := by simpa using hp
    exact hx
  have hone : ∀ u ∈ wcells (x, cv), u.oneCell' = true := fun u hu => words_one hcd2 u (by simpa using hu)
  have hr : Row (fun z => z = g) W (some ⟨g, 0, none⟩) (wcells (x, cv)) := Row.blk hg rfl (n := 3) rfl
  have hob : ∀ k, (Value.slice A l.length c).ownBlock = some k → B ≤ k := fun k hk => by
    rcases ho.2 with ⟨h, _⟩ | ⟨g', cap, cur, h, hb, _⟩
    · rw [h] at hk; cases hk
    · rw [h] at hk
      simp only [Value.ownBlock, Option.some.injEq] at hk
      omega
  obtain ⟨v', w', h1, h2, h3, _⟩ := run_app elemWord W B ty _ l.length _ ho (some ⟨g, 0, none⟩) 1 1 (wcells (x, cv)) hr rfl hone (by omega) (by omega) hB
  have hbe : Below B W w' := below_grown (Below.refl _ _) h3 hB hob
  obtain ⟨A', c', rfl, hc', hr'⟩ := own_row h2
  refine ⟨_, w', h1, ⟨A', c', rfl⟩, ⟨ps ++ [(x, cv)], by rw [List.map_append, hps]; rfl, ⟨A', c', by rw [List.length_append]; rfl, by rw [List.length_append]; exact hc', ?_⟩, fun p hp => ?_⟩, hbe, h3⟩
  · rw [List.flatMap_append, List.flatMap_singleton]
    exact hr'.mono fun b hb => .inr hb
  · have hs : Sl32 S W p.2 p.1.code := by
      rcases List.mem_append.1 hp with h | h
      · exact hcd p h
      · exact hcd2 p h
    exact (Sl.keep hs fun z hz hS => grown_block h3 hz (hSB z hS)).mono fun z hz => .inl hz
theorem own_empty_blk {W : World} {B e : Nat} {t : TypeId} {size : Nat} (h : Blk W e t #[]) (hB : B ≤ e) : W.ownsRow B t size (.slice (some ⟨e, 0, none⟩) 0 0) 0 [] :=
  ⟨by simp, .inr ⟨e, 0, #[], rfl, hB, h, Nat.le_refl _, Nat.zero_le _, by simp, by simp⟩⟩
theorem reg_first {S : Nat → Prop} {w5 : World} {A7 : Option Addr} {k7 c7 : Nat} {l : List Wd} (hv : WordsAt S w5 (.slice A7 k7 c7) l) (hl : l.length ≤ 100000) (ty : TypeId) :
    ∀ W e, Below w5.heap.size w5 W → W.ownsRow w5.heap.size 25 3 (.slice (some ⟨e, 0, none⟩) 0 0) 0 [] →
      ∃ v' w', (Builtin.append_ #[29, 29] ty #[.slice (some ⟨e, 0, none⟩) 0 0, .slice A7 k7 c7]).run Try.prog W = .ok v' w' ∧ ((∃ A' c', v' = .slice A' k7 c') ∧ AppMid (fun z => S z ∧ z < w5.heap.size) w5.heap.size w' v' l ∧ Below w5.heap.size w5 w' ∧ ∀ g cs, g ≠ e → Blk W g 25 cs → Blk w' g 25 cs) := fun W e hb he => by
  obtain ⟨v', w', h1, h2, h3, h4, h5⟩ := app_first (S := fun z => S z ∧ z < w5.heap.size) (hv.bound.below hb) hl w5.heap.size e ty (fun z hz => hz.2) hb.size he
  refine ⟨v', w', h1, h2, h3, below_grown hb h4 hb.size (fun k hk => ?_), fun g cs hg hB => (grown_block h4 hB.lt (fun h => ?_)).trans hB⟩
  · simp only [Option.some.injEq] at hk; omega
  · simp only [Option.some.injEq] at h; omega
theorem reg_second {S : Nat → Prop} {w5 : World} {cv : Value} {l : List Wd} {x : Wd} (hx : Sl32 S w5 cv x.code) (hl : l.length ≤ 100000) (ty : TypeId) :
    ∀ W A n c g, Below w5.heap.size w5 W → AppMid (fun z => S z ∧ z < w5.heap.size) w5.heap.size W (.slice A n c) l → Blk W g 25 #[str x.name, .int .u8 (b8 x.flags), cv] →
      ∃ v' w', (Builtin.append_ #[29, 29] ty #[.slice A n c, .slice (some ⟨g, 0, none⟩) 1 1]).run Try.prog W = .ok v' w' ∧ ((∃ A' c', v' = .slice A' (n + 1) c') ∧ WordsAt (Go.Ls.Or (fun z => S z ∧ z < w5.heap.size) w5.heap.size) w' v' (l ++ [x]) ∧ Below w5.heap.size w5 w') := fun W A n c g hb hm hg => by
  obtain ⟨v', w', h1, h2, h3, h4, _⟩ := app_second (x := x) hm hl ty (fun z hz h => by have := own_from hm.choose_spec.2.1 z h; omega) hb.size hg (Sl.below (Sl.bound hx) hb)
  exact ⟨v', w', h1, h2, h3, hb.trans h4⟩
theorem reg_check {T : Nat → Prop} {w5 : World} {l : List Wd} (hl : l.length ≤ 100000) (hc : ∀ y ∈ l, y.code.length ≤ 1099511627776) (z : Int) (hz : z = checkZ l) :
    ∀ W v, WordsAt T W v l → Below w5.heap.size w5 W → Calls Try.prog 23 #[v] W fun e w' => e = .returned (.int .i64 z) ∧ Below w5.heap.size w5 w' := fun W v hw hb => by
  refine (prim_check v l W hw (by omega) hc).mono ?_
  rintro e w' ⟨rfl, hb'⟩
  exact ⟨by rw [hz], below_then hb hb.size hb'⟩
/-- What begun leaves. -/
def RetBegun (S : Nat → Prop) (w : World) (e : Ending) (w' : World) : Prop :=
  ∃ b bc o hv l g, e = .returned (.tuple #[.pointer (some ⟨b, 0, none⟩), hv, .bool true]) ∧ BegAt g l 12 ∧ FlashAt w' (fun j => j = b ∨ j = bc) b bc o g ∧ WordsAt (Beside S w.heap.size b bc) w' hv l ∧ Below w.heap.size w w' ∧ w.heap.size ≤ b ∧ w.heap.size ≤ bc
set_option maxRecDepth 100000 in
set_option maxHeartbeats 4000000 in
theorem law_begun {S : Nat → Prop} (v : Value) (L : List Wd) (w : World) (hl : WordsAt S w v L) (hS : ∀ z, S z → z < w.heap.size) (hn : L.length ≤ maxLen) :
    Calls Try.prog 22 #[v] w (RetBegun S w) := by
  have hform : ∃ A c, v = .slice A L.length c ∧ L.length ≤ c ∧ (A = none → L.length = 0) := by
    obtain ⟨ps, hps, ⟨A, c, e, hc, hr⟩, _⟩ := hl
    refine ⟨A, c, e, hc, fun h => ?_⟩
    by_cases h0 : L.length = 0
    · exact h0
    · have hlen : ps.length = L.length := by rw [← hps]; simp
      obtain ⟨b, o, h', _⟩ := hr (by rw [wcells_length]; omega)
      rw [h] at h'; cases h'
  obtain ⟨A, c, rfl, hc, hnone⟩ := hform
  have Hl := Lib.hid hl
  clear hl
  obtain ⟨n, hn'⟩ : ∃ n, n = L.length := ⟨_, rfl⟩
  rw [← hn'] at hc hn hnone Hl ⊢
  have Hn := Lib.hid hn'; clear hn'
  obtain ⟨nm, hnm⟩ : ∃ nm, nm = min n 12 := ⟨_, rfl⟩
  have hmin : min (n : Int) 12 = (nm : Int) := by omega
  have hsl : ∀ W, (Instr.slice 29 (.slice A n c) none (some (.int .i64 (nm : Int))) none).run Try.prog W = .ok (.slice A nm c) W := fun W => by
    rw [run_slice_h W 29 _ _ _ Try.underlying29 .i64 (nm : Int) (by omega) (by omega)]
    have h0 : A.map (fun x => x.add 0) = A := by cases A <;> simp [Addr.add]
    simp [sliced, Result.andThen, Program.elem, Try.underlying29, Try.sizeOf25, h0]
  have HS := Lib.hid hS; clear hS
  have hnm12 : nm ≤ 12 := by omega
  have hnmn : nm ≤ n := by omega
  clear hnm
  have Hnone := Lib.hid hnone; clear hnone
  have Hwd := Lib.hid zeroWord
  go_enter Try.func22, Try.ntmps22
  go_wp2_with fail
  refine (flash_new 20 (by omega) (by omega) w).mono ?_
  rintro e w1 ⟨b, bc, o, rfl, hf1, hb1, hb, hbc⟩
  have HF1 := Lib.hid hf1
  have HB1 := Lib.hid hb1
  have Hlt1 := Lib.hid (show b < w1.heap.size ∧ bc < w1.heap.size from hf1.lt)
  have Hbg := Lib.hid (show w.heap.size ≤ b ∧ w.heap.size ≤ bc from ⟨hb, hbc⟩)
  clear hf1 hb1 hb hbc
  go_wp2_with fail
  go_loopw [24, 7] (fun i hv wr => ∃ (j : Nat) (g : Fl) (l : List Wd), j ≤ nm ∧ i = .int .i64 j ∧ Hid (BegAt g l j ∧ FlashAt wr (fun j => j = b ∨ j = bc) b bc o g ∧ Below w.heap.size w wr ∧ w1.heap.size ≤ wr.heap.size ∧ WordsAt (Beside S w.heap.size b bc) wr hv l)) (fun i _ _ => nm - (intOf i).toNat)
  case atStart => exact ⟨0, Fl.new 20, [], by omega, rfl, beg_new, HF1.out, HB1.out, Nat.le_refl _, WordsAt.nil _ _⟩
  case round =>
    obtain ⟨j, g, l, hj, rfl, hg⟩ := hrel
    by_cases hjn : j < nm
    · obtain ⟨x, hx⟩ : ∃ x, L[j]? = some x := ⟨_, List.getElem?_eq_getElem (by have := Hn.out; omega)⟩
      obtain ⟨hz1, ba, oa, cv, rfl, hSa, h0, h1, h2, h3⟩ := (Hl.out.below hg.out.2.2.1).word hx
      clear hz1
      obtain ⟨Ac, cc, rfl, hcc, hrc⟩ := h3
      have Hxc := Lib.hid (show Sl32 S wr (.slice Ac x.code.length cc) x.code from ⟨Ac, cc, rfl, hcc, hrc⟩)
      obtain ⟨sb, hsb⟩ : ∃ sb, str x.name = .string sb := ⟨_, rfl⟩
      rw [hsb] at h0
      have Hsb := Lib.hid hsb
      obtain ⟨m, hm⟩ : ∃ m, m = x.code.length := ⟨_, rfl⟩
      rw [← hm] at h2
      have Hm := Lib.hid hm
      clear hsl hsb hm hcc hrc hx
      by_cases c60 : m ≤ 60
      · have c60i : ¬ (60 : Int) < m := by omega
        have hW : Blk (wr.alloc (.cells #[.string sb, .int .u8 (b8 x.flags), .slice Ac m cc] 25)) wr.heap.size 25 #[.string sb, .int .u8 (b8 x.flags), .slice Ac m cc] := Blk.new wr _ _
        have hb9 : Below wr.heap.size wr (wr.alloc (.cells #[.string sb, .int .u8 (b8 x.flags), .slice Ac m cc] 25)) := (Below.refl _ wr).alloc (Nat.le_refl _) _
        have HB9 := Lib.hid hb9
        have HW := Lib.hid hW
        clear hW hb9
        go_wp2_with fail
        generalize (wr.alloc (.cells #[.string sb, .int .u8 (b8 x.flags), .slice Ac m cc] 25)) = w9 at *
        have hbl := Hlt1.out
        have hbg := Hbg.out
        have hs1 := hg.out.2.2.2.1
        have hlt9 := HW.out.lt
        have AP := dict_append (S := S) w9 b bc o g (hg.out.2.1.below HB9.out) hg.out.1.laid.power hg.out.1.down 512 4096 (by omega) (by omega) (by rw [hg.out.1.len]; omega) (by rw [hg.out.1.len]; omega) _ x ⟨.slice Ac m cc, by rw [wdV, Hsb.out], by rw [Hm.out]; exact Sl.below Hxc.out HB9.out⟩
          (fun z hz => ⟨by have := HS.out z hz; omega, fun h => by have := HS.out z hz; rcases h with rfl | rfl <;> omega⟩) (fun z hz => by rcases hz with rfl | rfl <;> omega) (by rw [← Hm.out]; omega)
        rw [hg.out.1.laid.words 4096 (by have := hg.out.1.size; omega) (by have := hg.out.1.size; omega)] at AP
        have HX9 := Lib.hid (show Sl32 S w9 (.slice Ac m cc) x.code from by rw [Hm.out]; exact Sl.below Hxc.out HB9.out)
        have HV9 := Lib.hid (hg.out.2.2.2.2.below HB9.out)
        clear hbl hbg hs1 hlt9
        obtain ⟨q, hq⟩ : ∃ q, q = withP l x := ⟨_, rfl⟩
        cases q with
        | true =>
          obtain ⟨g', hap, hg'⟩ := hg.out.1.more (by omega) x hq.symm (by rw [← Hm.out]; omega)
          rw [hap] at AP
          clear hap
          refine AP.mono ?_
          clear AP
          rintro e w5 ⟨hf5, ho5, hr5⟩
          rw [if_pos rfl] at hr5
          obtain ⟨v5, rfl, hv5⟩ := hr5
          have hlt9 := HW.out.lt
          have hne : wr.heap.size ≠ b ∧ wr.heap.size ≠ bc := by have h1 := Hlt1.out; have h2 := hg.out.2.2.2.1; omega
          have HW5 := Lib.hid (show Blk w5 wr.heap.size 25 #[.string sb, .int .u8 (b8 x.flags), .slice Ac m cc] from (ho5.block _ hlt9 (by rintro (h | h) <;> omega)).trans HW.out)
          have hwv5 := HV9.out.keep fun z hz hS => ho5.block z hz (by
            have h1 := Hbg.out
            rcases hS with h | h
            · have := HS.out z h; rintro (rfl | rfl) <;> omega
            · rintro (rfl | rfl) <;> omega)
          have hx5 : Sl32 S w5 (.slice Ac m cc) x.code := Sl.keep HX9.out fun z hz hS => ho5.block z hz (by
            have h1 := Hbg.out
            have := HS.out z hS
            rintro (rfl | rfl) <;> omega)
          have hz1 : (checkZ (l ++ [x]) == -1) = true := by rw [hg.out.1.check (by omega) x, ← hq]
          have hm100 : l.length ≤ 12 := by have := hg.out.1.many; omega
          have hcd : ∀ y ∈ l ++ [x], y.code.length ≤ 1099511627776 := fun y hy => by
            rcases List.mem_append.1 hy with h | h
            · have := hg.out.1.codes y h; omega
            · obtain rfl : y = x := by simpa using h
              have := Hm.out
              omega
          obtain ⟨A7, c7, hu7⟩ : ∃ A c, u7 = .slice A l.length c := by obtain ⟨ps, _, ⟨A, c, e, _⟩, _⟩ := hwv5; exact ⟨A, c, e⟩
          subst hu7
          obtain ⟨k7, hk7⟩ : ∃ k, k = l.length := ⟨_, rfl⟩
          obtain ⟨z, hz⟩ : ∃ z, z = checkZ (l ++ [x]) := ⟨_, rfl⟩
          have R1 := Lib.hid (reg_first hwv5 (by omega) 29)
          have R2 := Lib.hid (reg_second (S := Beside S w.heap.size b bc) (l := l) (x := x) (Sl.mono hx5 fun z hz => .inl hz) (by omega) 29)
          have R3 := Lib.hid (reg_check (T := Go.Ls.Or (fun z => Beside S w.heap.size b bc z ∧ z < w5.heap.size) w5.heap.size) (w5 := w5) (l := l ++ [x]) (by rw [List.length_append]; simp; omega) hcd z hz)
          rw [← hz] at hz1
          rw [← hk7] at hwv5 R1 ⊢
          rw [Hsb.out] at R2
          have HK := Lib.hid (show ∀ W, Below w5.heap.size w5 W → Below w5.heap.size w5 W ∧ W.cell? ⟨wr.heap.size, 0, none⟩ = some (.string sb) ∧ W.cell? ⟨wr.heap.size, 1, none⟩ = some (.int .u8 (b8 x.flags)) ∧ W.cell? ⟨wr.heap.size, 2, none⟩ = some (.slice Ac m cc) from fun W hW => by
            have h := HW5.out.below hW HW5.out.lt
            exact ⟨hW, h.cellv rfl, h.cellv rfl, h.cellv rfl⟩)
          have Hfin := Lib.hid (show ∀ W, Below w5.heap.size w5 W → BegAt g' (l ++ [x]) (j + 1) ∧ FlashAt W (fun j => j = b ∨ j = bc) b bc o g' ∧ Below w.heap.size w W ∧ w1.heap.size ≤ W.heap.size ∧ WordsAt (Beside S w.heap.size b bc) W v5 (l ++ [x]) from fun W hW => by
            have h1 := Hlt1.out
            have h2 := Hbg.out
            have h3 := hg.out.2.2.2.1
            have h4 := HB9.out.size
            have h5 := ho5.size
            have h6 := hW.size
            have h7 := hg.out.2.2.1.size
            have hB5 : Below w.heap.size w w5 := ⟨ho5.os.trans (HB9.out.os.trans hg.out.2.2.1.os), ho5.tape.trans (HB9.out.tape.trans hg.out.2.2.1.tape), ho5.output.trans (HB9.out.output.trans hg.out.2.2.1.output), by omega, fun z hz => (ho5.block z (by omega) (by rintro (rfl | rfl) <;> omega)).trans ((HB9.out.block z (by omega)).trans (hg.out.2.2.1.block z hz))⟩
            exact ⟨hg', hf5.below hW, hB5.trans (hW.mono (by omega)), by omega, (hv5.mono fun z hz => by rcases hz with h | h; exact .inl h; exact .inr (by omega)).below hW⟩)
          clear hz hk7 hwv5 hx5 hcd hm100 hq hlt9 hne
          go_wp2_with fail
          go_region_held3 (fun W => Below w5.heap.size w5 W ∧ W.cell? ⟨wr.heap.size, 0, none⟩ = some (.string sb) ∧ W.cell? ⟨wr.heap.size, 1, none⟩ = some (.int .u8 (b8 x.flags)) ∧ W.cell? ⟨wr.heap.size, 2, none⟩ = some (.slice Ac m cc))
            (first | (refine HK.out _ ?_; assumption) | (refine HK.out _ ?_; exact ⟨rfl, rfl, rfl, Nat.le_refl _, fun _ _ => rfl⟩) | (go_split_ands; refine HK.out _ ?_; refine Below.alloc (by assumption) (Below.size (by assumption)) _))
            (first
              | ((refine step_append_ex (by rfl) (.tmp 40) (.tmp 41) 29 29 (by rfl) _ _ (by rfl) (by rfl) _ (R1.out _ _ (by go_split_ands; assumption) (own_empty_blk (by first | exact Blk.drew (Blk.new _ _ _) | exact Blk.drew ((Blk.new _ _ _).alloc _) | exact Blk.drew (blk_new' (by simp))) (by simp))) ?_; rintro _ w7 ⟨⟨A8, c8, rfl⟩, hm7, hb7, hk7⟩))
              | ((refine step_append_ex (by rfl) (.tmp 42) (.tmp 44) 29 29 (by rfl) _ _ (by rfl) (by rfl) _ (R2.out _ _ _ _ _ (by go_split_ands; assumption) (by first | exact hm7 | exact hm7.below ((Below.refl _ _).alloc (Nat.le_refl _) _)) (by first | exact Blk.new w7 _ _ | exact hk7 _ _ (by simp) (Blk.drew (blk_new' (by simp))) | exact hk7 _ _ (by simp) (Blk.drew ((Blk.new _ _ _).alloc _)))) ?_; rintro _ w8 ⟨⟨A9, c9, rfl⟩, hm8, hb8⟩))
              | (go_at_call 23; refine (R3.out _ _ (by assumption) (by assumption)).mono ?_; rintro e w9' ⟨rfl, hb9'⟩))
          all_goals
            clear R1 R2 R3 HK
            have Hr := Lib.hid (Hfin.out _ (by assumption))
            go_wp2_with fail
            go_roundw
          all_goals first | exact ⟨j + 1, g', l ++ [x], by omega, by go_num, Hr⟩ | (simp [intOf]; omega)
        | false =>
          have hap := hg.out.1.not (by omega) x hq.symm
          rw [hap] at AP
          clear hap
          refine AP.mono ?_
          clear AP
          rintro e w5 ⟨hf5, ho5, hr5⟩
          rw [if_neg (by show ¬ (100 : Nat) = 0; decide)] at hr5
          subst hr5
          have hlt9 := HW.out.lt
          have hne : wr.heap.size ≠ b ∧ wr.heap.size ≠ bc := by have h1 := Hlt1.out; have h2 := hg.out.2.2.2.1; omega
          have HW5 := Lib.hid (show Blk w5 wr.heap.size 25 #[.string sb, .int .u8 (b8 x.flags), .slice Ac m cc] from (ho5.block _ hlt9 (by rintro (h | h) <;> omega)).trans HW.out)
          have hwv5 := HV9.out.keep fun z hz hS => ho5.block z hz (by
            have h1 := Hbg.out
            rcases hS with h | h
            · have := HS.out z h; rintro (rfl | rfl) <;> omega
            · rintro (rfl | rfl) <;> omega)
          have hx5 : Sl32 S w5 (.slice Ac m cc) x.code := Sl.keep HX9.out fun z hz hS => ho5.block z hz (by
            have h1 := Hbg.out
            have := HS.out z hS
            rintro (rfl | rfl) <;> omega)
          have hz1 : (checkZ (l ++ [x]) == -1) = false := by rw [hg.out.1.check (by omega) x, ← hq]
          have hm100 : l.length ≤ 12 := by have := hg.out.1.many; omega
          have hcd : ∀ y ∈ l ++ [x], y.code.length ≤ 1099511627776 := fun y hy => by
            rcases List.mem_append.1 hy with h | h
            · have := hg.out.1.codes y h; omega
            · obtain rfl : y = x := by simpa using h
              have := Hm.out
              omega
          obtain ⟨A7, c7, hu7⟩ : ∃ A c, u7 = .slice A l.length c := by obtain ⟨ps, _, ⟨A, c, e, _⟩, _⟩ := hwv5; exact ⟨A, c, e⟩
          subst hu7
          obtain ⟨k7, hk7⟩ : ∃ k, k = l.length := ⟨_, rfl⟩
          obtain ⟨z, hz⟩ : ∃ z, z = checkZ (l ++ [x]) := ⟨_, rfl⟩
          have R1 := Lib.hid (reg_first hwv5 (by omega) 29)
          have R2 := Lib.hid (reg_second (S := Beside S w.heap.size b bc) (l := l) (x := x) (Sl.mono hx5 fun z hz => .inl hz) (by omega) 29)
          have R3 := Lib.hid (reg_check (T := Go.Ls.Or (fun z => Beside S w.heap.size b bc z ∧ z < w5.heap.size) w5.heap.size) (w5 := w5) (l := l ++ [x]) (by rw [List.length_append]; simp; omega) hcd z hz)
          rw [← hz] at hz1
          rw [← hk7] at hwv5 R1 ⊢
          rw [Hsb.out] at R2
          have HK := Lib.hid (show ∀ W, Below w5.heap.size w5 W → Below w5.heap.size w5 W ∧ W.cell? ⟨wr.heap.size, 0, none⟩ = some (.string sb) ∧ W.cell? ⟨wr.heap.size, 1, none⟩ = some (.int .u8 (b8 x.flags)) ∧ W.cell? ⟨wr.heap.size, 2, none⟩ = some (.slice Ac m cc) from fun W hW => by
            have h := HW5.out.below hW HW5.out.lt
            exact ⟨hW, h.cellv rfl, h.cellv rfl, h.cellv rfl⟩)
          have Hfin := Lib.hid (show ∀ W, Below w5.heap.size w5 W → BegAt g l (j + 1) ∧ FlashAt W (fun j => j = b ∨ j = bc) b bc o g ∧ Below w.heap.size w W ∧ w1.heap.size ≤ W.heap.size ∧ WordsAt (Beside S w.heap.size b bc) W (.slice A7 k7 c7) l from fun W hW => by
            have h1 := Hlt1.out
            have h2 := Hbg.out
            have h3 := hg.out.2.2.2.1
            have h4 := HB9.out.size
            have h5 := ho5.size
            have h6 := hW.size
            have h7 := hg.out.2.2.1.size
            have hB5 : Below w.heap.size w w5 := ⟨ho5.os.trans (HB9.out.os.trans hg.out.2.2.1.os), ho5.tape.trans (HB9.out.tape.trans hg.out.2.2.1.tape), ho5.output.trans (HB9.out.output.trans hg.out.2.2.1.output), by omega, fun z hz => (ho5.block z (by omega) (by rintro (rfl | rfl) <;> omega)).trans ((HB9.out.block z (by omega)).trans (hg.out.2.2.1.block z hz))⟩
            exact ⟨hg.out.1.next, hf5.below hW, hB5.trans (hW.mono (by omega)), by omega, hwv5.below hW⟩)
          clear hz hk7 hwv5 hx5 hcd hm100 hq hlt9 hne
          go_wp2_with fail
          go_region_held3 (fun W => Below w5.heap.size w5 W ∧ W.cell? ⟨wr.heap.size, 0, none⟩ = some (.string sb) ∧ W.cell? ⟨wr.heap.size, 1, none⟩ = some (.int .u8 (b8 x.flags)) ∧ W.cell? ⟨wr.heap.size, 2, none⟩ = some (.slice Ac m cc))
            (first | (refine HK.out _ ?_; assumption) | (refine HK.out _ ?_; exact ⟨rfl, rfl, rfl, Nat.le_refl _, fun _ _ => rfl⟩) | (go_split_ands; refine HK.out _ ?_; refine Below.alloc (by assumption) (Below.size (by assumption)) _))
            (first
              | ((refine step_append_ex (by rfl) (.tmp 40) (.tmp 41) 29 29 (by rfl) _ _ (by rfl) (by rfl) _ (R1.out _ _ (by go_split_ands; assumption) (own_empty_blk (by first | exact Blk.drew (Blk.new _ _ _) | exact Blk.drew ((Blk.new _ _ _).alloc _) | exact Blk.drew (blk_new' (by simp))) (by simp))) ?_; rintro _ w7 ⟨⟨A8, c8, rfl⟩, hm7, hb7, hk7⟩))
              | ((refine step_append_ex (by rfl) (.tmp 42) (.tmp 44) 29 29 (by rfl) _ _ (by rfl) (by rfl) _ (R2.out _ _ _ _ _ (by go_split_ands; assumption) (by first | exact hm7 | exact hm7.below ((Below.refl _ _).alloc (Nat.le_refl _) _)) (by first | exact Blk.new w7 _ _ | exact hk7 _ _ (by simp) (Blk.drew (blk_new' (by simp))) | exact hk7 _ _ (by simp) (Blk.drew ((Blk.new _ _ _).alloc _)))) ?_; rintro _ w8 ⟨⟨A9, c9, rfl⟩, hm8, hb8⟩))
              | (go_at_call 23; refine (R3.out _ _ (by assumption) (by assumption)).mono ?_; rintro e w9' ⟨rfl, hb9'⟩))
          all_goals
            clear R1 R2 R3 HK
            have Hr := Lib.hid (Hfin.out _ (by assumption))
            go_wp2_with fail
            go_roundw
          all_goals first | exact ⟨j + 1, g, l, by omega, by go_num, Hr⟩ | (simp [intOf]; omega)
      · have c60i : (60 : Int) < m := by omega
        have hb9 : Below wr.heap.size wr (wr.alloc (.cells #[.string sb, .int .u8 (b8 x.flags), .slice Ac m cc] 25)) := (Below.refl _ wr).alloc (Nat.le_refl _) _
        have Hr := Lib.hid (show BegAt g l (j + 1) ∧ FlashAt (wr.alloc (.cells #[.string sb, .int .u8 (b8 x.flags), .slice Ac m cc] 25)) (fun j => j = b ∨ j = bc) b bc o g ∧ Below w.heap.size w (wr.alloc (.cells #[.string sb, .int .u8 (b8 x.flags), .slice Ac m cc] 25)) ∧ w1.heap.size ≤ (wr.alloc (.cells #[.string sb, .int .u8 (b8 x.flags), .slice Ac m cc] 25)).heap.size ∧ WordsAt (Beside S w.heap.size b bc) (wr.alloc (.cells #[.string sb, .int .u8 (b8 x.flags), .slice Ac m cc] 25)) u7 l from
          ⟨hg.out.1.next, hg.out.2.1.below hb9, below_then hg.out.2.2.1 hg.out.2.2.1.size hb9, Nat.le_trans hg.out.2.2.2.1 hb9.size, hg.out.2.2.2.2.below hb9⟩)
        clear hb9
        go_wp2_with fail
        go_roundw
        case rel => exact ⟨j + 1, g, l, by omega, by go_num, Hr⟩
        case measure => simp [intOf]; omega
    · obtain rfl : j = nm := by omega
      go_wp2_with fail
      refine bodyPost_ret (results_tmp3 rfl _ _ _) rfl ?_
      exact ⟨b, bc, o, _, l, g, rfl, hg.out.1.up hnm12, hg.out.2.1, hg.out.2.2.2.2, hg.out.2.2.1, Hbg.out⟩
end Go.Proofs.Ytmejngojpffcgaa

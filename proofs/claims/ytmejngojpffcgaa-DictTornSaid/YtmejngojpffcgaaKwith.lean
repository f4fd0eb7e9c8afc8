/- Contracts of lightshiplaw10.All, dict.with and slices.Chunk. No condition beyond those each theorem names. -/
import Derived.Test.YtmejngojpffcgaaKword
import Derived.Lib.QuietBelow
import Derived.Deep.RegionLaw
import Derived.ArgAppend
import Derived.Test.YtmejngojpffcgaaKcheck
import Derived.Test.YtmejngojpffcgaaKscan
import Derived.RegionIn
import Derived.Sort.QuietIn
import Derived.OrdersIn
import Derived.ControlIn
import Derived.RangeFuncCalls
import Derived.Test.YtmejngojpffcgaaKbase
section
namespace Go.Ls
def allW (l m : List Wd) : Bool := l.length == m.length && (l.zip m).all fun p => sameW p.1 p.2
theorem sameW_iff (x y : Wd) : sameW x y = true ↔ x = y := by
  obtain ⟨a, b, c⟩ := x
  obtain ⟨d, e, f⟩ := y
  simp [sameW, and_assoc]
theorem allW_iff (l m : List Wd) : allW l m = true ↔ l = m := by
  unfold allW
  simp only [Bool.and_eq_true, beq_iff_eq, List.all_eq_true]
  constructor
  · rintro ⟨h1, h2⟩
    apply List.ext_getElem h1
    intro i hi hi'
    exact (sameW_iff _ _).1 (h2 (l[i], m[i]) (by rw [List.mem_iff_getElem]; exact ⟨i, by simp; omega, by simp⟩))
  · rintro rfl
    refine ⟨rfl, fun p hp => (sameW_iff _ _).2 ?_⟩
    obtain ⟨i, hi, rfl⟩ := List.mem_iff_getElem.1 hp
    simp
end Go.Ls
namespace Go.Proofs.Ytmejngojpffcgaa
open Go.RowKit Go.Ls Go.Sort
attribute [local irreducible] wpQuiet wpList Code.wp
set_option maxRecDepth 100000 in
set_option maxHeartbeats 1000000 in
theorem law_all {S S' : Nat → Prop} (v v' : Value) (l m : List Wd) (w : World) (hl : WordsAt S w v l) (hm : WordsAt S' w v' m) (hn : l.length ≤ 1099511627776) (hc : ∀ y ∈ m, y.code.length ≤ 140737488355328) :
    Calls Try.prog 16 #[v, v'] w fun e w' => e = .returned (.bool (allW l m)) ∧ Below w.heap.size w w' := by
  have Hl := Lib.hid hl
  have Hm := Lib.hid hm
  have hform : ∃ A c, v = .slice A l.length c := by obtain ⟨ps, _, ⟨A, c, e, _⟩, _⟩ := hl; exact ⟨A, c, e⟩
  have hform' : ∃ A c, v' = .slice A m.length c := by obtain ⟨ps, _, ⟨A, c, e, _⟩, _⟩ := hm; exact ⟨A, c, e⟩
  clear hl hm
  obtain ⟨A, c, rfl⟩ := hform
  obtain ⟨A', c', rfl⟩ := hform'
  by_cases c1 : l.length = m.length
  · have c1i : ((l.length : Int) != (m.length : Int)) = false := by rw [c1]; simp
    obtain ⟨n, hn'⟩ : ∃ n, n = m.length := ⟨_, rfl⟩
    rw [c1, ← hn'] at c1i
    rw [c1, ← hn'] at hn
    have e1 : (Value.slice A l.length c) = .slice A n c := by rw [c1, hn']
    have e2 : (Value.slice A' m.length c') = .slice A' n c' := by rw [hn']
    rw [e1] at Hl ⊢
    rw [e2] at Hm ⊢
    clear e1 e2
    have hres : allW l m = (l.zip m).all fun p => sameW p.1 p.2 := by simp [allW, c1]
    rw [hres]
    have hzl : (l.zip m).length = n := by simp [c1, hn']
    have Hnm := Lib.hid hn'; clear hn'
    have Hc1 := Lib.hid c1; clear c1
    have Hzl := Lib.hid hzl; clear hzl
    clear hres
    have Hc := Lib.hid hc; clear hc
    go_enter Try.func16, Try.ntmps16
    go_wp2_with fail
    go_loopw [13] (fun i wr => ∃ (k : Nat), k ≤ n ∧ i = .int .i64 k ∧ Hid (((l.zip m).take k).all (fun p => sameW p.1 p.2) = true) ∧ Hid (Below w.heap.size w wr)) (fun i _ => n - (intOf i).toNat)
    case atStart => exact ⟨0, Nat.zero_le _, rfl, (show _ = _ from rfl), Below.refl _ _⟩
    case round =>
      obtain ⟨k, hk, rfl, hal, hbe⟩ := hrel
      by_cases hlt : k < n
      · have hkl : k < l.length := by have := Hc1.out; have := Hnm.out; omega
        have hkm : k < m.length := by have := Hnm.out; omega
        obtain ⟨x, hx⟩ : ∃ x, l[k]? = some x := ⟨_, List.getElem?_eq_getElem hkl⟩
        obtain ⟨y, hy⟩ : ∃ y, m[k]? = some y := ⟨_, List.getElem?_eq_getElem hkm⟩
        have hlw := Hl.out.below hbe.out
        have hmw := Hm.out.below hbe.out
        obtain ⟨hz1, b, o, cv, rfl, _, h0, h1, h2, h3⟩ := hlw.word hx
        obtain ⟨hz2, b', o', cv', rfl, _, h0', h1', h2', h3'⟩ := hmw.word hy
        clear hz1 hz2
        have hzk : (l.zip m)[k]? = some (x, y) := by rw [List.getElem?_zip_eq_some]; exact ⟨hx, hy⟩
        have Hnext := Lib.hid (show ((l.zip m).take (k + 1)).all (fun p => sameW p.1 p.2) = sameW x y from by rw [List.take_add_one, hzk, List.all_append, hal.out]; simp)
        have Hbad := Lib.hid (fun (h : sameW x y = false) => (show (l.zip m).all (fun p => sameW p.1 p.2) = false from by
          rw [List.all_eq_false]; exact ⟨(x, y), List.mem_of_getElem? hzk, by simp [h]⟩))
        have LS := fun d os => Calls.regrown_of (law_same (S := S) (S' := S') _ _ x y (grow (redrawn wr d) os) ⟨cv, rfl, Sl.below h3 (below_regrown wr d os)⟩ ⟨cv', rfl, Sl.below h3' (below_regrown wr d os)⟩ (Hc.out y (List.mem_of_getElem? hy)))
        obtain ⟨r, hr⟩ : ∃ r, r = sameW x y := ⟨_, rfl⟩
        rw [← hr] at LS Hnext Hbad
        obtain ⟨xn, xf, xc⟩ := x
        obtain ⟨yn, yf, yc⟩ := y
        simp only [wdV] at LS h0 h1 h2 h0' h1' h2'
        generalize str xn = sx at *
        generalize str yn = sy at *
        have k0 := cell_regrown h0
        have k1 := cell_regrown h1
        have k2 := cell_regrown h2
        have k0' := cell_regrown h0'
        have k1' := cell_regrown h1'
        have k2' := cell_regrown h2'
        have Hfin := Lib.hid (fun d os => below_then hbe.out hbe.out.size (below_regrown wr d os))
        clear h0 h1 h2 h0' h1' h2' h3 h3' hlw hmw hr hx hy hzk
        cases r with
        | false =>
          go_wp2_with fail
          refine wp_region_quiet_below (by kernel_rfl) (by kernel_rfl) ?_
          repeat (quiet_step (exact LS _ _))
          refine wpQuiet_nil ?_
          rintro _ ⟨⟨dq, osq⟩, rfl⟩
          go_wp2_with fail
          go_ret
          exact ⟨ret_bool (by first | exact (Hbad.out rfl).symm | exact (Hbad.out trivial).symm), Hfin.out _ _⟩
        | true =>
          go_wp2_with fail
          refine wp_region_quiet_below (by kernel_rfl) (by kernel_rfl) ?_
          repeat (quiet_step (exact LS _ _))
          refine wpQuiet_nil ?_
          rintro _ ⟨⟨dq, osq⟩, rfl⟩
          go_wp2_with fail
          go_roundw
          case rel => exact ⟨k + 1, by omega, by go_num, Hnext, Lib.hid (Hfin.out _ _)⟩
          case measure => simp [intOf]; omega
      · have hk' : k = n := by omega
        subst hk'
        have Hr := Lib.hid (show (l.zip m).all (fun p => sameW p.1 p.2) = true from by have := hal.out; rwa [← Hzl.out, List.take_length] at this)
        go_wp2_with fail
        go_ret
        exact ⟨ret_bool Hr.out.symm, hbe.out⟩
  · have c1i : ((l.length : Int) != (m.length : Int)) = true := by simp; omega
    have hres : allW l m = false := by simp [allW, c1]
    rw [hres]
    go_enter Try.func16, Try.ntmps16
    go_wp2_with fail
    go_ret
    exact ⟨rfl, Below.refl _ _⟩
end Go.Proofs.Ytmejngojpffcgaa
end

section
namespace Go.Ls
open Go.RowKit
def withP (l : List Wd) (x : Wd) : Bool := decide (l.length < 2048) && checkZ (l ++ [x]) == -1
/-- Words, and the blocks in which all of them may lie: those of a row that was, and new ones. -/
def Or (S : Nat → Prop) (B : Nat) : Nat → Prop := fun b => S b ∨ B ≤ b
section
variable {P : Program}
/-- An append whose run is known, as one step of a region that draws. -/
theorem step_append_eq {ops : Array Oper} {o : Oper} {a : Act} {w : World} {K : Act → World → Prop} {Q : Exit → Act → World → Prop} {E : Prop}
    (hg : o.guard = none) (s x : Operand) (t t' : TypeId) (hop : o.op = Op.call { callee := Callee.builtin Builtin.append, args := #[s, x], argTypes := #[t, t'] }) (v u : Value) (hs : a.eval s = v) (hx : a.eval x = u)
    {v' : Value} {w' : World} (hr : (Builtin.append_ #[t, t'] o.type #[v, u]).run P w = .ok v' w') (hK : K (a.put o.dst v') w') :
    if Region.wanted o (yielded ops a.tmps) = true then Oper.wp P o a w K Q else E := by
  have hw : Region.wanted o (yielded ops a.tmps) = true := by simp [Region.wanted, hg]
  rw [if_pos hw]
  unfold Oper.wp execOp
  simp only [hop, resolve, invoke, builtin, Sem.run_bind, Sem.run_pure, Result.andThen_ok, List.map_toArray, List.map_cons, List.map_nil, hs, hx, hr]
  exact hK
/-- Append to a row that is full: a new row. -/
theorem run_append_full (w : World) (t ty e : TypeId) (i : TypeInfo) (z : Value) (size bytes : Nat) (h1 : P.underlying t = some (.slice e)) (h2 : P.info? e = some i) (h3 : i.zero = some z) (h4 : i.size = size) (h5 : i.bytes = bytes) (h6 : z.cells.size = size) (h7 : 0 < size)
    (ao : Option Addr) (n cap : Nat) (olds : List Value) (hnone : ao = none → n = 0 ∧ cap = 0) (hlo : olds.length = n * size) (holds : ∀ b, ao = some b → ∀ j u, olds[j]? = some u → w.cell? (b.add j) = some u)
    (ad : Addr) (m c : Nat) (news : List Value) (hn : news.length = m * size) (hc : ∀ j u, news[j]? = some u → w.cell? (ad.add j) = some u) (h1c : ∀ u ∈ news, u.oneCell' = true)
    (hfull : cap < n + m) (b1 : n + m ≤ maxLen) (b2 : (n + m) * bytes ≤ 140737488355328) :
    ∃ v' w', (Builtin.append_ #[t, t] ty #[.slice ao n cap, .slice (some ad) m c]).run P w = .ok v' w' ∧ w'.ownsRow w.heap.size e size v' (n + m) (olds ++ news) ∧ w.grownBy w' none := by
  cases ao with
  | some b => exact run_append_arg_grows (P := P) w t ty e i z size bytes h1 h2 h3 h4 h5 h6 h7 b n cap olds hlo (holds b rfl) ad m c news hn hc hfull b1 b2
  | none =>
    obtain ⟨rfl, rfl⟩ := hnone rfl
    obtain rfl : olds = [] := List.eq_nil_of_length_eq_zero (by simpa using hlo)
    obtain ⟨v', w', hrun, r1, r2, _⟩ := run_append_own (P := P) w w.heap.size t ty e i z size bytes h1 h2 h3 h4 h5 h6 h7 (.slice none 0 0) 0 [] (World.ownsRow_nil w _ e size) ad m c news hn hc h1c b1 b2 (Nat.le_refl _)
    exact ⟨v', w', hrun, r1, r2⟩
end
end Go.Ls
namespace Go.Proofs.Ytmejngojpffcgaa
open Go.RowKit Go.Ls
theorem infoWord : (Try.prog.info? 25).map (fun i => (i.zero, i.size, i.bytes)) = some (some (.agg #[.string ⟨#[]⟩, .int .u8 0, .slice none 0 0]), 3, 48) := by kernel_rfl
theorem own_row {w : World} {base : Nat} {e : TypeId} {size n : Nat} {v : Value} {xs : List Value} (h : w.ownsRow base e size v n xs) : ∃ A c, v = .slice A n c ∧ n ≤ c ∧ Row (fun b => base ≤ b) w A xs := by
  rcases h.2 with ⟨rfl, rfl⟩ | ⟨g, cap, cur, rfl, hb, hg, hc, hm, hs, ht⟩
  · have : xs = [] := List.eq_nil_of_length_eq_zero (by simpa using h.1)
    subst this
    exact ⟨_, _, rfl, Nat.le_refl _, Row.none_ _ _ _⟩
  · exact ⟨_, _, rfl, hc, Row.blk (S := fun b => base ≤ b) hg hb ht.symm⟩
/-- A row of words that the call owns: their codes may lie elsewhere. -/
def WordsOwn (S : Nat → Prop) (B : Nat) (W : World) (v : Value) (l : List Wd) : Prop :=
  ∃ ps : List (Wd × Value), ps.map (·.1) = l ∧ W.ownsRow B 25 3 v l.length (ps.flatMap wcells) ∧ ∀ p ∈ ps, Sl32 S W p.2 p.1.code
theorem WordsOwn.words {S : Nat → Prop} {B : Nat} {W : World} {v : Value} {l : List Wd} (h : WordsOwn S B W v l) : WordsAt (Or S B) W v l := by
  obtain ⟨ps, h1, h2, h3⟩ := h
  obtain ⟨A, c, rfl, hc, hr⟩ := own_row h2
  exact ⟨ps, h1, ⟨A, c, rfl, hc, hr.mono fun z hz => .inr hz⟩, fun p hp => Sl.mono (h3 p hp) fun z hz => .inl hz⟩
theorem WordsOwn.below {S : Nat → Prop} {B : Nat} {W W' : World} {v : Value} {l : List Wd} (h : WordsOwn S B W v l) (hb : Below W.heap.size W W') : WordsOwn S B W' v l := by
  obtain ⟨ps, h1, h2, h3⟩ := h
  exact ⟨ps, h1, own_below h2 hb, fun p hp => Sl.below (h3 p hp) hb⟩
theorem WordsOwn.lower {S : Nat → Prop} {B B' : Nat} {W : World} {v : Value} {l : List Wd} (h : WordsOwn S B W v l) (hb : B' ≤ B) : WordsOwn S B' W v l := by
  obtain ⟨ps, h1, h2, h3⟩ := h
  exact ⟨ps, h1, own_lower h2 hb, h3⟩
theorem WordsOwn.mono {S S' : Nat → Prop} {B : Nat} {W : World} {v : Value} {l : List Wd} (h : WordsOwn S B W v l) (hS : ∀ z, S z → S' z) : WordsOwn S' B W v l := by
  obtain ⟨ps, h1, h2, h3⟩ := h
  exact ⟨ps, h1, h2, fun p hp => Sl.mono (h3 p hp) hS⟩
theorem WordsOwn.nil (S : Nat → Prop) (B : Nat) (W : World) : WordsOwn S B W (.slice none 0 0) [] := ⟨[], rfl, World.ownsRow_nil W B _ 3, fun p hp => by cases hp⟩
theorem WordsOwn.form {S : Nat → Prop} {B : Nat} {W : World} {v : Value} {l : List Wd} (h : WordsOwn S B W v l) : ∃ A c, v = .slice A l.length c := by
  obtain ⟨ps, h1, h2, h3⟩ := h
  obtain ⟨A, c, e, _⟩ := own_form h2
  exact ⟨A, c, e⟩
theorem WordsOwn.keep {S : Nat → Prop} {B : Nat} {W W' : World} {v : Value} {l : List Wd} (h : WordsOwn S B W v l) (hk : ∀ z, z < W.heap.size → (S z ∨ B ≤ z) → W'.heap[z]? = W.heap[z]?) : WordsOwn S B W' v l := by
  obtain ⟨ps, h1, h2, h3⟩ := h
  refine ⟨ps, h1, ⟨h2.1, ?_⟩, fun p hp => Sl.keep (h3 p hp) fun z hz hS => hk z hz (.inl hS)⟩
  rcases h2.2 with h | ⟨g, cap, cur, e, hb, hg, r⟩
  · exact .inl h
  · exact .inr ⟨g, cap, cur, e, hb, (hk g (Blk.lt hg) (.inr hb)).trans hg, r⟩
/-- A row of words in new memory, their codes ahead of it. -/
def WordsNew (B : Nat) (W : World) (v : Value) (l : List Wd) : Prop := ∃ B', B ≤ B' ∧ B' ≤ W.heap.size ∧ WordsOwn (fun z => B ≤ z ∧ z < B') B' W v l
theorem WordsNew.words {B : Nat} {W : World} {v : Value} {l : List Wd} (h : WordsNew B W v l) : WordsAt (From B) W v l := by
  obtain ⟨B', h1, h3, h2⟩ := h
  exact h2.words.mono fun z hz => by rcases hz with hz | hz; exact hz.1; exact Nat.le_trans h1 hz
theorem WordsNew.below {B : Nat} {W W' : World} {v : Value} {l : List Wd} (h : WordsNew B W v l) (hb : Below W.heap.size W W') : WordsNew B W' v l := by
  obtain ⟨B', h1, h3, h2⟩ := h
  exact ⟨B', h1, Nat.le_trans h3 hb.size, h2.below hb⟩
theorem WordsNew.lower {B B0 : Nat} {W : World} {v : Value} {l : List Wd} (h : WordsNew B W v l) (hb : B0 ≤ B) : WordsNew B0 W v l := by
  obtain ⟨B', h1, h3, h2⟩ := h
  exact ⟨B', Nat.le_trans hb h1, h3, h2.mono fun z hz => ⟨Nat.le_trans hb hz.1, hz.2⟩⟩
theorem WordsNew.form {B : Nat} {W : World} {v : Value} {l : List Wd} (h : WordsNew B W v l) : ∃ A c, v = .slice A l.length c := by
  obtain ⟨B', h1, h3, h2⟩ := h
  exact h2.form
theorem WordsNew.keep {B : Nat} {W W' : World} {v : Value} {l : List Wd} (h : WordsNew B W v l) (hs : W.heap.size ≤ W'.heap.size) (hk : ∀ z, z < W.heap.size → B ≤ z → W'.heap[z]? = W.heap[z]?) : WordsNew B W' v l := by
  obtain ⟨B', h1, h3, h2⟩ := h
  exact ⟨B', h1, Nat.le_trans h3 hs, h2.keep fun z hz hS => hk z hz (by rcases hS with hS | hS; exact hS.1; exact Nat.le_trans h1 hS)⟩
theorem WordsNew.nil {B : Nat} {W : World} (h : B ≤ W.heap.size) : WordsNew B W (.slice none 0 0) [] := ⟨B, Nat.le_refl _, h, WordsOwn.nil _ _ _⟩
set_option maxRecDepth 100000 in
set_option maxHeartbeats 2000000 in
theorem dict_with_own {S : Nat → Prop} (v xv : Value) (l : List Wd) (x : Wd) (w : World) (hl : WordsAt S w v l) (hx : WdAt S w xv x) (hn : l.length ≤ 100000) (hc : ∀ y ∈ l ++ [x], y.code.length ≤ 1099511627776) :
    Calls Try.prog 43 #[v, xv] w fun e w' => (∃ v', e = .returned (.tuple #[v', .bool (withP l x)]) ∧ WordsOwn S w.heap.size w' v' (l ++ [x])) ∧ Below w.heap.size w w' := by
  obtain ⟨i0, hi, hz0, hz1, hz2⟩ := info_parts infoWord
  obtain ⟨ps, hps, ⟨A, c, rfl, hcc, hr⟩, hcodes⟩ := hl
  obtain ⟨cv, rfl, hxc⟩ := hx
  have hpl : ps.length = l.length := by rw [← hps]; simp
  have hcode : ∃ Ac cc, cv = .slice Ac x.code.length cc := by obtain ⟨Ac, cc, e, _⟩ := hxc; exact ⟨Ac, cc, e⟩
  have Hps := Lib.hid hps; clear hps
  have Hcodes := Lib.hid hcodes; clear hcodes
  have Hxc := Lib.hid hxc; clear hxc
  have Hr := Lib.hid hr; clear hr
  have Hc := Lib.hid hc; clear hc
  obtain ⟨n, hnl⟩ : ∃ n, n = l.length := ⟨_, rfl⟩
  rw [← hnl] at hpl hcc hn ⊢
  have hres : withP l x = (decide ((n : Int) < 2048) && checkZ (l ++ [x]) == -1) := by
    unfold withP; rw [← hnl]; congr 1; exact decide_eq_decide.2 (by omega)
  rw [hres]
  have hA : 0 < n → ∃ b o, A = some ⟨b, o, none⟩ := fun h => by
    obtain ⟨b, o, e, _⟩ := Hr.out (by rw [wcells_length]; omega)
    exact ⟨b, o, e⟩
  have hslh : ∀ W, (Instr.slice 29 (.slice A n c) none (some (.int .i64 n)) (some (.int .i64 n))).run Try.prog W = .ok (.slice A n n) W := fun W => by
    rw [run_slice_hm W 29 A n c Try.underlying29 .i64 .i64 n n (by omega) (by omega) (by omega)]
    by_cases h0 : n = 0
    · subst h0; simp [sliced, Result.andThen, Program.elem, Try.underlying29, Try.sizeOf25]
    · obtain ⟨b, o, rfl⟩ := hA (by omega)
      have h1 : ¬ n = 0 := h0
      simp [sliced, Result.andThen, Program.elem, Try.underlying29, Try.sizeOf25, h1, addr_add]
  obtain ⟨Ac, cc, rfl⟩ := hcode
  obtain ⟨name, flags, code⟩ := x
  simp only [wdV] at *
  have hB := Blk.new w 25 #[str name, .int .u8 (b8 flags), .slice Ac code.length cc]
  have hone : ∀ (ps : List Value), ps = [str name, .int .u8 (b8 flags), .slice Ac code.length cc] → ∀ u ∈ ps, u.oneCell' = true := fun ps e u hu => by
    subst e
    simp only [List.mem_cons, List.not_mem_nil, or_false] at hu
    rcases hu with rfl | rfl | rfl <;> simp [str, Value.oneCell']
  have Hcell : ∀ p : Wd × Value, p = (⟨name, flags, code⟩, .slice Ac code.length cc) → wcells p = [str name, .int .u8 (b8 flags), .slice Ac code.length cc] := fun p e => by subst e; rfl
  have Hcell := Lib.hid Hcell
  generalize hsv : str name = sv at *
  have Hone := Lib.hid (hone _ rfl); clear hone
  have hbe0 : Below w.heap.size w (w.alloc (.cells #[sv, .int .u8 (b8 flags), .slice Ac code.length cc] 25)) := (Below.refl _ w).alloc (Nat.le_refl _) _
  have Hbe0 := Lib.hid hbe0
  have Hnl := Lib.hid hnl; clear hnl
  have Hrow1 := Lib.hid (Hr.out.below hbe0)
  have Hcod1 := Lib.hid (fun p hp => Sl.below (Hcodes.out p hp) hbe0)
  have Hxc1 := Lib.hid (Sl.below Hxc.out hbe0)
  clear hbe0 hres
  go_enter Try.func43, Try.ntmps43
  go_wp2_with fail
  generalize hw1 : (w.alloc (.cells #[sv, .int .u8 (b8 flags), .slice Ac code.length cc] 25)) = w1 at *
  have hw1s : w1.heap.size = w.heap.size + 1 := by rw [← hw1]; simp
  clear hw1
  have hB2 : Blk w1.drew w.heap.size 25 #[sv, .int .u8 (b8 flags), .slice Ac code.length cc] := hB
  have g0 := hB2.cellv (j := 0) rfl
  have g1 := hB2.cellv (j := 1) rfl
  have g2 := hB2.cellv (j := 2) rfl
  simp only [List.getElem_toArray, List.getElem_cons_zero, List.getElem_cons_succ] at g0 g1 g2
  have Hrow2 := Lib.hid (show Row S w1.drew A _ from Hrow1.out.keep fun _ _ _ => rfl)
  have Hcod2 := Lib.hid (fun p hp => (show Sl32 S w1.drew _ _ from Sl.keep (Hcod1.out p hp) fun _ _ _ => rfl))
  have Hxc2 := Lib.hid (show Sl32 S w1.drew _ _ from Sl.keep Hxc1.out fun _ _ _ => rfl)
  have Hbe2 := Lib.hid (show Below w.heap.size w w1.drew from ⟨Hbe0.out.os, Hbe0.out.tape, Hbe0.out.output, Hbe0.out.size, Hbe0.out.block⟩)
  have hs2 : w1.drew.heap.size = w.heap.size + 1 := hw1s
  obtain ⟨w2, hw2⟩ : ∃ w2, w2 = w1.drew := ⟨_, rfl⟩
  rw [← hw2] at Hrow2 Hcod2 Hxc2 Hbe2 hs2
  have hnone : A = none → n = 0 ∧ n = 0 := fun e => by
    by_cases h0 : n = 0
    · exact ⟨h0, h0⟩
    · obtain ⟨b, o, h⟩ := hA (by omega)
      rw [e] at h; cases h
  have hlo : (ps.flatMap wcells).length = n * 3 := by rw [wcells_length, hpl]
  have holds : ∀ W, Below w2.heap.size w2 W → ∀ b, A = some b → ∀ j u, (ps.flatMap wcells)[j]? = some u → W.cell? (b.add j) = some u := fun W hW b hb j u hu => by
    obtain ⟨b', o', e, _, h⟩ := (Hrow2.out.below hW).at_ hu
    rw [e] at hb
    cases hb
    rw [addr_add]
    exact h
  have hnews : ∀ W : World, ∀ j u, ([sv, .int .u8 (b8 flags), .slice Ac code.length cc] : List Value)[j]? = some u → (W.alloc (.cells #[sv, .int .u8 (b8 flags), .slice Ac code.length cc] 25)).cell? ((⟨W.heap.size, 0, none⟩ : Addr).add j) = some u := fun W j u hu => by
    rw [addr_add, Nat.zero_add]
    exact (Blk.new W 25 #[sv, .int .u8 (b8 flags), .slice Ac code.length cc]).cellv (by simpa using hu)
  obtain ⟨v', w3, hrun, hown, hgrow⟩ := run_append_full (P := Try.prog) (w2.alloc (.cells #[sv, .int .u8 (b8 flags), .slice Ac code.length cc] 25)) 29 29 25 i0 _ 3 48 Try.underlying29 hi hz0 hz1 hz2 rfl (by decide) A n n (ps.flatMap wcells) hnone hlo (holds _ ((Below.refl _ _).alloc (Nat.le_refl _) _))
    ⟨w2.heap.size, 0, none⟩ 1 1 [sv, .int .u8 (b8 flags), .slice Ac code.length cc] rfl (hnews _) Hone.out (by omega) (by simp only [maxLen]; omega) (by omega)
  rw [hw2] at hrun
  have Hrun := Lib.hid hrun
  clear hrun hnone hlo holds hnews hA
  have Hs2 := Lib.hid hs2; clear hs2
  have HB3 := Lib.hid (show Below w.heap.size w w3 from below_grown (Hbe2.out.alloc (by have := Hs2.out; omega) _) hgrow (by have := Hs2.out; simp; omega) (fun z hz => by cases hz))
  have HB23 : Below w2.heap.size w2 w3 := below_grown ((Below.refl _ w2).alloc (Nat.le_refl _) _) hgrow (by simp) (fun z hz => by cases hz)
  clear hB
  have HW := Lib.hid (show WordsOwn S w.heap.size w3 v' (l ++ [⟨name, flags, code⟩]) from by
    refine ⟨ps ++ [(⟨name, flags, code⟩, .slice Ac code.length cc)], by rw [List.map_append, Hps.out]; rfl, ?_, fun p hp => ?_⟩
    · rw [List.flatMap_append, List.flatMap_singleton, Hcell.out _ rfl, List.length_append, ← Hnl.out]
      refine own_lower hown ?_
      have := Hs2.out
      simp
      omega
    · rcases List.mem_append.1 hp with h | h
      · exact Sl.below (Hcod2.out p h) HB23
      · obtain rfl : p = _ := by simpa using h
        exact Sl.below Hxc2.out HB23)
  have hform : ∃ A4 c4, v' = .slice A4 (n + 1) c4 := by obtain ⟨A3, c3, e, _⟩ := own_form hown; exact ⟨A3, c3, e⟩
  obtain ⟨A4, c4, rfl⟩ := hform
  have CK := prim_check _ _ w3 HW.out.words (by rw [List.length_append, ← Hnl.out]; simp; omega) Hc.out
  obtain ⟨z, hz⟩ : ∃ z, z = checkZ (l ++ [⟨name, flags, code⟩]) := ⟨_, rfl⟩
  rw [← hz] at CK
  have Hz := Lib.hid hz; clear hz HB23 hown hgrow
  have Hw2 := Lib.hid hw2; clear hw2
  have Hcell2 := Hcell
  clear Hcell
  by_cases c1 : (n : Int) < 2048
  · have hres : (decide ((n : Int) < 2048) && checkZ (l ++ [⟨name, flags, code⟩]) == -1) = (z == -1) := by rw [← Hz.out]; simp [c1]
    have Hres := Lib.hid hres; clear hres
    go_region_law (refine step_append_eq rfl (.tmp 12) (.tmp 14) 29 29 rfl _ _ (by simp [Act.eval]) (by simp [Act.eval]) Hrun.out ?_)
    go_wp2_with fail
    refine CK.mono ?_
    rintro e w4 ⟨rfl, hb4⟩
    have HB4 := Lib.hid (below_then HB3.out HB3.out.size hb4)
    have HW4 := Lib.hid (HW.out.below hb4); clear hb4
    go_wp2_with fail
    go_ret2
    rw [Hres.out]
    exact ⟨⟨_, rfl, HW4.out⟩, HB4.out⟩
  · have hres : (decide ((n : Int) < 2048) && checkZ (l ++ [⟨name, flags, code⟩]) == -1) = false := by simp [c1]
    have Hres := Lib.hid hres; clear hres
    go_region_law (refine step_append_eq rfl (.tmp 12) (.tmp 14) 29 29 rfl _ _ (by simp [Act.eval]) (by simp [Act.eval]) Hrun.out ?_)
    go_wp2_with fail
    go_ret2
    rw [Hres.out]
    exact ⟨⟨_, rfl, HW.out⟩, HB3.out⟩
theorem dict_with_new {B : Nat} (v xv : Value) (l : List Wd) (x : Wd) (w : World) (hl : WordsAt (From B) w v l) (hx : WdAt (From B) w xv x) (hn : l.length ≤ 100000) (hc : ∀ y ∈ l ++ [x], y.code.length ≤ 1099511627776) (hB : B ≤ w.heap.size) :
    Calls Try.prog 43 #[v, xv] w fun e w' => (∃ v', e = .returned (.tuple #[v', .bool (withP l x)]) ∧ WordsNew B w' v' (l ++ [x])) ∧ Below w.heap.size w w' := by
  obtain ⟨cv, e, hs⟩ := hx
  exact (dict_with_own v xv l x w hl.bound ⟨cv, e, Sl.bound hs⟩ hn hc).mono fun _ _ ⟨⟨v', h1, h2⟩, h3⟩ => ⟨⟨v', h1, w.heap.size, hB, h3.size, h2⟩, h3⟩
theorem dict_with {S : Nat → Prop} (v xv : Value) (l : List Wd) (x : Wd) (w : World) (hl : WordsAt S w v l) (hx : WdAt S w xv x) (hn : l.length ≤ 100000) (hc : ∀ y ∈ l ++ [x], y.code.length ≤ 1099511627776) :
    Calls Try.prog 43 #[v, xv] w fun e w' => (∃ v', e = .returned (.tuple #[v', .bool (withP l x)]) ∧ WordsAt (Or S w.heap.size) w' v' (l ++ [x])) ∧ Below w.heap.size w w' :=
  (dict_with_own v xv l x w hl hx hn hc).mono fun _ _ ⟨⟨v', h1, h2⟩, h3⟩ => ⟨⟨v', h1, h2.words⟩, h3⟩
end Go.Proofs.Ytmejngojpffcgaa
end

section
namespace Go.Ls
open Go.RowKit
/-- The four bytes of a number. -/
def four (b : List UInt8) (k : Nat) : List UInt8 := (b.drop (4 * k)).take 4
def fours (b : List UInt8) : List (List UInt8) := (List.range (b.length / 4)).map (four b)
theorem four_length {b : List UInt8} {k : Nat} (h : 4 * k + 4 ≤ b.length) : (four b k).length = 4 := by simp [four]; omega
def ChX (Sb : Nat → Prop) (b : List UInt8) (pre : List (Value × List UInt8)) (x : Value × List UInt8) (A : World) : Prop :=
  Sl8 Sb A x.1 x.2 ∧ x.2.length = 4 ∧ 4 * pre.length + 4 ≤ b.length
def ChS (b : List UInt8) (xs : List (Value × List UInt8)) (_A : World) : Prop := xs.map (·.2) = fours b
end Go.Ls
namespace Go.Proofs.Ytmejngojpffcgaa
open Go.RowKit Go.Ls
attribute [local go_sem] Oper.semAt_some
/-- The types of what a chunk's iterator has boxed: whoever goes over chunks turns no block of these. -/
def boxTypes (t : TypeId) : Prop := t = 27 ∨ t = 3
set_option maxRecDepth 100000 in
set_option maxHeartbeats 1000000 in
theorem chunk1 {Sb : Nat → Prop} (m : Nat) (Bs Bn : Nat) (v : Value) (b : List UInt8) (B : Nat) (w : World) (hl : Sl8 Sb w v b) (hSb : ∀ k, Sb k → k < B) (hn : b.length ≤ 1099511627776) (h4 : b.length % 4 = 0)
    (hbox : Blk w Bs 27 #[v]) (hbn : Blk w Bn 3 #[.int .i64 4]) :
    Seq Fence.wide m Try.prog 101 #[.pointer (some ⟨Bs, 0, none⟩), .pointer (some ⟨Bn, 0, none⟩)] (fun x : Value × List UInt8 => #[x.1]) boxTypes B (ChX Sb b) (ChS b) w := by
  intro l J W hW hJb hY h0
  have hl1 : Sl8 Sb W v b := Sl.below hl hW
  have hbox1 : Blk W Bs 27 #[v] := hbox.below hW hbox.lt
  have hbn1 : Blk W Bn 3 #[.int .i64 4] := hbn.below hW hbn.lt
  have hsz := hW.size
  obtain ⟨A, c, rfl, hc, hr⟩ := hl1
  obtain ⟨n, hn4⟩ : ∃ n, b.length = 4 * n := ⟨b.length / 4, by omega⟩
  obtain ⟨bl, hbl⟩ : ∃ bl, bl = b.length := ⟨_, rfl⟩
  rw [← hbl] at hbox hbox1 hc hn4 hn
  have Hbl := Lib.hid hbl; clear hbl
  have Hr := Lib.hid hr; clear hr
  have HY := Lib.hid hY; clear hY
  have HJb := Lib.hid hJb; clear hJb
  clear hl hbox hbn
  refine callsIn_of_wp Try.func101 rfl trivial ?_ rfl
  simp only [Try.ntmps101, List.size_toArray, List.length_cons, List.length_nil, Nat.reduceAdd, Nat.reduceSub, Array.replicate_succ, Array.replicate_zero, List.push_toArray, List.append_toArray, List.nil_append, List.cons_append]
  gi_wp2
  gi_loopw [4] (fun i wr => ∃ (k : Nat) (pre : List (Value × List UInt8)), i = .int .i64 ((4 * k : Nat) : Int) ∧ k ≤ n ∧ Hid (pre.length = k) ∧ Hid (pre.map (·.2) = (List.range k).map (four b)) ∧ Hid (J pre wr) ∧ Hid (Below B W wr) ∧ Hid (Blk wr Bs 27 #[.slice A bl c]) ∧ Hid (Blk wr Bn 3 #[.int .i64 4]))
    (fun i _ => bl - (intOf i).toNat)
  case atStart => exact ⟨0, [], rfl, Nat.zero_le _, rfl, (show _ = _ from rfl), h0, Below.refl _ _, hbox1, hbn1⟩
  case round =>
    obtain ⟨k, pre, rfl, hk, hpl, hpm, hJs, hbe, hboxr, hbnr⟩ := hrel
    have hboxc := hboxr.out.cellv (j := 0) rfl
    have hbnc := hbnr.out.cellv (j := 0) rfl
    simp only [List.getElem_toArray, List.getElem_cons_zero] at hboxc hbnc
    obtain ⟨i, hi⟩ : ∃ i, i = 4 * k := ⟨_, rfl⟩
    rw [← hi]
    by_cases hlt : k < n
    · have hib : i + 4 ≤ bl := by omega
      have hr' : Row Sb wr A (u8s b) := Hr.out.keep fun j _ hj => hbe.out.block j (hSb j hj)
      obtain ⟨ba, o, rfl, _, _⟩ := hr' (by rw [u8s_length, ← Hbl.out]; omega)
      have hsl : ∀ W, (Instr.slice 27 (.slice (some ⟨ba, o, none⟩) bl c) (some (.int .i64 (i : Int))) none none).run Try.prog W = .ok (.slice (some ⟨ba, o + i, none⟩) (bl - i) (c - i)) W := fun W => by
        rw [run_slice_l W 27 _ _ _ Try.underlying27 .i64 (i : Int) (by omega) (by omega)]
        have h1 : ¬ c = i := by omega
        simp [sliced, Result.andThen, Program.elem, Try.underlying27, Try.sizeOf5, addr_add, h1]
      have hsl2 : ∀ W, (Instr.slice 27 (.slice (some ⟨ba, o, none⟩) bl c) (some (.int .i64 (i : Int))) (some (.int .i64 ((i : Int) + 4))) (some (.int .i64 ((i : Int) + 4)))).run Try.prog W = .ok (.slice (some ⟨ba, o + i, none⟩) 4 4) W := fun W => by
        rw [run_slice_lhm W 27 _ _ _ Try.underlying27 .i64 .i64 .i64 (i : Int) ((i : Int) + 4) ((i : Int) + 4) (by omega) (by omega) (by omega) (by omega)]
        have h1 : ¬ ((i : Int) + 4).toNat = (i : Int).toNat := by omega
        have h2 : ((i : Int) + 4).toNat - (i : Int).toNat = 4 := by omega
        simp [sliced, Result.andThen, Program.elem, Try.underlying27, Try.sizeOf5, addr_add]
        omega
      obtain ⟨rl, hrl⟩ : ∃ rl, rl = bl - i := ⟨_, rfl⟩
      rw [← hrl] at hsl
      have hmin : (4 : Int) ≤ (rl : Int) := by omega
      have hminv : min (4 : Int) (rl : Int) = 4 := by omega
      have hX : ∀ nq, ChX Sb b pre (.slice (some ⟨ba, o + i, none⟩) 4 4, four b k) (wr.drewN nq) := fun nq => by
        have hfl := four_length (b := b) (k := k) (by rw [← Hbl.out, ← hi]; exact hib)
        refine ⟨⟨_, 4, by rw [hfl], by rw [hfl]; exact Nat.le_refl _, ?_⟩, hfl, by rw [hpl.out, ← hi, ← Hbl.out]; exact hib⟩
        have h2 := (hr'.drop i).take 4
        rw [show ((u8s b).drop i).take 4 = u8s (four b k) by simp [u8s, four, hi, List.map_drop, List.map_take]] at h2
        rw [show (some (⟨ba, o, none⟩ : Addr)).map (·.add i) = some ⟨ba, o + i, none⟩ by simp [addr_add]] at h2
        exact h2.keep fun _ _ _ => rfl
      have hib2 : (i : Int) < bl := by omega
      have Hib := Lib.hid hib
      have Hrl := Lib.hid hrl
      have Hi := Lib.hid hi
      have Hn4 := Lib.hid hn4
      clear hn4 hr' hi hrl hib hlt
      gi_wp2_with fail
      gi_quiet (fail)
      have hbd : Below wr.heap.size wr (wr.drewN nq) := Go.Ls.below_drewN (Below.refl _ _) nq
      obtain ⟨fn, tmps, assign, body, hy, hR⟩ := HY.out pre (.slice (some ⟨ba, o + i, none⟩) 4 4, four b k) wr (wr.drewN nq) (hX nq) hJs.out hbd
      have Hboxq := Lib.hid (hboxr.out.drewN nq)
      have Hbnq := Lib.hid (hbnr.out.drewN nq)
      have Hbeq := Lib.hid (Go.Ls.below_drewN hbe.out nq)
      simp only at hy
      have Hsl := Lib.hid hsl2
      clear hsl hbd hX
      gi_wp2_with fail
      refine ⟨fun h => (by cases h), hR.mono ?_⟩
      rintro e w5 ⟨rfl, hJ5, hk5, hm5⟩
      have hbox5 := hk5.blk _ _ _ (.inl rfl) Hboxq.out
      have hbn5 := hk5.blk _ _ _ (.inr rfl) Hbnq.out
      have hbnc5 := hbn5.cellv (j := 0) rfl
      have hboxc5 := hbox5.cellv (j := 0) rfl
      simp only [List.getElem_toArray, List.getElem_cons_zero] at hbnc5 hboxc5
      have Hbox5 := Lib.hid hbox5
      have Hbn5 := Lib.hid hbn5
      have HB5 := Lib.hid (show Below B W w5 from Hbeq.out.trans hk5.below)
      have HJ5 := Lib.hid hJ5
      have Hpl5 := Lib.hid (show (pre ++ [((Value.slice (some ⟨ba, o + i, none⟩) 4 4, four b k) : Value × List UInt8)]).length = k + 1 from by rw [List.length_append, hpl.out]; rfl)
      have Hpm5 := Lib.hid (show (pre ++ [((Value.slice (some ⟨ba, o + i, none⟩) 4 4, four b k) : Value × List UInt8)]).map (·.2) = (List.range (k + 1)).map (four b) from by rw [List.map_append, hpm.out, List.range_succ, List.map_append]; rfl)
      have hib := Hib.out
      have hi := Hi.out
      have hn4 := Hn4.out
      clear hJ5 hk5 hm5 hR hy hboxc hbnc hbox5 hbn5 hminv hmin
      have Hi4 := Lib.hid (show (i : Int) + 4 = ((4 * (k + 1) : Nat) : Int) from by omega)
      have Hms := Lib.hid (show bl - (i + 4) < bl - i from by omega)
      have Hk1 := Lib.hid (show k + 1 ≤ n from by omega)
      clear hi hn4
      gi_wp2_with fail
      go_roundw
      case rel => exact ⟨k + 1, _, (by rw [← Hi4.out]), Hk1.out, Hpl5, Hpm5, HJ5, HB5, Hbox5, Hbn5⟩
      case measure => simp [intOf]; have := Hms.out; have := Hi.out; omega
    · have hkn : k = n := by omega
      have hbi : ¬ (i : Int) < bl := by omega
      have hxs : pre.map (·.2) = fours b := by rw [hpm.out, hkn, fours, ← Hbl.out, hn4, Nat.mul_div_cancel_left _ (by omega)]
      have Hxs := Lib.hid hxs
      clear hxs hn4 hi hlt hkn
      gi_wp2_with fail
      go_end0
      exact ⟨⟨_, rfl⟩, pre, Hxs.out, hJs.out⟩
end Go.Proofs.Ytmejngojpffcgaa
end

section
/- A region that draws its order inside a round of a range over an iterator, by the walk of the same region outside of every round. -/
namespace Go.Ls
open Go.RowKit
variable {P : Program} {ops : Array Oper} {Q : Exit → Act → World → Prop}
theorem upon_in {o : Oper} {a : Act} {next : Act → World → Prop} {r : Result Next} (l n : Nat) (h : o.upon P a next Q r) : o.uponIn (Fence.wide.inRound l) n P a next Q r := by
  unfold Oper.upon at h
  split at h
  · exact h
  · exact h
  · exact h
  · exact ⟨fun h => (by cases h), (callsIn_wide.2 h : CallsIn Fence.wide (n - 1) P _ _ _ _)⟩
  · refine ⟨fun h => (by cases h), fun c cs _ => ?_⟩
    obtain ⟨v, w', r, s⟩ := h c cs
    exact ⟨v, w', r, stepsIn_wide.2 s⟩
  · exact h
  · exact h.elim
theorem wpOp_in {i l n : Nat} {K : Act → World → Prop} {a : Act} {w : World} (hd : ∀ o ∈ ops.toList, ∀ c, o.op ≠ .defer c) (hL : ¬ LetsOut Q)
    (h : wpOp P ops Q i K a w) : wpOpIn (Fence.wide.inRound l) n P ops Q i K a w := by
  unfold wpOp at h
  unfold wpOpIn
  cases ho : ops[i]? with
  | none => rw [ho] at h; exact h
  | some o =>
    rw [ho] at h
    simp only at h ⊢
    have hm : o ∈ ops.toList := List.mem_of_getElem? (by simpa using ho)
    split
    · rename_i hw
      rw [if_pos hw] at h
      rcases h with h | h
      · unfold Oper.wp at h
        refine ⟨fun _ _ => trivial, ?_⟩
        rw [Oper.semAt_eq _ _ _ (hd o hm)]
        exact upon_in l n h
      · exact absurd h.2 hL
    · rename_i hw
      rw [if_neg hw] at h
      exact ⟨fun _ _ => trivial, h⟩
theorem wpAny_in {md : Region.Mode} {l n : Nat} (hd : ∀ o ∈ ops.toList, ∀ c, o.op ≠ .defer c) (hL : ¬ LetsOut Q) :
    ∀ (fuel : Nat) (listed : Array Bool) (a : Act) (w : World), wpAny P md ops Q fuel listed a w → wpAnyIn (Fence.wide.inRound l) n P md ops Q fuel listed a w
  | 0, _, _, _, h => h
  | fuel + 1, _, _, _, h => ⟨h.1, fun i hi => wpOpIn_mono (fun a w hk => wpAny_in hd hL fuel _ a w hk) (wpOp_in hd hL (h.2 i hi))⟩
theorem region_round {id l n : Nat} {a : Act} {w : World} (hm : P.follows .mixedOrders = true) (hd : (ops.toList.all fun o => match o.op with | .defer _ => false | _ => true) = true) (hL : ¬ LetsOut Q)
    (h : wpAny P .any ops Q ops.size (Array.replicate ops.size false) a w.drew) : (Code.region id ops true).wpIn (Fence.wide.inRound l) n P Q a w :=
  wpIn_region_any hm (wpAny_in (fun o ho c e => by have := List.all_eq_true.1 hd o ho; rw [e] at this; cases this) hL _ _ _ _ h)
end Go.Ls
end

section
/- A function that goes over iterators more than once: the marks among its deferred calls, when it returns. -/
namespace Go.Ls
open Go.RowKit
def markOf (D : Nat) : Deferred := { target := .collected D, args := #[] }
def Marked (B : Nat) (ds : List Deferred) (W : World) : Prop := ∃ Ds : List Nat, ds = Ds.map markOf ∧ Ds.Nodup ∧ ∀ D ∈ Ds, B ≤ D ∧ W.heap[D]? = some (.deferred (some []))
theorem Marked.nil (B : Nat) (W : World) : Marked B [] W := ⟨[], rfl, List.nodup_nil, fun _ h => by cases h⟩
/-- What shutting the marks leaves. -/
abbrev Shut (B : Nat) (W W' : World) : Prop := Keep (fun _ => True) B W W'
theorem leaves_marks {F : Fence} {n : Nat} {P : Program} {fn : Func} {tmps : Array Value} {R : Ending → World → Prop} {v : Value} {B : Nat} (hres : ∀ W, (results fn tmps).run P W = .ok v W) : ∀ (Ds : List Nat) (W : World), Ds.Nodup → (∀ D ∈ Ds, B ≤ D ∧ W.heap[D]? = some (.deferred (some []))) →
    (∀ W', Shut B W W' → R (.returned v) W') → LeavesInM F n P fn tmps R (Ds.map markOf) .returning W
  | [], W, _, _, hR => ⟨v, hres W, hR W (Keep.refl _ _ _)⟩
  | D :: Ds, W, hn, hm, hR => by
    obtain ⟨hb, hD⟩ := hm D (by simp)
    refine ⟨by simp, .inl ⟨D, W.putObj D (.deferred none), rfl, run_takeDeferred hD, ?_⟩⟩
    have hk : Shut B W (W.putObj D (.deferred none)) := putObj_keep hb hD rfl
    refine leaves_marks hres Ds _ (List.nodup_cons.1 hn).2 (fun E hE => ?_) (fun W' hW' => hR W' (hk.trans hW'))
    obtain ⟨h1, h2⟩ := hm E (by simp [hE])
    refine ⟨h1, ?_⟩
    rw [World.putObj_heap_other (fun e => by subst e; exact (List.nodup_cons.1 hn).1 hE)]
    exact h2
theorem leaves_marked {F : Fence} {n : Nat} {P : Program} {fn : Func} {tmps : Array Value} {R : Ending → World → Prop} {v : Value} {B : Nat} {W : World} {ds : List Deferred} (hres : ∀ W, (results fn tmps).run P W = .ok v W) (hm : Marked B ds W)
    (hR : ∀ W', Shut B W W' → R (.returned v) W') : LeavesInM F n P fn tmps R ds .returning W := by
  obtain ⟨Ds, rfl, hn, h⟩ := hm
  exact leaves_marks hres Ds W hn h hR
theorem Marked.keep {B : Nat} {ds : List Deferred} {W W' : World} (h : Marked B ds W) (hk : ∀ D, B ≤ D → W.heap[D]? = some (.deferred (some [])) → W'.heap[D]? = some (.deferred (some []))) : Marked B ds W' := by
  obtain ⟨Ds, e, hn, hd⟩ := h
  exact ⟨Ds, e, hn, fun D hD => ⟨(hd D hD).1, hk D (hd D hD).1 (hd D hD).2⟩⟩
theorem Marked.below {B : Nat} {ds : List Deferred} {W W' : World} (h : Marked B ds W) (hb : Below W.heap.size W W') : Marked B ds W' :=
  h.keep fun D _ hD => (hb.block D (Array.getElem?_eq_some_iff.1 hD).1).trans hD
theorem Marked.cons {B D : Nat} {ds : List Deferred} {w W : World} (h : Marked B ds w) (hb : Below w.heap.size w W) (hD : w.heap.size ≤ D) (hB : B ≤ D) (hk : W.heap[D]? = some (.deferred (some []))) : Marked B (markOf D :: ds) W := by
  obtain ⟨Ds, e, hn, hd⟩ := h
  refine ⟨D :: Ds, by rw [e]; rfl, List.nodup_cons.2 ⟨fun hm => ?_, hn⟩, fun E hE => ?_⟩
  · have := (Array.getElem?_eq_some_iff.1 (hd D hm).2).1
    omega
  · rcases List.mem_cons.1 hE with rfl | hE
    · exact ⟨hB, hk⟩
    · obtain ⟨h1, h2⟩ := hd E hE
      exact ⟨h1, (hb.block E (Array.getElem?_eq_some_iff.1 h2).1).trans h2⟩
theorem own_keep {t : TypeId → Prop} {B : Nat} {W W' : World} {base : Nat} {e : TypeId} {size n : Nat} {v : Value} {xs : List Value} (ht : t e) (h : W.ownsRow base e size v n xs) (hk : Keep t B W W') : W'.ownsRow base e size v n xs := by
  refine ⟨h.1, ?_⟩
  rcases h.2 with h2 | ⟨g, cap, cur, h2, h3, h4, h5⟩
  · exact .inl h2
  · exact .inr ⟨g, cap, cur, h2, h3, hk.blk _ _ _ ht h4, h5⟩
end Go.Ls
end

/- Contract of image.Decode. No condition beyond those each theorem names. -/
import Derived.Test.YtmejngojpffcgaaKwith
import Derived.Test.YtmejngojpffcgaaKword
import Derived.Test.YtmejngojpffcgaaKscan
import Derived.RangeFuncBox
section
/- The words of bytes: no Go in this text. -/
namespace Go.Ls
def cellL : List UInt8 → UInt32
  | [a, b, c, d] => cell4 a b c d
  | _ => 0
def cellsP (b : List UInt8) : List UInt32 := (fours b).map cellL
def wdBegin (r : List UInt8) : Nat := 4 + (r.getD 0 0).toNat
def wdEnd (r : List UInt8) : Nat := wdBegin r + 4 * ((r.getD 2 0).toNat + 256 * (r.getD 3 0).toNat)
def wdOf (r : List UInt8) : Wd := ⟨(r.take (wdBegin r)).drop 4, r.getD 1 0, cellsP ((r.take (wdEnd r)).drop (wdBegin r))⟩
def decF : Nat → List UInt8 → Option (List Wd)
  | 0, _ => some []
  | f + 1, r => if r.length = 0 then some [] else if r.length < 4 then none else if r.length < wdEnd r then none else if (wdOf r).right then (decF f (r.drop (wdEnd r))).map (wdOf r :: ·) else none
def decP (r : List UInt8) : Option (List Wd) := decF r.length r
theorem wdEnd_ge (r : List UInt8) : 4 ≤ wdEnd r := by unfold wdEnd wdBegin; omega
theorem decF_fuel : ∀ (f g : Nat) (r : List UInt8), r.length ≤ f → r.length ≤ g → decF f r = decF g r := by
  intro f
  induction f with
  | zero =>
    intro g r hf _
    cases g with
    | zero => rfl
    | succ g => rw [decF, decF, if_pos (by omega)]
  | succ f ih =>
    intro g r hf hg
    cases g with
    | zero => rw [decF, decF, if_pos (by omega)]
    | succ g =>
      rw [decF, decF]
      have := wdEnd_ge r
      split
      · rfl
      · split
        · rfl
        · split
          · rfl
          · rw [ih g (r.drop (wdEnd r)) (by rw [List.length_drop]; omega) (by rw [List.length_drop]; omega)]
theorem decP_eq (r : List UInt8) : decP r = if r.length = 0 then some [] else if r.length < 4 then none else if r.length < wdEnd r then none else if (wdOf r).right then (decP (r.drop (wdEnd r))).map (wdOf r :: ·) else none := by
  unfold decP
  rw [decF_fuel _ (r.length + 1) r (Nat.le_refl _) (by omega), decF]
  have := wdEnd_ge r
  split
  · rfl
  · split
    · rfl
    · split
      · rfl
      · rw [decF_fuel r.length (r.drop (wdEnd r)).length (r.drop (wdEnd r)) (by rw [List.length_drop]; omega) (Nat.le_refl _)]
theorem or_shift (a b : UInt8) : bits .or .i64 (b8 a) (b8 b * 256) = ((a.toNat + 256 * b.toNat : Nat) : Int) := by
  have hk : ∀ a b : UInt8, bits .or .i64 (b8 a) (b8 b * 256) = ((a.toNat + 256 * b.toNat : Nat) : Int) := by
    intro a b
    have ha := a.toNat_lt
    have hb := b.toNat_lt
    have e1 : BitVec.ofInt 64 (b8 a) = BitVec.ofNat 64 a.toNat := by unfold b8; apply BitVec.eq_of_toNat_eq; simp
    have e2 : BitVec.ofInt 64 (b8 b * 256) = BitVec.ofNat 64 (b.toNat * 256) := by unfold b8; apply BitVec.eq_of_toNat_eq; simp; omega
    show IntKind.i64.wrap ((BitVec.ofInt 64 (b8 a) ||| BitVec.ofInt 64 (b8 b * 256)).toNat : Int) = _
    rw [e1, e2]
    have : (BitVec.ofNat 64 a.toNat ||| BitVec.ofNat 64 (b.toNat * 256)).toNat = a.toNat + 256 * b.toNat := by
      rw [BitVec.toNat_or, BitVec.toNat_ofNat, BitVec.toNat_ofNat, Nat.mod_eq_of_lt (by omega), Nat.mod_eq_of_lt (by omega)]
      have := Nat.two_pow_add_eq_or_of_lt (i := 8) (b := a.toNat) (by omega) b.toNat
      rw [Nat.or_comm, Nat.mul_comm b.toNat 256, show (256 : Nat) = 2 ^ 8 from rfl, ← this]
      omega
    rw [this, IntKind.wrap_i64]
    omega
  exact hk a b
end Go.Ls
end

section
/- One more cell behind a word's code. -/
namespace Go.Proofs.Ytmejngojpffcgaa
open Go.RowKit Go.Ls
def CodeI (w1 : World) (Bw : Nat) (sv fv : Value) (pre : List (Value × List UInt8)) (W : World) : Prop :=
  ∃ cV, Blk W Bw 25 #[sv, fv, cV] ∧ W.ownsRow Bw 51 1 cV pre.length (u32s (pre.map fun x => cellL x.2)) ∧ Below Bw w1 W
theorem CodeI.below {w1 : World} {Bw : Nat} {sv fv : Value} {pre : List (Value × List UInt8)} {W W' : World} (h : CodeI w1 Bw sv fv pre W) (hb : Below W.heap.size W W') : CodeI w1 Bw sv fv pre W' := by
  obtain ⟨cV, h1, h2, h3⟩ := h
  exact ⟨cV, h1.below hb h1.lt, own_below h2 hb, h3.trans (hb.mono (Nat.le_of_lt h1.lt))⟩
theorem CodeI.put {w1 : World} {Bw : Nat} {sv fv : Value} {pre : List (Value × List UInt8)} {A : World} {l : Nat} {o o' : Obj} (h : CodeI w1 Bw sv fv pre A) (hB : Bw ≤ l) (hl : A.heap[l]? = some o) (ho : o.isCells = false) : CodeI w1 Bw sv fv pre (A.putObj l o') := by
  obtain ⟨cV, h1, h2, h3⟩ := h
  exact ⟨cV, blk_put h1 hl ho, ownsRow_putObj h2 _ hl ho, h3.trans (putObj_below hB)⟩
def CodeY (B : Nat) (w1 : World) (Bw : Nat) (sv fv : Value) (cb : List UInt8) (tm : Value × List UInt8 → Array Value) (M : Nat) (pre : List (Value × List UInt8)) (x : Value × List UInt8) (a' : Act) (W : World) : Prop :=
  ∃ cV, Blk W Bw 25 #[sv, fv, cV] ∧ W.ownsRow Bw 51 1 cV pre.length (u32s (pre.map fun x => cellL x.2)) ∧ Below Bw w1 W ∧ (∀ g, cV.ownBlock = some g → g < M) ∧ Bw < M ∧ ChX (fun b => b < B) cb pre x W ∧ a' = { tmps := tm x, defers := [] }
theorem chX_put {Sb : Nat → Prop} {cb : List UInt8} {pre : List (Value × List UInt8)} {x : Value × List UInt8} {A : World} {l : Nat} {o' : Obj} (h : ChX Sb cb pre x A) (hS : ∀ b, Sb b → b < l) : ChX Sb cb pre x (A.putObj l o') :=
  ⟨Sl.keep h.1 fun b _ hb => World.putObj_heap_other (Nat.ne_of_lt (hS b hb)), h.2⟩
theorem elem32 : ElemOK Try.prog 23 51 (.int .u32 0) 1 4 := ⟨Try.underlying23, by kernel_rfl, rfl, by omega⟩
theorem code_step {B D M Bw : Nat} {w1 W : World} {sv fv cV : Value} {pre : List (Value × List UInt8)} {x : Value × List UInt8} (nq : Nat) (hB : B ≤ Bw) (h1 : Blk W Bw 25 #[sv, fv, cV]) (h2 : W.ownsRow Bw 51 1 cV pre.length (u32s (pre.map fun x => cellL x.2)))
    (h3 : Below Bw w1 W) (h4 : ∀ g, cV.ownBlock = some g → g < M) (h5 : Bw < M) (hp : pre.length ≤ 1000000000) (z : UInt32) (hz : z = cellL x.2) :
    ∃ A5 c5 w5, (Builtin.append_ #[23, 23] 23 #[cV, .slice (some ⟨W.heap.size, 0, none⟩) 1 1]).run Try.prog ((W.drew.drewN nq).alloc (.cells #[.int .u32 (w32 z)] 51)) = .ok (.slice A5 (pre.length + 1) c5) w5 ∧
      w5.cell? ⟨Bw, 2, none⟩ = some cV ∧ w5.frozen? ⟨Bw, 2, none⟩ = false ∧ KeepsFrom D W (w5.setCell ⟨Bw, 2, none⟩ (.slice A5 (pre.length + 1) c5)) ∧ Keep boxTypes B W (w5.setCell ⟨Bw, 2, none⟩ (.slice A5 (pre.length + 1) c5)) ∧ Mid M W (w5.setCell ⟨Bw, 2, none⟩ (.slice A5 (pre.length + 1) c5)) ∧
      CodeI w1 Bw sv fv (pre ++ [x]) (w5.setCell ⟨Bw, 2, none⟩ (.slice A5 (pre.length + 1) c5)) := by
  have hbV : Below W.heap.size W ((W.drew.drewN nq).alloc (.cells #[.int .u32 (w32 z)] 51)) :=
    (⟨rfl, rfl, rfl, Nat.le_refl _, fun _ _ => rfl⟩ : Below W.heap.size W (W.drew.drewN nq)).alloc (Nat.le_refl _) _
  have hVs : ((W.drew.drewN nq).alloc (.cells #[.int .u32 (w32 z)] 51)).heap.size = W.heap.size + 1 := by rw [World.size_alloc]; rfl
  have hnew : Blk ((W.drew.drewN nq).alloc (.cells #[.int .u32 (w32 z)] 51)) W.heap.size 51 #[.int .u32 (w32 z)] := Blk.new (W.drew.drewN nq) _ _
  have hlt := h1.lt
  generalize ((W.drew.drewN nq).alloc (.cells #[.int .u32 (w32 z)] 51)) = V at *
  have hown := own_below h2 hbV
  have hne : ∀ (W' : World) g cs, cV.ownBlock = some g → Blk W g 51 cs → g ≠ Bw := fun _ g cs _ hg e => by
    subst e
    have := hg.symm.trans h1
    simp at this
  obtain ⟨v', w5, hrun, ho5, hg5, hor⟩ := run_app elem32 V Bw 23 cV pre.length _ hown (some ⟨W.heap.size, 0, none⟩) 1 1 (u32s [z]) (Row.blk (S := fun _ => True) hnew trivial (n := 1) rfl) rfl (one32 _) (by omega) (by omega) (by omega)
  obtain ⟨A5, c5, rfl, _⟩ := own_form ho5
  have hBV := h1.below hbV hlt
  have hB5 : Blk w5 Bw 25 #[sv, fv, cV] := (hg5.block Bw hBV.lt (fun e => by
    obtain ⟨_, cs, hcs⟩ := own_lt hown Bw e.symm
    have := hcs.symm.trans hBV
    simp at this)).trans hBV
  have hrow : ∀ g, cV.ownBlock = some g → Bw ≤ g := fun g hg => (hown.lt g hg).1
  have hbe5 : Below Bw W w5 := below_grown (hbV.mono (Nat.le_of_lt hlt)) hg5 (by omega) hrow
  have hbe6 : Below Bw W (w5.setCell ⟨Bw, 2, none⟩ (.slice A5 (pre.length + 1) c5)) := hbe5.setCell (p := ⟨Bw, 2, none⟩) (Nat.le_refl _) _
  have hblk : ∀ b o, W.heap[b]? = some o → (∀ cs f, o ≠ .cells cs 51 f) → b ≠ Bw → (w5.setCell ⟨Bw, 2, none⟩ (.slice A5 (pre.length + 1) c5)).heap[b]? = some o := fun b o hb ho hne => by
    have hbl := (Array.getElem?_eq_some_iff.1 hb).1
    have hb1 := (hbV.block b hbl).trans hb
    rw [heap_setCell_other w5 ⟨Bw, 2, none⟩ b _ hne]
    refine (hg5.block b (by omega) fun e => ?_).trans hb1
    obtain ⟨_, cs, hcs⟩ := own_lt hown b e.symm
    have := hcs.symm.trans hb1
    cases this
    exact ho _ _ rfl
  refine ⟨A5, c5, w5, hrun, hB5.cellv (j := 2) rfl, hB5.frozen 2, ⟨hbe6.size, fun k o _ hk ho => hblk k o hk (fun cs f e => by rw [e] at ho; cases ho) (fun e => by subst e; rw [show W.heap[k]? = _ from h1] at hk; cases hk; cases ho)⟩, ⟨hbe6.mono hB, fun ty b cs ht hb => hblk b _ hb (fun cs' f e => ?_) (fun e => ?_)⟩, fun b hb hbl => ?_, ?_⟩
  · cases e
    rcases ht with h | h <;> simp at h
  · subst e
    have := hb.symm.trans h1
    rcases ht with rfl | rfl <;> simp at this
  · rw [heap_setCell_other w5 ⟨Bw, 2, none⟩ b _ (by show b ≠ Bw; omega)]
    refine (hg5.block b (by omega) fun e => ?_).trans (hbV.block b hbl)
    have := h4 b e.symm
    omega
  · refine ⟨.slice A5 (pre.length + 1) c5, by simpa using hB5.set 2 (.slice A5 (pre.length + 1) c5), ?_, h3.trans hbe6⟩
    have hk : Keep (fun t => t = 51) 0 w5 (w5.setCell ⟨Bw, 2, none⟩ (.slice A5 (pre.length + 1) c5)) := ⟨(Below.refl 0 w5).setCell (p := ⟨Bw, 2, none⟩) (Nat.zero_le _) _, fun ty b cs ht hb => hb.far (fun e => by
      have e' : b = Bw := e
      subst e' ht
      have := hb.symm.trans hB5
      simp at this) _⟩
    have := own_keep (t := fun t => t = 51) rfl ho5 hk
    rw [← u32s_append] at this
    rw [List.length_append, List.map_append]
    simpa [hz] using this
end Go.Proofs.Ytmejngojpffcgaa
end

section
namespace Go.Proofs.Ytmejngojpffcgaa
open Go.RowKit Go.Ls
theorem chunk_make (A : Option Addr) (n c : Nat) (w : World) : Calls Try.prog 80 #[.slice A n c, .int .i64 4] w fun e w' =>
    e = .returned (.func (.func 101) #[] #[.pointer (some ⟨w.heap.size, 0, none⟩), .pointer (some ⟨w.heap.size + 1, 0, none⟩)]) ∧ w' = (w.alloc (.cells #[.slice A n c] 27)).alloc (.cells #[.int .i64 4] 3) := by
  have h1 := (Blk.new (w.alloc (.cells #[.slice A n c] 27)) 3 #[.int .i64 4]).cellv (j := 0) rfl
  rw [World.size_alloc] at h1
  simp only [List.getElem_toArray, List.getElem_cons_zero] at h1
  go_enter Try.func80, Try.ntmps80
  go_wp2_with fail
  go_ret
  exact ⟨rfl, rfl⟩
def RetDec (w : World) (r : Option (List Wd)) (e : Ending) (w' : World) : Prop :=
  Below w.heap.size w w' ∧ match r with
  | none => e = .returned (.tuple #[.slice none 0 0, .int .i64 100])
  | some l => ∃ v, e = .returned (.tuple #[v, .int .i64 0]) ∧ WordsAt (From w.heap.size) w' v l
/-- Words that the call has read so far, all in its own memory. -/
def Got (B : Nat) (W : World) (v : Value) (m : Nat) (acc : List Wd) : Prop :=
  ∃ ps : List (Wd × Value), ps.map (·.1) = acc ∧ m = acc.length ∧ W.ownsRow B 25 3 v m (ps.flatMap wcells) ∧ ∀ p ∈ ps, W.ownsRow B 51 1 p.2 p.1.code.length (u32s p.1.code)
theorem Got.shut {B : Nat} {W W' : World} {v : Value} {m : Nat} {acc : List Wd} (h : Got B W v m acc) (hk : Shut B W W') : WordsAt (From B) W' v acc := by
  obtain ⟨ps, h1, h2, h3, h4⟩ := h
  obtain ⟨A, c, rfl, hc, hr⟩ := own_row (own_keep trivial h3 hk)
  refine ⟨ps, h1, ⟨A, c, by rw [h2], by rw [← h2]; exact hc, hr⟩, fun p hp => ?_⟩
  obtain ⟨A', c', e', hc', hr'⟩ := own_row (own_keep trivial (h4 p hp) hk)
  exact ⟨A', c', e', hc', hr'⟩
theorem Got.below {B : Nat} {W W' : World} {v : Value} {m : Nat} {acc : List Wd} (h : Got B W v m acc) (hb : Below W.heap.size W W') : Got B W' v m acc := by
  obtain ⟨ps, h1, h2, h3, h4⟩ := h
  exact ⟨ps, h1, h2, own_below h3 hb, fun p hp => own_below (h4 p hp) hb⟩
def slLen : Value → Nat
  | .slice _ n _ => n
  | _ => 0
def DecI (B : Nat) (w : World) (res : Option (List Wd)) (t0 t4 : Value) (ds : List Deferred) (W : World) : Prop :=
  ∃ (r : List UInt8) (acc : List Wd) (A : Option Addr) (n c : Nat) (A' : Option Addr) (m c' : Nat), t0 = .slice A n c ∧ t4 = .slice A' m c' ∧ n ≤ 1000000 ∧ m ≤ 1000000 - n ∧ Hid (n = r.length) ∧
    Hid (Sl8 (fun b => b < B) W t0 r) ∧ Hid (Got B W t4 m acc) ∧ Hid (res = (decP r).map (acc ++ ·)) ∧ Hid (Below B w W) ∧ Hid (Marked B ds W)
theorem elemWord : ElemOK Try.prog 29 25 (.agg #[.string ⟨#[]⟩, .int .u8 0, .slice none 0 0]) 3 48 := ⟨Try.underlying29, infoWord, rfl, by omega⟩
theorem word_step {B m : Nat} {w W V : World} {A2 : Option Addr} {c2 : Nat} {acc : List Wd} {ds : List Deferred} {v0 : Value} {r : List UInt8} (x : Wd) (bs : ByteArray) (r1 : UInt8) (cd : List UInt32) (cV : Value) (hbV : Below W.heap.size W V)
    (hnew : Blk V W.heap.size 25 #[.string bs, .int .u8 (b8 r1), cV]) (hBV : B ≤ V.heap.size) (hgot : Got B W (.slice A2 m c2) m acc) (hmk : Marked B ds W) (hown : W.ownsRow B 51 1 cV cd.length (u32s cd)) (hbe : Below B w W) (hBW : B ≤ W.heap.size) (hsl : Sl8 (fun b => b < B) W v0 r)
    (hx : wcells (x, cV) = [.string bs, .int .u8 (b8 r1), cV]) (hxc : x.code = cd) (hm : m ≤ 1000000) :
    ∃ A7 c7 w6, (Builtin.append_ #[29, 29] 29 #[.slice A2 m c2, .slice (some ⟨W.heap.size, 0, none⟩) 1 1]).run Try.prog V = .ok (.slice A7 (m + 1) c7) w6 ∧ Got B w6 (.slice A7 (m + 1) c7) (m + 1) (acc ++ [x]) ∧ Marked B ds w6 ∧ Below B w w6 ∧ Sl8 (fun b => b < B) w6 v0 r := by
  obtain ⟨ps, h1, h2, h3, h4⟩ := hgot
  have h3V := own_below h3 hbV
  have hone : ∀ u ∈ ([.string bs, .int .u8 (b8 r1), cV] : List Value), u.oneCell' = true := fun u hu => by
    simp only [List.mem_cons, List.not_mem_nil, or_false] at hu
    obtain ⟨A, c, e, _⟩ := own_form hown
    rcases hu with rfl | rfl | rfl
    · rfl
    · rfl
    · rw [e]; rfl
  obtain ⟨v', w6, hrun, ho6, hg6, hor⟩ := run_app elemWord V B 29 (.slice A2 m c2) m _ h3V (some ⟨W.heap.size, 0, none⟩) 1 1 [.string bs, .int .u8 (b8 r1), cV] (Row.blk (S := fun _ => True) hnew trivial (n := 3) rfl) rfl hone (by omega) (by omega) hBV
  obtain ⟨A7, c7, rfl, _⟩ := own_form ho6
  have hrow : ∀ g, (Value.slice A2 m c2).ownBlock = some g → B ≤ g := fun g hg => (h3V.lt g hg).1
  have hB6 : Below B W w6 := below_grown (hbV.mono hBW) hg6 hBV hrow
  have hcode : ∀ v n xs, W.ownsRow B 51 1 v n xs → w6.ownsRow B 51 1 v n xs := fun v n xs h => by
    have hV := own_below h hbV
    refine hV.kept hg6 ?_
    by_cases e : v.ownBlock = (Value.slice A2 m c2).ownBlock
    · left
      cases hb : v.ownBlock with
      | none => rfl
      | some g =>
        obtain ⟨_, cs, hcs⟩ := own_lt hV g hb
        obtain ⟨_, cs', hcs'⟩ := own_lt h3V g (e ▸ hb)
        have := hcs.symm.trans hcs'
        simp at this
    · exact .inr e
  refine ⟨A7, c7, w6, hrun, ⟨ps ++ [(x, cV)], by rw [List.map_append, h1]; rfl, by rw [List.length_append, h2]; rfl, ?_, fun p hp => ?_⟩, ?_, hbe.trans hB6, Sl.keep hsl fun b _ hb => hB6.block b hb⟩
  · rw [List.flatMap_append, List.flatMap_singleton, hx]
    exact ho6
  · rcases List.mem_append.1 hp with h | h
    · exact hcode _ _ _ (h4 p h)
    · obtain rfl : p = _ := by simpa using h
      simp only
      rw [hxc]
      exact hcode _ _ _ hown
  · refine (hmk.below hbV).keep fun D hD hd => (hg6.block D (Array.getElem?_eq_some_iff.1 hd).1 fun e => ?_).trans hd
    obtain ⟨_, cs, hcs⟩ := own_lt h3V D e.symm
    have := hcs.symm.trans hd
    cases this
theorem list4 {α : Type} {l : List α} (h : l.length = 4) : ∃ a b c d, l = [a, b, c, d] := by
  match l, h with
  | [a, b, c, d], _ => exact ⟨a, b, c, d, rfl⟩
def AtEnd (A : Act) (W : World) : Exit → Act → World → Prop
  | .normal, a, w => a = A ∧ w = W
  | _, _, _ => False
theorem wp_cut {P : Program} {c : Code} {Q : Exit → Act → World → Prop} {a : Act} {w : World} (A : Act) (W : World) (h : c.wp P (AtEnd A W) a w) (hQ : Q .normal A W) : c.wp P Q a w :=
  wp_mono h fun e a' w' h => by
    cases e with
    | normal => obtain ⟨h2, h3⟩ := h; subst h2; subst h3; exact hQ
    | _ => exact h.elim
attribute [local irreducible] wpQuiet wpList Code.wp
attribute [local go_sem] Oper.semAt_some
set_option maxRecDepth 100000 in
set_option maxHeartbeats 8000000 in
theorem image_decode {Sb : Nat → Prop} (v : Value) (b : List UInt8) (w : World) (hl : Sl8 Sb w v b) (hn : b.length ≤ 1000000) :
    Calls Try.prog 42 #[v] w (RetDec w (decP b)) := by
  have Hl := Lib.hid (show Sl8 (fun b => b < w.heap.size) w v b from Sl.mono (Sl.bound hl) fun _ h => h.2)
  have hform : ∃ A c, v = .slice A b.length c := by obtain ⟨A, c, e, _⟩ := hl; exact ⟨A, c, e⟩
  clear hl
  obtain ⟨A, c, rfl⟩ := hform
  obtain ⟨res, hres⟩ : ∃ r, r = decP b := ⟨_, rfl⟩
  rw [← hres]
  have Hres := Lib.hid hres; clear hres
  obtain ⟨B, hB⟩ : ∃ B, B = w.heap.size := ⟨_, rfl⟩
  rw [← hB] at Hl
  have HB := Lib.hid hB; clear hB
  refine (callsIn_wide (n := 6)).1 ?_
  refine callsIn_of_wp_marks Try.func42 rfl trivial ?_ rfl
  simp only [Try.ntmps42, List.size_toArray, List.length_cons, List.length_nil, Nat.reduceAdd, Nat.reduceSub, Array.replicate_succ, Array.replicate_zero, List.push_toArray, List.append_toArray, List.nil_append, List.cons_append]
  refine wpIn_wide.2 ?_
  go_wp2_with fail
  refine wp_loop (fun a' w' => ∃ (ds : List Deferred) (u0 u1 u4 u5 u6 u7 u8 u9 u10 u11 u12 u13 u14 u15 u16 u17 u18 u19 u20 u21 u22 u23 u24 u25 u26 u27 u28 u29 u30 u31 u32 u33 u34 u35 u36 u37 u38 u39 u40 u41 u42 u43 u44 u45 u46 u47 u48 u49 u50 u51 u52 u53 u54 u55 u56 u57 u58 u59 u60 u61 u62 u63 u64 u65 u66 u67 u68 : Value), DecI B w res u0 u4 ds w' ∧ a' = { tmps := #[u0, u1, .slice none 0 0, .int .i64 0, u4, u5, u6, u7, u8, u9, u10, u11, u12, u13, u14, u15, u16, u17, u18, u19, u20, u21, u22, u23, u24, u25, u26, u27, u28, u29, u30, u31, u32, u33, u34, u35, u36, u37, u38, u39, u40, u41, u42, u43, u44, u45, u46, u47, u48, u49, u50, u51, u52, u53, u54, u55, u56, u57, u58, u59, u60, u61, u62, u63, u64, u65, u66, u67, u68], defers := ds }) (fun a' _ => slLen (a'.tmps.getD 0 undef)) ?_ ?_
  · refine ⟨[], .slice A b.length c, undef, .slice none 0 0, undef, undef, undef, undef, undef, undef, undef, undef, undef, undef, undef, undef, undef, undef, undef, undef, undef, undef, undef, undef, undef, undef, undef, undef, undef, undef, undef, undef, undef, undef, undef, undef, undef, undef, undef, undef, undef, undef, undef, undef, undef, undef, undef, undef, undef, undef, undef, undef, undef, undef, undef, undef, undef, undef, undef, undef, undef, undef, undef, undef, undef, undef, undef, undef, ⟨b, [], A, b.length, c, none, 0, 0, rfl, rfl, hn, by omega, rfl, Hl, ⟨[], rfl, rfl, World.ownsRow_nil _ _ _ _, fun _ h => by cases h⟩, (show _ = _ from by rw [Hres.out]; cases decP b <;> rfl), Below.refl _ _, Marked.nil _ _⟩, rfl⟩
  · rintro _ wr ⟨ds, _, u1, _, u5, u6, u7, u8, u9, u10, u11, u12, u13, u14, u15, u16, u17, u18, u19, u20, u21, u22, u23, u24, u25, u26, u27, u28, u29, u30, u31, u32, u33, u34, u35, u36, u37, u38, u39, u40, u41, u42, u43, u44, u45, u46, u47, u48, u49, u50, u51, u52, u53, u54, u55, u56, u57, u58, u59, u60, u61, u62, u63, u64, u65, u66, u67, u68, ⟨r, acc, A1, n, c1, A2, m, c2, rfl, rfl, hn1, hm1, hnr, hsl, hgot, hst, hbe, hmk⟩, rfl⟩
    by_cases h0 : n = 0
    · have h0i : ¬ (0 : Int) < n := by omega
      have Hr := Lib.hid (show res = some acc from by
        have : decP r = some [] := by rw [decP_eq, if_pos (by rw [← hnr.out]; exact h0)]
        rw [hst.out, this]; simp)
      go_wp2_with fail
      have hBw := HB.out
      subst hBw
      refine leaves_marked (fun W => results_tmp2 rfl _ _ W) hmk.out (fun W' hW' => ?_)
      rw [Hr.out]
      exact ⟨hbe.out.trans hW'.below, _, rfl, hgot.out.shut hW'⟩
    · have h0i : (0 : Int) < n := by omega
      by_cases h4 : n < 4
      · have h4i : (n : Int) < 4 := by omega
        have Hr := Lib.hid (show res = none from by
          have : decP r = none := by rw [decP_eq, if_neg (by rw [← hnr.out]; exact h0), if_pos (by rw [← hnr.out]; exact h4)]
          rw [hst.out, this]; rfl)
        go_wp2_with fail
        have hBw := HB.out
        subst hBw
        refine leaves_marked (fun W => results_tmp2 rfl _ _ W) hmk.out (fun W' hW' => ?_)
        rw [Hr.out]
        exact ⟨hbe.out.trans hW'.below, rfl⟩
      · have h4i : ¬ (n : Int) < 4 := by omega
        have hg : ∀ j, j < 4 → (u8s r)[j]? = some (.int .u8 (b8 (r.getD j 0))) := fun j hj => by
          have : j < r.length := by have := hnr.out; omega
          simp [u8s, this]
        obtain ⟨A3, c3, e3, hc3, hr3⟩ := hsl.out
        simp only [Value.slice.injEq] at e3
        obtain ⟨rfl, hx3, rfl⟩ := e3
        rw [← hnr.out] at hc3
        clear hx3
        obtain ⟨bb, o, rfl, hbb, g0⟩ := hr3.at_ (hg 0 (by omega))
        obtain ⟨b1, o1, e1, _, g1⟩ := hr3.at_ (hg 1 (by omega))
        cases e1
        obtain ⟨b1, o1, e1, _, g2⟩ := hr3.at_ (hg 2 (by omega))
        cases e1
        obtain ⟨b1, o1, e1, _, g3⟩ := hr3.at_ (hg 3 (by omega))
        cases e1
        have Hr3 := Lib.hid hr3; clear hr3 hg
        rw [Nat.add_zero] at g0
        have hor := or_shift (r.getD 2 0) (r.getD 3 0)
        have hbr := b8_range (r.getD 0 0)
        have hbr2 := b8_range (r.getD 2 0)
        have hbr3 := b8_range (r.getD 3 0)
        obtain ⟨bg, hbg⟩ : ∃ bg : Nat, bg = wdBegin r := ⟨_, rfl⟩
        obtain ⟨en, hen⟩ : ∃ en : Nat, en = wdEnd r := ⟨_, rfl⟩
        obtain ⟨q, hq⟩ : ∃ q : Nat, q = (r.getD 2 0).toNat + 256 * (r.getD 3 0).toNat := ⟨_, rfl⟩
        have hbgi : (4 : Int) + b8 (r.getD 0 0) = bg := by rw [hbg]; unfold wdBegin b8; omega
        have heni : (bg : Int) + 4 * q = en := by rw [hen, hbg, hq]; unfold wdEnd; omega
        rw [← hq] at hor
        have hqb : q ≤ 65535 := by have := (r.getD 2 0).toNat_lt; have := (r.getD 3 0).toNat_lt; omega
        have hbgb : bg ≤ 259 := by omega
        have hw1 : IntKind.i64.wrap ((bg : Int) + 4 * q) = en := by rw [heni, IntKind.wrap_i64]; omega
        have hw2 : IntKind.i64.wrap (4 * (q : Int)) = 4 * q := by rw [IntKind.wrap_i64]; omega
        have hw3 : IntKind.i64.wrap (b8 (r.getD 3 0) * 256) = b8 (r.getD 3 0) * 256 := by rw [IntKind.wrap_i64]; omega
        have Hbg := Lib.hid hbg
        have Hen := Lib.hid hen
        have Hq := Lib.hid hq
        have Heni := Lib.hid heni
        clear hq hbg hen heni
        generalize hR0 : r.getD 0 0 = r0 at *
        generalize hR1 : r.getD 1 0 = r1 at *
        generalize hR2 : r.getD 2 0 = r2 at *
        generalize hR3 : r.getD 3 0 = r3 at *
        go_wp2_with fail
        go_quiet (fail)
        have hbd : Below wr.heap.size wr (wr.drewN nq) := Go.Ls.below_drewN (Below.refl _ _) nq
        have Hsl1 := Lib.hid (show Sl8 (fun b => b < B) (wr.drewN nq) (.slice (some ⟨bb, o, none⟩) n c1) r from Sl.below hsl.out hbd)
        have Hgot1 := Lib.hid (hgot.out.below hbd)
        have Hbe1 := Lib.hid (Go.Ls.below_drewN hbe.out nq)
        have Hmk1 := Lib.hid (hmk.out.below hbd)
        have g1' : (wr.drewN nq).cell? ⟨bb, o + 1, none⟩ = some (.int .u8 (b8 r1)) := (World.cell?_of_block rfl).trans g1
        clear g0 g1 g2 g3 hbd hsl hgot hbe hmk Hr3
        generalize wr.drewN nq = w1 at *
        by_cases h5 : n < en
        · have Hr := Lib.hid (show res = none from by
            have : decP r = none := by rw [decP_eq, if_neg (by rw [← hnr.out]; exact h0), if_neg (by rw [← hnr.out]; exact h4), if_pos (by rw [← hnr.out, ← Hen.out]; exact h5)]
            rw [hst.out, this]; rfl)
          have h5i : (n : Int) < en := by omega
          go_wp2_with fail
          have hBw := HB.out
          subst hBw
          refine leaves_marked (fun W => results_tmp2 rfl _ _ W) Hmk1.out (fun W' hW' => ?_)
          rw [Hr.out]
          exact ⟨Hbe1.out.trans hW'.below, rfl⟩
        · have h5i : ¬ (n : Int) < en := by omega
          have hbe2 : bg ≤ en := by have := Heni.out; omega
          have hbgn : bg ≤ n := by omega
          have hbg4 : 4 ≤ bg := by omega
          obtain ⟨name, hname⟩ : ∃ name, name = (r.take bg).drop 4 := ⟨_, rfl⟩
          have hnlen : name.length = bg - 4 := by rw [hname, List.length_drop, List.length_take, ← hnr.out]; omega
          obtain ⟨X, hX, hX2⟩ : ∃ X : Addr, (if c1 = 4 then some (⟨bb, o, none⟩ : Addr) else some ⟨bb, o + 4, none⟩) = some X ∧ (0 < name.length → X = ⟨bb, o + 4, none⟩) := by
            by_cases e : c1 = 4
            · exact ⟨⟨bb, o, none⟩, if_pos e, fun h => by omega⟩
            · exact ⟨⟨bb, o + 4, none⟩, if_neg e, fun _ => rfl⟩
          obtain ⟨nl, hnl⟩ : ∃ nl, nl = name.length := ⟨_, rfl⟩
          have hsl9 : ∀ W, (Instr.slice 27 (.slice (some ⟨bb, o, none⟩) n c1) (some (.int .i64 4)) (some (.int .i64 bg)) none).run Try.prog W = .ok (.slice (some X) nl (c1 - 4)) W := fun W => by
            rw [run_slice_lh W 27 _ _ _ Try.underlying27 .i64 .i64 4 bg (by omega) (by omega) (by omega), ← hX, hnl, hnlen]
            simp [sliced, Result.andThen, Program.elem, Try.underlying27, Try.sizeOf5, addr_add]
          have hcv : ∀ W, Below w1.heap.size w1 W → (convert 27 9 (.slice (some X) nl (c1 - 4))).run Try.prog W = .ok (str name) W := fun W hW => by
            rw [hnl]
            refine run_convert_bytes_back W 27 9 5 X (c1 - 4) name Try.underlying27 Try.underlying5 Try.underlying9 (fun j hj => ?_)
            rw [hX2 (by omega), addr_add]
            obtain ⟨A3, c3, e3, _, hr3⟩ := Sl.below Hsl1.out hW
            simp only [Value.slice.injEq] at e3
            obtain ⟨rfl, _, rfl⟩ := e3
            have hv : (u8s r)[4 + j]? = some (.int .u8 (b8 name[j])) := by
              simp only [hname, u8s, List.getElem?_map, List.getElem_drop, List.getElem_take]
              rw [List.getElem?_eq_getElem]
              rfl
            obtain ⟨b1, o1, e1, _, hc⟩ := hr3.at_ hv
            cases e1
            rw [← Nat.add_assoc] at hc
            exact hc
          have hV1 : Below w1.heap.size w1 w1.drew := ⟨rfl, rfl, rfl, Nat.le_refl _, fun _ _ => rfl⟩
          have hV2 : Below w1.heap.size w1 (w1.alloc (.cells #[.string ⟨#[]⟩, .int .u8 0, .slice none 0 0] 25)).drew := by
            have := (Below.refl w1.heap.size w1).alloc (Nat.le_refl _) (.cells #[.string ⟨#[]⟩, .int .u8 0, .slice none 0 0] 25)
            exact ⟨this.os, this.tape, this.output, this.size, this.block⟩
          have hcv1 := hcv _ hV1
          have hcv2 := hcv _ hV2
          have hbb2 : bb < w1.heap.size := World.block_lt_of_cell? w1 _ g1'
          have g1d : w1.drew.cell? ⟨bb, o + 1, none⟩ = some (.int .u8 (b8 r1)) := g1'
          have g1e : (w1.alloc (.cells #[.string ⟨#[]⟩, .int .u8 0, .slice none 0 0] 25)).drew.cell? ⟨bb, o + 1, none⟩ = some (.int .u8 (b8 r1)) := (hV2.cell (p := ⟨bb, o + 1, none⟩) hbb2).trans g1'
          have Hname := Lib.hid hname
          have Hnlen := Lib.hid hnlen
          have Hnl := Lib.hid hnl
          have HX := Lib.hid hX
          clear hname hnlen hnl hX hX2 hcv hV1 hV2
          obtain ⟨bs, hbs⟩ : ∃ bs, str name = .string bs := ⟨_, rfl⟩
          rw [hbs] at hcv1 hcv2
          have Hbs := Lib.hid hbs; clear hbs
          have h1i : (1 : Int) < n := by omega
          have h1n : 1 < n := by omega
          go_wp2_with fail
          apply wp_cut
          case h =>
            go_region
            all_goals exact ⟨rfl, rfl⟩
          have hBx := Blk.new w1 25 #[.string bs, .int .u8 (b8 r1), .slice none 0 0]
          have hBx2 : Blk (w1.alloc (.cells #[.string bs, .int .u8 (b8 r1), .slice none 0 0] 25)).drew w1.heap.size 25 #[.string bs, .int .u8 (b8 r1), .slice none 0 0] := hBx
          have hb12 : Below w1.heap.size w1 (w1.alloc (.cells #[.string bs, .int .u8 (b8 r1), .slice none 0 0] 25)).drew := by
            have := (Below.refl w1.heap.size w1).alloc (Nat.le_refl _) (.cells #[.string bs, .int .u8 (b8 r1), .slice none 0 0] 25)
            exact ⟨this.os, this.tape, this.output, this.size, this.block⟩
          have hs12 : w1.heap.size < (w1.alloc (.cells #[.string bs, .int .u8 (b8 r1), .slice none 0 0] 25)).drew.heap.size := by
            show w1.heap.size < (w1.alloc _).heap.size
            simp
          obtain ⟨Bw, hBw⟩ : ∃ Bw, Bw = w1.heap.size := ⟨_, rfl⟩
          rw [← hBw] at hBx2 hs12 ⊢
          generalize (w1.alloc (.cells #[.string bs, .int .u8 (b8 r1), .slice none 0 0] 25)).drew = w2 at *
          have HBw := Lib.hid hBw; clear hBw hBx
          obtain ⟨cb, hcb⟩ : ∃ cb, cb = (r.take en).drop bg := ⟨_, rfl⟩
          have hcbl : cb.length = en - bg := by rw [hcb, List.length_drop, List.length_take, ← hnr.out]; omega
          obtain ⟨cn, hcn⟩ : ∃ cn, cn = cb.length := ⟨_, rfl⟩
          obtain ⟨Y, hY⟩ : ∃ Y, Y = (if c1 = bg then some (⟨bb, o, none⟩ : Addr) else some ⟨bb, o + bg, none⟩) := ⟨_, rfl⟩
          have hsl10 : ∀ W, (Instr.slice 27 (.slice (some ⟨bb, o, none⟩) n c1) (some (.int .i64 bg)) (some (.int .i64 en)) none).run Try.prog W = .ok (.slice Y cn (c1 - bg)) W := fun W => by
            rw [run_slice_lh W 27 _ _ _ Try.underlying27 .i64 .i64 bg en (by omega) (by omega) (by omega), hY, hcn, hcbl]
            simp [sliced, Result.andThen, Program.elem, Try.underlying27, Try.sizeOf5, addr_add]
          have hcbs : Sl8 (fun b => b < B) w2 (.slice Y cn (c1 - bg)) cb := by
            refine ⟨Y, c1 - bg, by rw [hcn], by rw [hcbl]; omega, fun hp => ?_⟩
            rw [u8s_length, hcbl] at hp
            obtain ⟨A3, c3, e3, _, hr3⟩ := Sl.below Hsl1.out hb12
            simp only [Value.slice.injEq] at e3
            obtain ⟨rfl, _, rfl⟩ := e3
            have h2 := (hr3.take en).drop bg
            rw [show ((u8s r).take en).drop bg = u8s cb by simp [u8s, hcb, List.map_drop, List.map_take]] at h2
            rw [hY, if_neg (by omega)]
            rw [show (some (⟨bb, o, none⟩ : Addr)).map (·.add bg) = some ⟨bb, o + bg, none⟩ by simp [addr_add]] at h2
            exact h2 (by rw [u8s_length, hcbl]; exact hp)
          have hc4 : cb.length % 4 = 0 := by have := Heni.out; omega
          have hcbb : cb.length ≤ 1099511627776 := by omega
          have hcb6 : cb.length ≤ 1000000 := by omega
          have Hcb := Lib.hid hcb
          have Hcbl := Lib.hid hcbl
          have Hcn := Lib.hid hcn
          have Hcbs := Lib.hid hcbs
          have CH := chunk_make Y cn (c1 - bg) w2
          clear hcb hcbl hcn hcbs hY g1' g1d g1e hcv1 hcv2 hsl9
          go_wp2_with fail
          refine CH.mono ?_
          rintro e w3 ⟨rfl, hw3⟩
          have hbx3 : Blk w3 w2.heap.size 27 #[.slice Y cn (c1 - bg)] := by rw [hw3]; exact (Blk.new w2 _ _).alloc _
          have hbn3 : Blk w3 (w2.heap.size + 1) 3 #[.int .i64 4] := by
            have := Blk.new (w2.alloc (.cells #[.slice Y cn (c1 - bg)] 27)) 3 #[.int .i64 4]
            rw [World.size_alloc] at this
            rw [hw3]; exact this
          have hb23 : Below w2.heap.size w2 w3 := by rw [hw3]; exact ((Below.refl _ w2).alloc (Nat.le_refl _) _).alloc (by simp) _
          clear hw3 CH
          obtain ⟨k2, hk2⟩ : ∃ k2, k2 = w2.heap.size := ⟨_, rfl⟩
          rw [← hk2] at hbx3 hbn3 ⊢
          have Hk2 := Lib.hid hk2; clear hk2
          have Hbx3 := Lib.hid hbx3
          have Hbn3 := Lib.hid hbn3
          have Hb23 := Lib.hid hb23
          have Hb12 := Lib.hid hb12
          have HBx2 := Lib.hid hBx2
          clear hbx3 hbn3 hb23 hb12 hBx2
          go_wp2_with fail
          have hBB : B ≤ Bw := by have h1 := Hbe1.out.size; have h2 := HB.out; have h3 := HBw.out; omega
          have hB3 : Bw ≤ w3.heap.size := by have h1 := HBx2.out.lt; have h2 := Hb23.out.size; omega
          have HI0 := Lib.hid (show CodeI w1 Bw (.string bs) (.int .u8 (b8 r1)) [] w3 from ⟨_, HBx2.out.below Hb23.out HBx2.out.lt, World.ownsRow_nil _ _ _ _, by
            have h1 := Hb12.out
            rw [← HBw.out] at h1
            exact h1.trans (Hb23.out.mono (Nat.le_of_lt HBx2.out.lt))⟩)
          have Hmk3 := Lib.hid (show Marked B ds w3 from (Hmk1.out.below Hb12.out).below Hb23.out)
          refine wpIn_wide.1 (range_seq (n := 6) (F := Fence.wide) rfl (by omega) (gf := 101) (lb := #[.pointer (some ⟨k2, 0, none⟩), .pointer (some ⟨k2 + 1, 0, none⟩)]) rfl trivial (enters_of Try.func101 (by kernel_rfl) rfl)
            (chunk1 (Sb := fun b => b < B) (6 - 1) k2 (k2 + 1) (.slice Y cn (c1 - bg)) cb B w3 (Sl.below Hcbs.out Hb23.out) (fun k h => h) hcbb hc4 Hbx3.out Hbn3.out) (Nat.le_trans hBB hB3) (Below.refl _ _) (fun _ => rfl)
            (CodeI w1 Bw (.string bs) (.int .u8 (b8 r1))) ?hIb ?hIp
            (CodeY B w1 Bw (.string bs) (.int .u8 (b8 r1)) cb fun x => #[Value.slice (some ⟨bb, o, none⟩) n c1, u1, Value.slice none 0 0, Value.int IntKind.i64 0, Value.slice A2 m c2, Value.int IntKind.i64 (bg : Int), Value.int IntKind.i64 (en : Int), Value.pointer (some ⟨Bw, 0, none⟩), x.1, Value.slice (some ⟨bb, o, none⟩) n c1, Value.int IntKind.i64 (n : Int), Value.bool true, Value.slice (some ⟨bb, o, none⟩) n c1, Value.int IntKind.i64 (n : Int), Value.bool false, Value.slice (some ⟨bb, o, none⟩) n c1, Value.pointer (some ⟨bb, o, none⟩), Value.int IntKind.u8 (b8 r0), Value.int IntKind.i64 (b8 r0), Value.int IntKind.i64 (bg : Int), Value.int IntKind.i64 (bg : Int), Value.slice (some ⟨bb, o, none⟩) n c1, Value.pointer (some ⟨bb, o + 2, none⟩), Value.int IntKind.u8 (b8 r2), Value.int IntKind.i64 (b8 r2), Value.slice (some ⟨bb, o, none⟩) n c1, Value.pointer (some ⟨bb, o + 3, none⟩), Value.int IntKind.u8 (b8 r3), Value.int IntKind.i64 (b8 r3), Value.int IntKind.i64 (b8 r3 * 256), Value.int IntKind.i64 (q : Int), Value.int IntKind.i64 (4 * (q : Int)), Value.int IntKind.i64 (en : Int), Value.slice (some ⟨bb, o, none⟩) n c1, Value.int IntKind.i64 (n : Int), Value.int IntKind.i64 (en : Int), Value.bool false, Value.slice (some ⟨bb, o, none⟩) n c1, Value.int IntKind.i64 (bg : Int), Value.slice (some X) nl (c1 - 4), Value.string bs, Value.slice (some ⟨bb, o, none⟩) n c1, Value.pointer (some ⟨bb, o + 1, none⟩), Value.int IntKind.u8 (b8 r1), Value.agg #[Value.string bs, Value.int IntKind.u8 (b8 r1), Value.slice none 0 0], Value.slice (some ⟨bb, o, none⟩) n c1, Value.int IntKind.i64 (bg : Int), Value.int IntKind.i64 (en : Int), Value.slice Y cn (c1 - bg), Value.func (Fn.func 101) #[] #[Value.pointer (some ⟨k2, 0, none⟩), Value.pointer (some ⟨k2 + 1, 0, none⟩)], x.1, u51, u52, u53, u54, u55, u56, u57, u58, u59, u60, u61, u62, u63, u64, u65, u66, u67, u68]) ?hYp ?hSp ?h0 ?assign ?body ?done)
          case hIb => intro s A A' h hb; exact h.below hb
          case hIp => intro s A l o o' h hB4 hl ho; exact h.put (Nat.le_trans hB3 hB4) hl ho
          case hYp =>
            rintro M s x a' A l o o' ⟨cV, h1, h2, h3, h4, h5, h6, h7⟩ hB4 hl ho
            exact ⟨cV, blk_put h1 hl ho, ownsRow_putObj h2 _ hl ho, h3.trans (putObj_below (Nat.le_trans hB3 hB4)), h4, h5, chX_put h6 (fun b hb => by omega), h7⟩
          case hSp => intro s A l o o' h _ _ _; exact h
          case h0 => exact HI0.out
          case assign =>
            rintro l pre x A0 W K hx hi hbe hK
            have hi2 := hi
            obtain ⟨cV, h1, h2, h3⟩ := hi2
            have hwW : B ≤ W.heap.size := by have h7 := h1.lt; have h8 := hbe.size; omega
            have HK := Lib.hid (hK _ W (keeps_of_below (Below.refl _ _)) (keep_of_below (Below.refl _ _) hwW) (mid_of_below (Below.refl _ _)) ⟨cV, h1.below hbe h1.lt, own_below h2 hbe, h3.trans (hbe.mono (Nat.le_of_lt h1.lt)), fun g hg => (own_lt h2 g hg).1, h1.lt, hx, rfl⟩)
            gi_wp2_with fail
            exact HK.out
          case body =>
            rintro M l pre x a' W ⟨cV, h1, h2, h3, h4, h5, h6, rfl⟩
            obtain ⟨xv, xl⟩ := x
            obtain ⟨hxs, hx4, hxp⟩ := h6
            obtain ⟨y0, y1, y2, y3, rfl⟩ := list4 hx4
            simp only at hxs hxp
            have CC := image_cell xv y0 y1 y2 y3 W.drew (Sl.keep hxs fun _ _ _ => rfl)
            have CS := fun nq => code_step (B := B) (D := w3.heap.size) (x := (xv, [y0, y1, y2, y3])) nq hBB h1 h2 h3 h4 h5 (by omega) (cell4 y0 y1 y2 y3) rfl
            have hc2 : W.drew.cell? ⟨Bw, 2, none⟩ = some cV := (World.cell?_of_block rfl).trans (h1.cellv (j := 2) rfl)
            have hlB := h1.lt
            have hcn : ∀ m, (W.drewN m).cell? ⟨Bw, 2, none⟩ = some cV := fun m => (World.cell?_of_block rfl).trans (h1.cellv (j := 2) rfl)
            have hca : ∀ m o, ((W.drewN m).alloc o).cell? ⟨Bw, 2, none⟩ = some cV := fun m o => (World.cell?_of_block (Below.heap_alloc (W.drewN m) o Bw h1.lt)).trans (hcn m)
            clear hxs hx4 hxp h1 h2 h3 h4 h5
            gi_wp2_with fail
            refine region_round (by kernel_rfl) (by kernel_rfl) (fun ⟨_, _, h⟩ => h) ?_
            refine wpAny_take (i := 0) (v := .pointer (some ⟨Bw, 2, none⟩)) rfl (by kernel_rfl) (by kernel_rfl) (by kernel_rfl) (fun _ _ _ h => h) (Or.inl ⟨by rfl, fun w => by go_simp⟩) ?_
            refine wpAny_take (i := 2) (v := xv) rfl (by kernel_rfl) (by kernel_rfl) (by kernel_rfl) (fun _ _ _ h => h) (Or.inl ⟨by rfl, fun w => by go_simp⟩) ?_
            refine wpAny_ready (rs := [1, 3]) (by kernel_rfl) (by simp) ?_
            refine AllReady.cons rfl (fun K hK => ?_) (AllReady.cons rfl (fun K hK => ?_) AllReady.nil)
            · skip
              go_simp
              refine hK _ _ ?_
              clear hK K
              refine wpAny_ready (rs := [3]) (by kernel_rfl) (by simp) ?_
              refine AllReady.cons rfl (fun K hK => ?_) AllReady.nil
              go_simp
              refine CC.mono ?_
              rintro e w' ⟨rfl, nq, rfl⟩
              refine hK _ _ ?_
              clear hK K
              obtain ⟨A5, c5, w5, hrun, hcw5, hfw5, e1, e2, e3, e4⟩ := CS nq
              rw [World.drewN_drew] at hrun
              have Hrun := Lib.hid hrun
              have E1 := Lib.hid e1
              have E2 := Lib.hid e2
              have E3 := Lib.hid e3
              have E4 := Lib.hid e4
              clear hrun e1 e2 e3 e4 CS CC
              refine wpAny_ready (rs := [4]) (by kernel_rfl) (by simp) ?_
              refine AllReady.cons rfl (fun K hK => ?_) AllReady.nil
              go_simp
              refine hK _ _ ?_
              clear hK K
              refine wpAny_ready (rs := [5]) (by kernel_rfl) (by simp) ?_
              refine AllReady.cons rfl (fun K hK => ?_) AllReady.nil
              refine step_append_eq rfl (.tmp 52) (.tmp 55) 23 23 rfl _ _ rfl rfl Hrun.out ?_
              refine hK _ _ ?_
              clear hK K
              refine wpAny_ready (rs := [6]) (by kernel_rfl) (by simp) ?_
              refine AllReady.cons rfl (fun K hK => ?_) AllReady.nil
              go_simp
              refine hK _ _ ?_
              clear hK K
              refine wpAny_ready (rs := [7]) (by kernel_rfl) (by simp) ?_
              refine AllReady.cons rfl (fun K hK => ?_) AllReady.nil
              go_simp
              refine hK _ _ ?_
              clear hK K
              refine wpAny_done (by kernel_rfl) ?_ _
              exact ⟨E1.out, E2.out, E3.out, E4.out⟩
            · skip
              go_simp
              refine CC.mono ?_
              rintro e w' ⟨rfl, nq, rfl⟩
              refine hK _ _ ?_
              clear hK K
              obtain ⟨A5, c5, w5, hrun, hcw5, hfw5, e1, e2, e3, e4⟩ := CS nq
              rw [World.drewN_drew] at hrun
              have Hrun := Lib.hid hrun
              have E1 := Lib.hid e1
              have E2 := Lib.hid e2
              have E3 := Lib.hid e3
              have E4 := Lib.hid e4
              clear hrun e1 e2 e3 e4 CS CC
              refine wpAny_ready (rs := [1, 4]) (by kernel_rfl) (by simp) ?_
              refine AllReady.cons rfl (fun K hK => ?_) (AllReady.cons rfl (fun K hK => ?_) AllReady.nil)
              · skip
                go_simp
                refine hK _ _ ?_
                clear hK K
                refine wpAny_ready (rs := [4]) (by kernel_rfl) (by simp) ?_
                refine AllReady.cons rfl (fun K hK => ?_) AllReady.nil
                go_simp
                refine hK _ _ ?_
                clear hK K
                refine wpAny_ready (rs := [5]) (by kernel_rfl) (by simp) ?_
                refine AllReady.cons rfl (fun K hK => ?_) AllReady.nil
                refine step_append_eq rfl (.tmp 52) (.tmp 55) 23 23 rfl _ _ rfl rfl Hrun.out ?_
                refine hK _ _ ?_
                clear hK K
                refine wpAny_ready (rs := [6]) (by kernel_rfl) (by simp) ?_
                refine AllReady.cons rfl (fun K hK => ?_) AllReady.nil
                go_simp
                refine hK _ _ ?_
                clear hK K
                refine wpAny_ready (rs := [7]) (by kernel_rfl) (by simp) ?_
                refine AllReady.cons rfl (fun K hK => ?_) AllReady.nil
                go_simp
                refine hK _ _ ?_
                clear hK K
                refine wpAny_done (by kernel_rfl) ?_ _
                exact ⟨E1.out, E2.out, E3.out, E4.out⟩
              · skip
                go_simp
                refine hK _ _ ?_
                clear hK K
                refine wpAny_ready (rs := [1]) (by kernel_rfl) (by simp) ?_
                refine AllReady.cons rfl (fun K hK => ?_) AllReady.nil
                go_simp
                refine hK _ _ ?_
                clear hK K
                refine wpAny_ready (rs := [5]) (by kernel_rfl) (by simp) ?_
                refine AllReady.cons rfl (fun K hK => ?_) AllReady.nil
                refine step_append_eq rfl (.tmp 52) (.tmp 55) 23 23 rfl _ _ rfl rfl Hrun.out ?_
                refine hK _ _ ?_
                clear hK K
                refine wpAny_ready (rs := [6]) (by kernel_rfl) (by simp) ?_
                refine AllReady.cons rfl (fun K hK => ?_) AllReady.nil
                go_simp
                refine hK _ _ ?_
                clear hK K
                refine wpAny_ready (rs := [7]) (by kernel_rfl) (by simp) ?_
                refine AllReady.cons rfl (fun K hK => ?_) AllReady.nil
                go_simp
                refine hK _ _ ?_
                clear hK K
                refine wpAny_done (by kernel_rfl) ?_ _
                exact ⟨E1.out, E2.out, E3.out, E4.out⟩
          case done =>
            rintro D xs W hD hS ⟨cV, h1, h2, h3⟩ hK
            have hcells : xs.map (fun x => cellL x.2) = cellsP cb := by
              have : xs.map (fun x => cellL x.2) = (xs.map (·.2)).map cellL := by simp
              rw [this, show xs.map (·.2) = fours cb from hS]; rfl
            have hxl : xs.length = (cellsP cb).length := by rw [← hcells, List.length_map]
            rw [hcells, hxl] at h2
            have hwd : wdOf r = ⟨name, r1, cellsP cb⟩ := by unfold wdOf; rw [← Hbg.out, ← Hen.out, ← Hcb.out, ← Hname.out, hR1]
            obtain ⟨cd, hcd⟩ : ∃ cd, cd = cellsP cb := ⟨_, rfl⟩
            rw [← hcd] at h2 hwd
            have hcdn : cd.length ≤ 1000000 := by rw [hcd]; unfold cellsP fours; simp; omega
            have Hcd := Lib.hid hcd; clear hcd
            have hBw2 := HBw.out
            have hbW : Below w1.heap.size w1 W := by rw [← hBw2]; exact h3
            have HmkW := Lib.hid (show Marked B (markOf D :: ds) W from Hmk1.out.cons hbW (by rw [← hBw2]; omega) (by omega) hK)
            have HgotW := Lib.hid (Hgot1.out.below hbW)
            have HslW := Lib.hid (Sl.below Hsl1.out hbW)
            have HbeW := Lib.hid (Hbe1.out.trans (hbW.mono (by rw [← hBw2]; exact hBB)))
            obtain ⟨A6, c6, rfl, hc6, hr6⟩ := own_row h2
            have HownW := Lib.hid (own_lower h2 hBB)
            have hWd : WdAt (fun b => Bw ≤ b) W (.agg #[.string bs, .int .u8 (b8 r1), .slice A6 cd.length c6]) (wdOf r) := ⟨_, by rw [hwd]; unfold wdV; rw [Hbs.out], by rw [hwd]; exact ⟨A6, c6, rfl, hc6, hr6⟩⟩
            have RI := image_right _ _ W hWd
            have q0 := h1.cellv (j := 0) rfl
            have q1 := h1.cellv (j := 1) rfl
            have q2 := h1.cellv (j := 2) rfl
            simp only [List.getElem_toArray, List.getElem_cons_zero, List.getElem_cons_succ] at q0 q1 q2
            have hBWs : B ≤ W.heap.size := by have := h1.lt; omega
            have H1 := Lib.hid h1
            have Hwd := Lib.hid hwd
            have hdec : decP r = if (wdOf r).right then (decP (r.drop en)).map (wdOf r :: ·) else none := by
              rw [decP_eq, if_neg (by rw [← hnr.out]; exact h0), if_neg (by rw [← hnr.out]; exact h4), if_neg (by rw [← hnr.out, ← Hen.out]; exact h5), ← Hen.out]
            obtain ⟨rt, hrt⟩ : ∃ rt, rt = (wdOf r).right := ⟨_, rfl⟩
            rw [← hrt] at RI hdec
            have Hdec := Lib.hid hdec
            clear hdec hrt hwd h1 h2 h3 hK hbW hWd hr6 hcells hxl hS hBw2
            dsimp only
            cases rt with
            | false =>
              have Hr := Lib.hid (show res = none from by rw [hst.out, Hdec.out]; rfl)
              go_wp2_with fail
              refine RI.mono ?_
              rintro e w5 ⟨rfl, hb5⟩
              have Hb5 := Lib.hid hb5; clear hb5
              go_wp2_with fail
              have hBw := HB.out
              subst hBw
              refine leaves_marked (fun W => results_tmp2 rfl _ _ W) (HmkW.out.below Hb5.out) (fun W' hW' => ?_)
              rw [Hr.out]
              exact ⟨(HbeW.out.trans (Hb5.out.mono hBWs)).trans hW'.below, rfl⟩
            | true =>
              have Hst2 := Lib.hid (show res = (decP (r.drop en)).map (acc ++ [wdOf r] ++ ·) from by
                rw [hst.out, Hdec.out, if_pos rfl]
                cases decP (r.drop en) <;> simp)
              have hen4 : 4 ≤ en := by omega
              go_wp2_with fail
              refine RI.mono ?_
              rintro e w5 ⟨rfl, hb5⟩
              have H5 := Lib.hid (H1.out.below hb5 H1.out.lt)
              have Hmk5 := Lib.hid (HmkW.out.below hb5)
              have Hgot5 := Lib.hid (HgotW.out.below hb5)
              have Hsl5 := Lib.hid (Sl.below HslW.out hb5)
              have Hbe5 := Lib.hid (HbeW.out.trans (hb5.mono hBWs))
              have Hown5 := Lib.hid (own_below HownW.out hb5)
              clear hb5 q0 q1 q2
              have q0 := H5.out.cellv (j := 0) rfl
              have q1 := H5.out.cellv (j := 1) rfl
              have q2 := H5.out.cellv (j := 2) rfl
              simp only [List.getElem_toArray, List.getElem_cons_zero, List.getElem_cons_succ] at q0 q1 q2
              have q0d : w5.drew.cell? ⟨Bw, 0, none⟩ = _ := (World.cell?_of_block rfl).trans q0
              have q1d : w5.drew.cell? ⟨Bw, 1, none⟩ = _ := (World.cell?_of_block rfl).trans q1
              have q2d : w5.drew.cell? ⟨Bw, 2, none⟩ = _ := (World.cell?_of_block rfl).trans q2
              have hbV : Below w5.heap.size w5 (w5.drew.alloc (.cells #[.string bs, .int .u8 (b8 r1), .slice A6 cd.length c6] 25)) :=
                (⟨rfl, rfl, rfl, Nat.le_refl _, fun _ _ => rfl⟩ : Below w5.heap.size w5 w5.drew).alloc (Nat.le_refl _) _
              have hnewV : Blk (w5.drew.alloc (.cells #[.string bs, .int .u8 (b8 r1), .slice A6 cd.length c6] 25)) w5.heap.size 25 #[.string bs, .int .u8 (b8 r1), .slice A6 cd.length c6] := Blk.new w5.drew _ _
              have hBsz : B ≤ (w5.drew.alloc (.cells #[.string bs, .int .u8 (b8 r1), .slice A6 cd.length c6] 25)).heap.size := by have h7 := hbV.size; have h8 := H5.out.lt; omega
              obtain ⟨A7, c7, w6, hrun, hgot6, hmk6, hbe6, hsl6⟩ := word_step (wdOf r) bs r1 cd (.slice A6 cd.length c6) hbV hnewV hBsz Hgot5.out Hmk5.out Hown5.out Hbe5.out (by have h8 := H5.out.lt; omega) Hsl5.out (by rw [Hwd.out]; show [str name, _, _] = _; rw [Hbs.out]) (by rw [Hwd.out]) (by omega)
              have Hrun := Lib.hid hrun
              have Hgot6 := Lib.hid hgot6
              have Hmk6 := Lib.hid hmk6
              have Hbe6 := Lib.hid hbe6
              have Hsl6 := Lib.hid hsl6
              clear hrun hgot6 hmk6 hbe6 hsl6 hbV hnewV hBsz
              obtain ⟨Y2, hY2⟩ : ∃ Y2, Y2 = (if c1 = en then some (⟨bb, o, none⟩ : Addr) else some ⟨bb, o + en, none⟩) := ⟨_, rfl⟩
              obtain ⟨n2, hn2⟩ : ∃ n2, n2 = n - en := ⟨_, rfl⟩
              have hsl15 : ∀ W, (Instr.slice 27 (.slice (some ⟨bb, o, none⟩) n c1) (some (.int .i64 en)) none none).run Try.prog W = .ok (.slice Y2 n2 (c1 - en)) W := fun W => by
                rw [run_slice_l W 27 _ _ _ Try.underlying27 .i64 en (by omega) (by omega), hY2, hn2]
                simp [sliced, Result.andThen, Program.elem, Try.underlying27, Try.sizeOf5, addr_add]
              have Hsl7 := Lib.hid (show Sl8 (fun b => b < B) w6 (.slice Y2 n2 (c1 - en)) (r.drop en) from by
                obtain ⟨A8, c8, e8, hc8, hr8⟩ := Hsl6.out
                simp only [Value.slice.injEq] at e8
                obtain ⟨rfl, _, rfl⟩ := e8
                refine ⟨Y2, c1 - en, by rw [hn2, hnr.out, List.length_drop], by rw [List.length_drop, ← hnr.out]; omega, ?_⟩
                have h2 := hr8.drop_if en c1 (by rw [u8s_length]; exact hc8)
                rw [show (u8s r).drop en = u8s (r.drop en) by simp [u8s, List.map_drop]] at h2
                rw [hY2]
                rw [show (some (⟨bb, o, none⟩ : Addr)).map (·.add en) = some ⟨bb, o + en, none⟩ by simp [addr_add]] at h2
                exact h2)
              have Hn2 := Lib.hid hn2
              have Hlen2 := Lib.hid (show n2 = (r.drop en).length from by rw [hn2, List.length_drop, ← hnr.out])
              have hn2b : n2 ≤ 1000000 := by omega
              have hm2b : m + 1 ≤ 1000000 - n2 := by omega
              have Hms := Lib.hid (show n2 < n from by omega)
              clear hY2 hn2
              go_wp2_with fail
              apply wp_cut
              case h =>
                go_region_law (refine step_append_eq rfl (.tmp 61) (.tmp 63) 29 29 rfl _ _ (by simp [Act.eval]) (by simp [Act.eval]) Hrun.out ?_)
                all_goals exact ⟨rfl, rfl⟩
              go_simp
              refine ⟨⟨markOf D :: ds, .slice Y2 n2 (c1 - en), u1, .slice A7 (m + 1) c7, _, _, _, _, _, _, _, _, _, _, _, _, _, _, _, _, _, _, _, _, _, _, _, _, _, _, _, _, _, _, _, _, _, _, _, _, _, _, _, _, _, _, _, _, _, _, _, _, _, _, _, _, _, _, _, _, _, _, _, _, _, _, _, _, ⟨r.drop en, acc ++ [wdOf r], Y2, n2, c1 - en, A7, m + 1, c7, rfl, rfl, hn2b, hm2b, Hlen2, Hsl7, Hgot6, Hst2, Hbe6, Hmk6⟩, rfl⟩, ?_⟩
              exact Hms.out
end Go.Proofs.Ytmejngojpffcgaa
end

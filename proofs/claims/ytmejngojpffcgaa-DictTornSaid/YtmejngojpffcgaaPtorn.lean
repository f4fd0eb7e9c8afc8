/- What a torn append leaves, and what is appended behind it: plain laws on records, words and flashes, no program in sight. No condition beyond those each theorem names. -/
import Derived.Test.YtmejngojpffcgaaBegun
namespace Go.Ls
open Go.RowKit Go.Proofs.Ytmejngojpffcgaa
/-! ### Pieces -/
/-- Bytes that a scan takes for one record, whatever is behind them: a word's (some x), or none's. -/
structure Pc (p : List UInt8 × Option Wd) : Prop where
  mod : p.1.length % 4 = 0
  pos : 0 < p.1.length
  at_ : ∀ r, ∃ k pl, recAt (p.1 ++ r) = ⟨0, p.1.length, k, pl⟩ ∧ k ≠ 0 ∧ (match p.2 with | some x => k = 1 ∧ pl = x.bytes | none => k ≠ 1)
abbrev Pieces := List (List UInt8 × Option Wd)
def content (ps : Pieces) : List UInt8 := ps.flatMap (·.1)
def wordsOf (ps : Pieces) : List Wd := ps.filterMap (·.2)
def FitP (acc : List Wd) : Pieces → Prop
  | [] => True
  | (_, some x) :: ps => x.right = true ∧ withP acc x = true ∧ FitP (acc ++ [x]) ps
  | (_, none) :: ps => FitP acc ps
theorem FitP.snoc : ∀ (ps : Pieces) (acc : List Wd) (p : List UInt8) (x : Wd), FitP acc ps → x.right = true → withP (acc ++ wordsOf ps) x = true → FitP acc (ps ++ [(p, some x)])
  | [], acc, p, x, _, h1, h2 => ⟨h1, by simpa [wordsOf] using h2, trivial⟩
  | (q, some y) :: ps, acc, p, x, h, h1, h2 => ⟨h.1, h.2.1, FitP.snoc ps (acc ++ [y]) p x h.2.2 h1 (by simpa [wordsOf] using h2)⟩
  | (q, none) :: ps, acc, p, x, h, h1, h2 => FitP.snoc ps acc p x h h1 (by simpa [wordsOf] using h2)
theorem FitP.none : ∀ (ps : Pieces) (acc : List Wd) (p : List UInt8), FitP acc ps → FitP acc (ps ++ [(p, none)])
  | [], _, _, _ => trivial
  | (_, some y) :: ps, acc, p, h => ⟨h.1, h.2.1, FitP.none ps (acc ++ [y]) p h.2.2⟩
  | (_, .none) :: ps, acc, p, h => FitP.none ps acc p h
theorem content_mod : ∀ (ps : Pieces), (∀ p ∈ ps, Pc p) → (content ps).length % 4 = 0
  | [], _ => rfl
  | p :: ps, h => by
    have h1 := (h p (by simp)).mod
    have h2 := content_mod ps fun q hq => h q (by simp [hq])
    unfold content at *
    rw [List.flatMap_cons, List.length_append]
    omega
def endFrom (k : Nat) (l : List Rec) : Nat := match l.getLast? with
  | none => k
  | some r => r.place + r.size
theorem endFrom_cons (k : Nat) (r : Rec) (L : List Rec) : endFrom k (r :: L) = endFrom (r.place + r.size) L := by
  cases L with
  | nil => rfl
  | cons a L => unfold endFrom; rw [List.getLast?_cons_cons]; simp [List.getLast?_cons]
theorem recEnd_from (b : List UInt8) : recEnd b = endFrom 0 (recScan b) := rfl
theorem scan_pieces : ∀ (ps : Pieces) (k : Nat) (b : List UInt8) (n : Nat) (acc : List Wd), (∀ p ∈ ps, Pc p) → FitP acc ps → b.drop k = content ps ++ List.replicate n 255 →
    (scanAt b k).foldl takeRec acc = acc ++ wordsOf ps ∧ endFrom k (scanAt b k) = k + (content ps).length
  | [], k, b, n, acc, _, _, hb => by
    have : scanAt b k = [] := by
      refine scanAt_blank ?_
      show (recAt (b.drop k)).kind = 0
      rw [hb]
      exact kind_rep n
    rw [this]
    exact ⟨by simp [wordsOf], rfl⟩
  | p :: ps, k, b, n, acc, hp, hf, hb => by
    have h1 := hp p (by simp)
    have hc : content (p :: ps) = p.1 ++ content ps := rfl
    rw [hc, List.append_assoc] at hb
    obtain ⟨kd, pl, hr, hk0, hkk⟩ := h1.at_ (content ps ++ List.replicate n 255)
    rw [← hb] at hr
    have hro : recOf b k = ⟨k, p.1.length, kd, pl⟩ := by unfold recOf; rw [hr]
    have hlt : k < b.length := by
      have := congrArg List.length hb
      rw [List.length_drop, List.length_append] at this
      have := h1.pos
      omega
    rw [scanAt_more hlt (by rw [hro]; exact hk0), hro]
    have hd : b.drop (k + p.1.length) = content ps ++ List.replicate n 255 := by
      rw [← List.drop_drop, hb, List.drop_left' rfl]
    rw [endFrom_cons, List.foldl_cons]
    obtain ⟨p1, o⟩ := p
    cases o with
    | some x =>
      obtain ⟨rfl, rfl⟩ := hkk
      have ht : takeRec acc ⟨k, p1.length, 1, x.bytes⟩ = acc ++ [x] := by
        unfold takeRec
        rw [if_pos rfl]
        simp only [decP_bytes x hf.1]
        rw [if_pos hf.2.1]
      rw [ht]
      obtain ⟨i1, i2⟩ := scan_pieces ps (k + p1.length) b n (acc ++ [x]) (fun q hq => hp q (by simp [hq])) hf.2.2 hd
      refine ⟨by rw [i1]; simp [wordsOf], ?_⟩
      show endFrom (k + p1.length) _ = _
      rw [i2, hc, List.length_append, Nat.add_assoc]
    | none =>
      have ht : takeRec acc ⟨k, p1.length, kd, pl⟩ = acc := by
        unfold takeRec
        rw [if_neg hkk]
      rw [ht]
      obtain ⟨i1, i2⟩ := scan_pieces ps (k + p1.length) b n acc (fun q hq => hp q (by simp [hq])) hf hd
      refine ⟨by rw [i1]; simp [wordsOf], ?_⟩
      show endFrom (k + p1.length) _ = _
      rw [i2, hc, List.length_append, Nat.add_assoc]
theorem words_pieces (ps : Pieces) (n : Nat) (hp : ∀ p ∈ ps, Pc p) (hf : FitP [] ps) : wordsP (content ps ++ List.replicate n 255) = wordsOf ps := by
  have := (scan_pieces ps 0 _ n [] hp hf rfl).1
  rw [List.nil_append] at this
  exact this
theorem end_pieces (ps : Pieces) (n : Nat) (hp : ∀ p ∈ ps, Pc p) (hf : FitP [] ps) : wordsEnd (content ps ++ List.replicate n 255) = (content ps).length := by
  have h1 := (scan_pieces ps 0 _ n [] hp hf rfl).2
  have h2 := content_mod ps hp
  unfold wordsEnd
  rw [recEnd_from, show endFrom 0 (recScan (content ps ++ List.replicate n 255)) = _ from h1, Nat.zero_add]
  simp only [List.length_append]
  omega
theorem pc_word (x : Wd) (hx : x.right = true) : Pc (recBytes x.bytes, some x) := by
  have hb := bytes_ok hx
  refine ⟨?_, ?_, fun r => ⟨1, x.bytes, ?_, by decide, rfl, rfl⟩⟩
  · show (recBytes x.bytes).length % 4 = 0
    rw [recBytes_length _ hb]; exact recSize_mod _
  · show 0 < (recBytes x.bytes).length
    rw [recBytes_length _ hb]; unfold recSize; split <;> omega
  · show recAt (recBytes x.bytes ++ r) = _
    rw [recAt_rec _ _ hb, recBytes_length _ hb]
/-- A flash whose region, from k on, holds just these pieces, and is blank else. -/
structure LaidP (f : Fl) (k : Nat) (ps : Pieces) (m : Nat) : Prop where
  cells : f.cells = List.replicate k 255 ++ (content ps ++ List.replicate m 255)
  all : ∀ p ∈ ps, Pc p
  fit : FitP [] ps
  may : f.may = 0
  power : f.power = none
  at4 : k % 4 = 0
theorem LaidP.seg {f : Fl} {k m : Nat} {ps : Pieces} (h : LaidP f k ps m) (n : Nat) (h1 : (content ps).length ≤ n) (h2 : n ≤ (content ps).length + m) : f.seg k n = content ps ++ List.replicate (n - (content ps).length) 255 := by
  unfold Fl.seg
  rw [h.cells, List.drop_left' (by simp), List.take_append, List.take_of_length_le h1, List.take_replicate, Nat.min_eq_left (by omega)]
theorem LaidP.words {f : Fl} {k m : Nat} {ps : Pieces} (h : LaidP f k ps m) (n : Nat) (h1 : (content ps).length ≤ n) (h2 : n ≤ (content ps).length + m) : wordsP (f.seg k n) = wordsOf ps := by
  rw [h.seg n h1 h2, words_pieces ps _ h.all h.fit]
theorem LaidP.ends {f : Fl} {k m : Nat} {ps : Pieces} (h : LaidP f k ps m) (n : Nat) (h1 : (content ps).length ≤ n) (h2 : n ≤ (content ps).length + m) : wordsEnd (f.seg k n) = (content ps).length := by
  rw [h.seg n h1 h2, end_pieces ps _ h.all h.fit]
theorem LaidP.more {f : Fl} {k m : Nat} {ps : Pieces} (h : LaidP f k ps m) (n : Nat) (h1 : (content ps).length ≤ n) (h2 : n ≤ (content ps).length + m) (x : Wd) (hx : withP (wordsOf ps) x = true) (hn : recSize x.bytes.length + (content ps).length ≤ n) :
    ∃ g, appendP f k n x = (g, 0) ∧ LaidP g k (ps ++ [(recBytes x.bytes, some x)]) (m - recSize x.bytes.length) ∧ g.cells.length = f.cells.length ∧ g.sectors = f.sectors ∧ g.down = f.down := by
  have hr := withP_right hx
  have hb := bytes_ok hr
  have hp0 : recSize x.bytes.length ≠ 0 := by unfold recSize; split <;> omega
  have hw := write_blank f h.may h.power (List.replicate k 255 ++ content ps) x.bytes m (by rw [h.cells, List.append_assoc]) hb (by omega) (by have := h.at4; have := content_mod ps h.all; simp only [List.length_append, List.length_replicate]; omega)
  refine ⟨{ f with cells := (List.replicate k 255 ++ content ps ++ recBytes x.bytes) ++ List.replicate (m - recSize x.bytes.length) 255 }, ?_, ⟨?_, fun p hp => ?_, FitP.snoc ps [] _ x h.fit hr (by simpa using hx), h.may, h.power, h.at4⟩, ?_, rfl, rfl⟩
  · unfold appendP
    rw [h.words n h1 h2, hx, if_pos rfl, h.ends n h1 h2]
    simp only [encode, List.all_cons, List.all_nil, hr, Bool.and_true, if_true, List.flatMap_cons, List.flatMap_nil, List.append_nil]
    rw [if_neg (by omega)]
    rw [show k + (content ps).length = (List.replicate k 255 ++ content ps).length by simp]
    exact hw
  · show _ = _
    simp [content]
  · rcases List.mem_append.1 hp with hp | hp
    · exact h.all p hp
    · obtain rfl : p = _ := by simpa using hp
      exact pc_word x hr
  · show (_ ++ _ : List UInt8).length = _
    rw [h.cells]
    simp only [List.length_append, List.length_replicate, recBytes_length _ hb]
    omega
/-! ### What a torn program leaves -/
def tornB (l mask : List UInt8) : List UInt8 := l.mapIdx fun i x => x ||| ~~~(mask.getD i 0)
theorem tornB_length (l mask : List UInt8) : (tornB l mask).length = l.length := List.length_mapIdx
theorem u8_ext {a b : UInt8} (h : ∀ i, a.toBitVec.getLsbD i = b.toBitVec.getLsbD i) : a = b := UInt8.toBitVec_inj.1 (BitVec.eq_of_getLsbD_eq fun i _ => h i)
theorem torn_byte (m x : UInt8) : (255 : UInt8) &&& ~~~(m &&& ~~~x) = x ||| ~~~m := by
  rw [ones_and8]
  refine u8_ext fun i => ?_
  simp only [UInt8.toBitVec_not, UInt8.toBitVec_and, UInt8.toBitVec_or, BitVec.getLsbD_not, BitVec.getLsbD_and, BitVec.getLsbD_or]
  cases h : decide (i < 8) <;> cases m.toBitVec.getLsbD i <;> cases hx : x.toBitVec.getLsbD i <;> simp_all [BitVec.getLsbD_of_ge]
theorem torn_pair (a c d : UInt8) (h : (a ||| c) ^^^ (~~~a ||| d) = 255) : a ||| c = a ∧ ~~~a ||| d = ~~~a := by
  have hb : ∀ i, i < 8 → ((a.toBitVec.getLsbD i || c.toBitVec.getLsbD i) ^^ (!a.toBitVec.getLsbD i || d.toBitVec.getLsbD i)) = true := fun i hi => by
    have := congrArg (fun z => z.toBitVec.getLsbD i) h
    simp only [UInt8.toBitVec_xor, UInt8.toBitVec_not, UInt8.toBitVec_or, BitVec.getLsbD_not, BitVec.getLsbD_xor, BitVec.getLsbD_or, hi, decide_true, Bool.true_and] at this
    rw [this]
    have h255 : ∀ j : Fin 8, (255#8).getLsbD j.val = true := by decide
    exact h255 ⟨i, hi⟩
  constructor
  · refine u8_ext fun i => ?_
    by_cases hi : i < 8
    · have := hb i hi
      simp only [UInt8.toBitVec_or, BitVec.getLsbD_or]
      revert this
      cases a.toBitVec.getLsbD i <;> cases c.toBitVec.getLsbD i <;> cases d.toBitVec.getLsbD i <;> decide
    · rw [BitVec.getLsbD_of_ge _ _ (by omega), BitVec.getLsbD_of_ge _ _ (by omega)]
  · refine u8_ext fun i => ?_
    by_cases hi : i < 8
    · have := hb i hi
      simp only [UInt8.toBitVec_or, UInt8.toBitVec_not, BitVec.getLsbD_or, BitVec.getLsbD_not, hi, decide_true, Bool.true_and]
      revert this
      cases a.toBitVec.getLsbD i <;> cases c.toBitVec.getLsbD i <;> cases d.toBitVec.getLsbD i <;> decide
    · rw [BitVec.getLsbD_of_ge _ _ (by omega), BitVec.getLsbD_of_ge _ _ (by omega)]
theorem torn_seg : ∀ (b mask : List UInt8), (List.replicate b.length (255 : UInt8)).mapIdx (fun i x => x &&& ~~~(mask.getD i 0 &&& ~~~(b.getD i 0))) = tornB b mask := by
  intro b mask
  apply List.ext_getElem?
  intro i
  unfold tornB
  rw [List.getElem?_mapIdx, List.getElem?_mapIdx, List.getElem?_replicate]
  by_cases h : i < b.length
  · rw [if_pos h, List.getElem?_eq_getElem h, Option.map_some, Option.map_some, torn_byte, List.getD_eq_getElem?_getD, List.getElem?_eq_getElem h]
    rfl
  · rw [if_neg h, List.getElem?_eq_none (by omega), Option.map_none, Option.map_none]
theorem recLen_head (n : Nat) (s : List UInt8) (h : n ≤ 4080) (hl : recSize n ≤ 4 + s.length) : recLen (recHead n ++ s) = some n := by
  have hs : 12 ≤ recSize n := by unfold recSize padN; rw [if_neg (by omega)]; omega
  have h4 : (recHead n ++ s).length = 4 + s.length := by rw [List.length_append]; rfl
  unfold recLen
  rw [if_neg (by omega), h4]
  simp only [recHead, List.cons_append, List.nil_append, List.getD_cons_zero, List.getD_cons_succ, not_xor8, bne_self_eq_false, Bool.or_self, Bool.false_eq_true, if_false]
  have hn : (UInt8.ofNat (n / 256)).toNat * 256 + (UInt8.ofNat n).toNat = n := by
    rw [UInt8.toNat_ofNat', UInt8.toNat_ofNat']
    omega
  rw [hn, if_neg (by omega)]
theorem not_blank_head (n : Nat) (s : List UInt8) : isBlank (recHead n ++ s) = false := by
  generalize hx : UInt8.ofNat (n / 256) = a
  have h : ∀ c : BitVec 8, (c != 255#8) = true ∨ (~~~c != 255#8) = true := by decide
  have ha : (a != 255) = true ∨ (~~~a != 255) = true := by
    rcases h a.toBitVec with h | h
    · left
      rw [bne_iff_ne] at h ⊢
      exact fun e => h (by rw [e]; rfl)
    · right
      rw [bne_iff_ne] at h ⊢
      exact fun e => h (by have := congrArg UInt8.toBitVec e; exact this)
  unfold isBlank recHead
  rw [hx]
  rcases ha with h | h <;> simp [List.any_cons, h]
/-- A record whose head is right and whose end is not zeros. -/
theorem pc_unfinished (n : Nat) (hn : n ≤ 4080) (A z : List UInt8) (hz : z.length = 4) (hl : 8 + A.length = recSize n) (hne : z ≠ zero4) : Pc (recHead n ++ (A ++ z), none) := by
  have hlen : (recHead n ++ (A ++ z)).length = recSize n := by simp only [List.length_append, hz]; have : (recHead n).length = 4 := rfl; omega
  have hs := recSize_mod n
  have hs0 : 12 ≤ recSize n := by unfold recSize padN; rw [if_neg (by omega)]; omega
  refine ⟨by show (recHead n ++ (A ++ z)).length % 4 = 0; omega, by show 0 < (recHead n ++ (A ++ z)).length; omega, fun r => ⟨2, [], ?_, by decide, by show (2 : UInt8) ≠ 1; decide⟩⟩
  show recAt ((recHead n ++ (A ++ z)) ++ r) = ⟨0, (recHead n ++ (A ++ z)).length, 2, []⟩
  have hb : isBlank ((recHead n ++ (A ++ z)) ++ r) = false := by rw [List.append_assoc]; exact not_blank_head _ _
  have hr : recLen ((recHead n ++ (A ++ z)) ++ r) = some n := by
    rw [List.append_assoc]
    exact recLen_head n _ hn (by simp only [List.length_append, hz]; omega)
  have ht : ((recHead n ++ (A ++ z)) ++ r).take (recSize n) = recHead n ++ (A ++ z) := by rw [← hlen, List.take_left' rfl]
  have hpl : ((((recHead n ++ (A ++ z)) ++ r).drop 4).take n).length ≤ 4080 := by rw [List.length_take]; omega
  have hbad : (recBytes ((((recHead n ++ (A ++ z)) ++ r).drop 4).take n) == recHead n ++ (A ++ z)) = false := by
    rw [beq_eq_false_iff_ne]
    intro e
    generalize (((recHead n ++ (A ++ z)) ++ r).drop 4).take n = p at *
    have e2 : (recHead p.length ++ recBody p) ++ zero4 = (recHead n ++ A) ++ z := by simpa [recBytes, List.append_assoc] using e
    exact hne (List.append_inj_right' e2 (by rw [hz]; rfl)).symm
  unfold recAt
  rw [hb, hr]
  simp only [Bool.false_eq_true, if_false, ht, hbad, hlen]
/-- A head that is none. -/
theorem pc_broken (t : List UInt8) (h4 : t.length = 4) (hnb : isBlank t = false) (hx : t.getD 0 0 ^^^ t.getD 2 0 ≠ 255 ∨ t.getD 1 0 ^^^ t.getD 3 0 ≠ 255) : Pc (t, none) := by
  match t, h4 with
  | [a, b, c, d], _ =>
    refine ⟨by simp, by show 0 < [a, b, c, d].length; simp, fun r => ⟨3, [], ?_, by decide, by show (3 : UInt8) ≠ 1; decide⟩⟩
    show recAt ([a, b, c, d] ++ r) = ⟨0, 4, 3, []⟩
    have hb : isBlank ([a, b, c, d] ++ r) = false := by
      unfold isBlank at hnb ⊢
      rw [List.any_append]
      simp only [Bool.not_eq_false'] at hnb ⊢
      rw [hnb, Bool.true_or]
    have hl : recLen ([a, b, c, d] ++ r) = none := by
      unfold recLen
      rw [if_neg (by simp)]
      simp only [List.cons_append, List.nil_append, List.getD_cons_zero, List.getD_cons_succ] at hx ⊢
      rw [if_pos (by simpa using hx)]
    unfold recAt
    rw [hb, hl]
    simp
/-! ### Writes while power is counted -/
theorem seg_blank (f : Fl) (pre : List UInt8) (n k : Nat) (hc : f.cells = pre ++ List.replicate n 255) (hk : k ≤ n) : f.seg pre.length k = List.replicate k 255 := by
  unfold Fl.seg
  rw [hc, List.drop_left' rfl, List.take_replicate, Nat.min_eq_left hk]
theorem program_torn (f : Fl) (hm : f.may = 0) (mask : List UInt8) (hpw : f.power = some (0, mask)) (pre b : List UInt8) (n : Nat) (hc : f.cells = pre ++ List.replicate n 255) (h0 : 0 < b.length) (hb : b.length ≤ n) (h4 : pre.length % 4 = 0) (hb4 : b.length % 4 = 0) :
    f.program pre.length b = ({ f with cells := (pre ++ tornB b mask) ++ List.replicate (n - b.length) 255, power := none, down := true }, 12) := by
  unfold Fl.program
  rw [if_neg (by omega), if_neg (by rw [hc, List.length_append, List.length_replicate]; omega), if_neg (by omega), if_neg (by omega)]
  unfold Fl.change
  rw [hpw]
  simp only
  rw [seg_blank f pre n _ hc hb, torn_seg, hc, patch_app pre _ _ _ rfl, List.drop_replicate, List.append_assoc, tornB_length]
theorem program_counted (f : Fl) (hm : f.may = 0) (left : Nat) (mask : List UInt8) (hpw : f.power = some (left + 1, mask)) (pre b : List UInt8) (n : Nat) (hc : f.cells = pre ++ List.replicate n 255) (h0 : 0 < b.length) (hb : b.length ≤ n) (h4 : pre.length % 4 = 0) (hb4 : b.length % 4 = 0) :
    f.program pre.length b = ({ f with cells := (pre ++ b) ++ List.replicate (n - b.length) 255, power := some (left, mask) }, 0) := by
  unfold Fl.program
  rw [if_neg (by omega), if_neg (by rw [hc, List.length_append, List.length_replicate]; omega), if_neg (by omega), if_neg (by omega)]
  unfold Fl.change
  rw [hpw]
  simp only
  rw [seg_blank f pre n _ hc hb, and_rep, hc, patch_app pre _ _ _ rfl, List.drop_replicate, List.append_assoc]
/-- What is written behind pre while a programs are let through yet. -/
def armedWrite (p mask : List UInt8) : Nat → List UInt8
  | 0 => tornB (recHead p.length) mask
  | 1 => recHead p.length ++ tornB (recBody p) mask
  | 2 => (recHead p.length ++ recBody p) ++ tornB zero4 mask
  | _ + 3 => recBytes p
theorem armedWrite_length (p mask : List UInt8) (a : Nat) (hp : p.length ≤ 4080) : (armedWrite p mask a).length ≤ recSize p.length := by
  have h1 : (recHead p.length).length = 4 := rfl
  have h2 := recBody_length p
  have h3 : zero4.length = 4 := rfl
  have h5 : recSize p.length = padN p.length + 12 := by unfold recSize; rw [if_neg (by omega)]
  match a with
  | 0 => simp only [armedWrite, tornB_length]; omega
  | 1 => simp only [armedWrite, tornB_length, List.length_append]; omega
  | 2 => simp only [armedWrite, tornB_length, List.length_append]; omega
  | _ + 3 => simp only [armedWrite, recBytes_length _ hp]; omega
theorem write_armed (f : Fl) (hm : f.may = 0) (a : Nat) (mask : List UInt8) (hpw : f.power = some (a, mask)) (pre p : List UInt8) (n : Nat) (hc : f.cells = pre ++ List.replicate n 255) (hp : p.length ≤ 4080) (hb : recSize p.length ≤ n) (h4 : pre.length % 4 = 0) :
    f.write pre.length p = ({ f with cells := (pre ++ armedWrite p mask a) ++ List.replicate (n - (armedWrite p mask a).length) 255, power := if a < 3 then none else some (a - 3, mask), down := if a < 3 then true else f.down }, if a < 3 then 12 else 0) := by
  have hsz := recBytes_length p hp
  have h1 : (recHead p.length).length = 4 := rfl
  have h2 := recBody_length p
  have h3 : zero4.length = 4 := rfl
  have hh : (recBytes p).length = 4 + ((recBody p).length + 4) := by simp only [recBytes, List.length_append, h1, h3]
  have hpm : padN p.length % 4 = 0 := by unfold padN; omega
  unfold Fl.write
  rw [if_neg (by omega)]
  unfold Fl.writeAll
  match a, hpw with
  | 0, hpw =>
    rw [program_torn f hm mask hpw pre (recHead p.length) n hc (by omega) (by omega) h4 (by omega)]
    simp only [armedWrite, tornB_length]
    rfl
  | a + 1, hpw =>
    rw [program_counted f hm a mask hpw pre (recHead p.length) n hc (by omega) (by omega) h4 (by omega)]
    simp only [if_true]
    unfold Fl.writeAll
    rw [show pre.length + (recHead p.length).length = (pre ++ recHead p.length).length by rw [List.length_append]]
    match a, hpw with
    | 0, hpw =>
      rw [program_torn ⟨pre ++ recHead p.length ++ List.replicate (n - (recHead p.length).length) 255, f.sectors, some (0, mask), f.down⟩ hm mask rfl (pre ++ recHead p.length) (recBody p) _ rfl (by omega) (by omega) (by rw [List.length_append]; omega) (by omega)]
      simp only [armedWrite, tornB_length, List.length_append, List.append_assoc, h1, Nat.sub_sub]
      rfl
    | a + 1, hpw =>
      rw [program_counted ⟨pre ++ recHead p.length ++ List.replicate (n - (recHead p.length).length) 255, f.sectors, some (a + 1, mask), f.down⟩ hm a mask rfl (pre ++ recHead p.length) (recBody p) _ rfl (by omega) (by omega) (by rw [List.length_append]; omega) (by omega)]
      simp only [if_true]
      unfold Fl.writeAll
      rw [show (pre ++ recHead p.length).length + (recBody p).length = (pre ++ recHead p.length ++ recBody p).length by simp only [List.length_append]]
      match a, hpw with
      | 0, hpw =>
        rw [program_torn ⟨pre ++ recHead p.length ++ recBody p ++ List.replicate (n - (recHead p.length).length - (recBody p).length) 255, f.sectors, some (0, mask), f.down⟩ hm mask rfl (pre ++ recHead p.length ++ recBody p) zero4 _ rfl (by omega) (by omega) (by simp only [List.length_append]; omega) (by omega)]
        simp only [armedWrite, tornB_length, List.length_append, List.append_assoc, h1, h3, Nat.sub_sub]
        rfl
      | a + 1, hpw =>
        rw [program_counted ⟨pre ++ recHead p.length ++ recBody p ++ List.replicate (n - (recHead p.length).length - (recBody p).length) 255, f.sectors, some (a + 1, mask), f.down⟩ hm a mask rfl (pre ++ recHead p.length ++ recBody p) zero4 _ rfl (by omega) (by omega) (by simp only [List.length_append]; omega) (by omega)]
        simp only [if_true]
        unfold Fl.writeAll
        simp only [armedWrite, recBytes, List.length_append, List.append_assoc, h1, h3, Nat.sub_sub]
        rfl
/-! ### A torn append, and what comes behind it -/
def xn : Wd := ⟨[110, 101, 120, 116], 0, [101]⟩
theorem xn_size : recSize xn.bytes.length = 24 := by kernel_rfl
theorem xn_starts : wordStarts xn = some [0] := by kernel_rfl
theorem xn_ok (S : List (UInt32 × UInt32)) (me : UInt32) : instrOk S me xn.code 0 = true := by
  unfold instrOk
  rw [show xn.code[0]? = some 101 from rfl]
  simp only
  rw [if_neg (by decide)]
  have : jumpsP 101 = false := by decide
  rw [this]
  rfl
theorem check_end : ∀ (l : List Wd) (S : List (UInt32 × UInt32)) (i : Nat), checkFrom S i l = none → checkFrom S i (l ++ [xn]) = none
  | [], S, i, _ => by
    rw [List.nil_append, checkFrom, xn_starts]
    simp only [List.all_cons, List.all_nil, xn_ok, Bool.and_true, if_true]
    rfl
  | y :: l, S, i, h => by
    rw [List.cons_append, checkFrom]
    rw [checkFrom] at h
    split at h
    · cases h
    · split at h
      · rename_i ha
        rw [if_pos ha]
        exact check_end l _ _ h
      · cases h
theorem with_next {l : List Wd} (hl : l.length < 2048) (h : checkZ l = -1) : withP l xn = true := by
  have h0 : checkP l = none := by
    unfold checkZ at h
    split at h
    · assumption
    · omega
  have := check_end l [] 0 h0
  unfold withP checkZ
  rw [show checkP (l ++ [xn]) = none from this, decide_eq_true hl]
  rfl
theorem FitP.of_fit : ∀ (l acc : List Wd), Fit acc l → FitP acc (l.map fun x => (recBytes x.bytes, some x))
  | [], _, _ => trivial
  | x :: l, acc, h => ⟨h.1, h.2.1, FitP.of_fit l (acc ++ [x]) h.2.2⟩
theorem content_words (l : List Wd) : content (l.map fun x => (recBytes x.bytes, some x)) = logW l := by
  simp only [content, logW, logOf, List.flatMap_map]
theorem wordsOf_words : ∀ (l : List Wd), wordsOf (l.map fun x => (recBytes x.bytes, some x)) = l
  | [] => rfl
  | x :: l => by
    have := wordsOf_words l
    unfold wordsOf at *
    rw [List.map_cons, List.filterMap_cons, this]
/-- A flash of 20 sectors in whose region the words l stand, and there is room for one more that is short. -/
structure UpAt (g : Fl) (l : List Wd) : Prop where
  laid : ∃ ps m, LaidP g 512 ps m ∧ wordsOf ps = l ∧ (content ps).length ≤ 3744 ∧ (content ps).length + m = 4608
  len : g.cells.length = 5120
  down : g.down = false
  few : l.length ≤ 13
  check : checkZ l = -1
theorem UpAt.words {g : Fl} {l : List Wd} (h : UpAt g l) : wordsP (g.seg 512 4096) = l := by
  obtain ⟨ps, m, h1, h2, h3, h4⟩ := h.laid
  rw [h1.words 4096 (by omega) (by omega), h2]
theorem UpAt.next {g : Fl} {l : List Wd} (h : UpAt g l) : ∃ g', appendP g 512 4096 xn = (g', 0) ∧ wordsP (g'.seg 512 4096) = l ++ [xn] ∧ g'.cells.length = 5120 ∧ g'.down = false ∧ g'.power = none := by
  obtain ⟨ps, m, h1, h2, h3, h4⟩ := h.laid
  have hw := with_next (by have := h.few; omega) h.check
  rw [← h2] at hw
  have hs := xn_size
  obtain ⟨g', k1, k2, k3, k4, k5⟩ := h1.more 4096 (by omega) (by omega) xn hw (by omega)
  have hc : (content (ps ++ [(recBytes xn.bytes, some xn)])).length = (content ps).length + 24 := by
    unfold content
    rw [List.flatMap_append, List.length_append, List.flatMap_singleton, recBytes_length _ (by decide), hs]
  refine ⟨g', k1, ?_, by rw [k3, h.len], by rw [k5, h.down], k2.power⟩
  rw [k2.words 4096 (by omega) (by omega), ← h2]
  simp [wordsOf]
theorem torn_not_blank {l mask : List UInt8} (h : isBlank (tornB l mask) = true) : tornB l mask = List.replicate l.length 255 := by
  unfold isBlank at h
  simp only [Bool.not_eq_true', List.any_eq_false, bne_iff_ne, ne_eq, Decidable.not_not] at h
  refine List.eq_replicate_iff.2 ⟨tornB_length l mask, fun x hx => h x hx⟩
theorem torn_head (n : Nat) (mask : List UInt8) (hb : isBlank (tornB (recHead n) mask) = false) (hne : tornB (recHead n) mask ≠ recHead n) : Pc (tornB (recHead n) mask, none) := by
  refine pc_broken _ (tornB_length _ _) hb ?_
  by_cases h0 : (tornB (recHead n) mask).getD 0 0 ^^^ (tornB (recHead n) mask).getD 2 0 = 255
  · by_cases h1 : (tornB (recHead n) mask).getD 1 0 ^^^ (tornB (recHead n) mask).getD 3 0 = 255
    · refine absurd ?_ hne
      have e : tornB (recHead n) mask = [UInt8.ofNat (n / 256) ||| ~~~(mask.getD 0 0), UInt8.ofNat n ||| ~~~(mask.getD 1 0), ~~~(UInt8.ofNat (n / 256)) ||| ~~~(mask.getD 2 0), ~~~(UInt8.ofNat n) ||| ~~~(mask.getD 3 0)] := by
        simp [tornB, recHead, List.mapIdx_cons]
      rw [e] at h0 h1 ⊢
      simp only [List.getD_cons_zero, List.getD_cons_succ] at h0 h1
      obtain ⟨a1, a2⟩ := torn_pair _ _ _ h0
      obtain ⟨a3, a4⟩ := torn_pair _ _ _ h1
      rw [a1, a2, a3, a4]
      rfl
    · exact .inr h1
  · exact .inl h0
theorem LaidP.tail {g : Fl} {base tail : Pieces} {m : Nat} (hc : g.cells = List.replicate 512 255 ++ (content (base ++ tail) ++ List.replicate m 255)) (hb : ∀ p ∈ base, Pc p) (ht : ∀ p ∈ tail, Pc p) (hf : FitP [] (base ++ tail)) (hm : g.may = 0) (hp : g.power = none) : LaidP g 512 (base ++ tail) m :=
  ⟨hc, fun p h => by rcases List.mem_append.1 h with h | h; exact hb p h; exact ht p h, hf, hm, hp, rfl⟩
/-- What a torn append leaves, behind words: these, or these and that one. -/
theorem BegAt.torn {g : Fl} {l : List Wd} (h : BegAt g l 12) (x : Wd) (hx : withP l x = true) (hxc : x.code.length ≤ 60) (a : Nat) (mask : List UInt8) :
    (∃ g2, appendP { g with power := some (a, mask) } 512 4096 x = (g2, 12) ∧ g2.down = true ∧ ∃ lw, (lw = l ∨ lw = l ++ [x]) ∧ UpAt { g2 with power := none, down := false } lw) ∨
      ∃ g2, appendP { g with power := some (a, mask) } 512 4096 x = (g2, 0) := by
  have hs := h.size
  have hr := withP_right hx
  have hbo := bytes_ok hr
  have h288 := size288 hr hxc
  have hc := h.laid.cells
  have hlm : (logW l).length % 4 = 0 := by
    have := logOf_mod (l.map Wd.bytes) h.laid.fit.sizes
    exact this
  have hdn := h.down
  have hmay : ({ g with power := some (a, mask) } : Fl).may = 0 := h.laid.may
  obtain ⟨mm, hmm⟩ : ∃ mm, mm = 4608 - (logW l).length := ⟨_, rfl⟩
  rw [← hmm] at hc
  have hw := write_armed { g with power := some (a, mask) } hmay a mask rfl (List.replicate 512 255 ++ logW l) x.bytes mm (by show g.cells = _; rw [hc, List.append_assoc]) hbo (by omega) (by simp only [List.length_append, List.length_replicate]; omega)
  have hp0 : recSize x.bytes.length ≠ 0 := by unfold recSize; split <;> omega
  have hap : appendP { g with power := some (a, mask) } 512 4096 x = ({ g with power := some (a, mask) } : Fl).write (512 + (logW l).length) x.bytes := by
    unfold appendP
    have e1 : ({ g with power := some (a, mask) } : Fl).seg 512 4096 = g.seg 512 4096 := rfl
    rw [e1, h.laid.words 4096 (by omega) (by omega), hx, if_pos rfl, h.laid.ends 4096 (by omega) (by omega)]
    simp only [encode, List.all_cons, List.all_nil, hr, Bool.and_true, if_true, List.flatMap_cons, List.flatMap_nil, List.append_nil]
    rw [if_neg (by omega)]
  rw [show 512 + (logW l).length = (List.replicate 512 (255 : UInt8) ++ logW l).length by simp only [List.length_append, List.length_replicate], hw] at hap
  by_cases ha : a < 3
  · left
    rw [if_pos ha, if_pos ha, if_pos ha] at hap
    refine ⟨_, hap, rfl, ?_⟩
    have hal := armedWrite_length x.bytes mask a hbo
    have hlen : ((List.replicate 512 255 ++ logW l ++ armedWrite x.bytes mask a) ++ List.replicate (mm - (armedWrite x.bytes mask a).length) (255 : UInt8)).length = 5120 := by
      simp only [List.length_append, List.length_replicate]; omega
    have hbase : ∀ p ∈ l.map (fun x => (recBytes x.bytes, some x)), Pc p := fun p hp => by
      obtain ⟨y, hy, rfl⟩ := List.mem_map.1 hp
      exact pc_word y (Fit.right l [] h.laid.fit y hy)
    have hfit := FitP.of_fit l [] h.laid.fit
    have hck := Fit.check l [] h.laid.fit checkZ_nil
    rw [List.nil_append] at hck
    have hmany := h.many
    have hmay2 : ∀ c : List UInt8, (⟨c, g.sectors, none, false⟩ : Fl).may = 0 := fun c => by
      have := h.laid.may
      unfold Fl.may at this ⊢
      rw [hdn] at this
      exact this
    -- the pieces
    have key : ∀ (tail : Pieces) (k : Nat) (lw : List Wd), armedWrite x.bytes mask a ++ List.replicate (mm - (armedWrite x.bytes mask a).length) 255 = content tail ++ List.replicate k 255 → (∀ p ∈ tail, Pc p) → FitP [] (l.map (fun x => (recBytes x.bytes, some x)) ++ tail) →
        wordsOf (l.map (fun x => (recBytes x.bytes, some x)) ++ tail) = lw → (content tail).length ≤ 288 → (lw = l ∨ lw = l ++ [x]) → checkZ lw = -1 →
        ∃ lw, (lw = l ∨ lw = l ++ [x]) ∧ UpAt ⟨(List.replicate 512 255 ++ logW l ++ armedWrite x.bytes mask a) ++ List.replicate (mm - (armedWrite x.bytes mask a).length) 255, g.sectors, none, false⟩ lw := by
      intro tail k lw hcont htail hfp hwd hsz hlw hcz
      have hcl : (content (l.map (fun x => (recBytes x.bytes, some x)) ++ tail)).length = (logW l).length + (content tail).length := by
        have := content_words l
        unfold content at this ⊢
        rw [List.flatMap_append, List.length_append, this]
      have hkl := congrArg List.length hcont
      simp only [List.length_append, List.length_replicate] at hkl
      refine ⟨lw, hlw, ⟨⟨_, k, LaidP.tail ?_ hbase htail hfp (hmay2 _) rfl, hwd, by omega, by omega⟩, hlen, rfl, by rcases hlw with rfl | rfl; omega; rw [List.length_append]; simp; omega, hcz⟩⟩
      show _ = List.replicate 512 255 ++ (content _ ++ List.replicate k 255)
      have := content_words l
      unfold content at this hcont ⊢
      rw [List.flatMap_append, this]
      simp only [List.append_assoc]
      rw [hcont]
    have hnone : ∀ (B : List UInt8) (k : Nat), armedWrite x.bytes mask a ++ List.replicate (mm - (armedWrite x.bytes mask a).length) 255 = B ++ List.replicate k 255 → Pc (B, none) → B.length ≤ 288 →
        ∃ lw, (lw = l ∨ lw = l ++ [x]) ∧ UpAt ⟨(List.replicate 512 255 ++ logW l ++ armedWrite x.bytes mask a) ++ List.replicate (mm - (armedWrite x.bytes mask a).length) 255, g.sectors, none, false⟩ lw := fun B k h1 h2 h3 =>
      key [(B, none)] k l (by simpa [content] using h1) (fun p hp => by obtain rfl : p = _ := (by simpa using hp); exact h2) (FitP.none _ [] B hfit) (by
        have := wordsOf_words l
        unfold wordsOf at this ⊢
        rw [List.filterMap_append, this]
        simp) (by simpa [content] using h3) (.inl rfl) hck
    have h1 : (recHead x.bytes.length).length = 4 := rfl
    have h2 := recBody_length x.bytes
    have h5 : recSize x.bytes.length = padN x.bytes.length + 12 := by unfold recSize; rw [if_neg (by omega)]
    have h6 : padN x.bytes.length ≥ 0 := Nat.zero_le _
    rcases (show a = 0 ∨ a = 1 ∨ a = 2 by omega) with rfl | rfl | rfl
    ·
      have haw : armedWrite x.bytes mask 0 = tornB (recHead x.bytes.length) mask := rfl
      have htl : (tornB (recHead x.bytes.length) mask).length = 4 := by rw [tornB_length, h1]
      cases hb : isBlank (tornB (recHead x.bytes.length) mask) with
      | true =>
        refine key [] mm l ?_ (fun p hp => by cases hp) (by rw [List.append_nil]; exact hfit) (by rw [List.append_nil]; exact wordsOf_words l) (Nat.zero_le _) (.inl rfl) hck
        rw [haw, htl, torn_not_blank hb, h1, List.replicate_append_replicate]
        show _ = [] ++ _
        rw [List.nil_append]
        congr 1
        omega
      | false =>
        by_cases he : tornB (recHead x.bytes.length) mask = recHead x.bytes.length
        · refine hnone (recHead x.bytes.length ++ (List.replicate (recSize x.bytes.length - 8) 255 ++ List.replicate 4 255)) (mm - recSize x.bytes.length) ?_ (pc_unfinished _ hbo _ _ (by rw [List.length_replicate]) (by rw [List.length_replicate]; omega) (by decide)) (by simp only [List.length_append, List.length_replicate]; omega)
          rw [haw, he, h1]
          simp only [List.append_assoc, List.replicate_append_replicate]
          congr 2
          omega
        · refine hnone (tornB (recHead x.bytes.length) mask) (mm - 4) ?_ (torn_head _ mask hb he) (by omega)
          rw [haw, htl]
    ·
      have haw : armedWrite x.bytes mask 1 = recHead x.bytes.length ++ tornB (recBody x.bytes) mask := rfl
      have htl := tornB_length (recBody x.bytes) mask
      refine hnone (recHead x.bytes.length ++ (tornB (recBody x.bytes) mask ++ List.replicate 4 255)) (mm - recSize x.bytes.length) ?_ (pc_unfinished _ hbo _ _ (by rw [List.length_replicate]) (by omega) (by decide)) (by simp only [List.length_append, List.length_replicate]; omega)
      rw [haw]
      simp only [List.append_assoc, List.replicate_append_replicate, List.length_append]
      congr 3
      omega
    ·
      have haw : armedWrite x.bytes mask 2 = (recHead x.bytes.length ++ recBody x.bytes) ++ tornB zero4 mask := rfl
      have htl : (tornB zero4 mask).length = 4 := by rw [tornB_length]; rfl
      by_cases he : tornB zero4 mask = zero4
      · have hrb : armedWrite x.bytes mask 2 = recBytes x.bytes := by rw [haw, he]; simp only [recBytes, List.append_assoc]
        refine key [(recBytes x.bytes, some x)] (mm - recSize x.bytes.length) (l ++ [x]) ?_ (fun p hp => by obtain rfl : p = _ := (by simpa using hp); exact pc_word x hr) (FitP.snoc _ [] _ x hfit hr (by rw [List.nil_append, wordsOf_words]; exact hx)) ?_ ?_ (.inr rfl) ?_
        · rw [hrb, recBytes_length _ hbo]
          simp [content]
        · have := wordsOf_words l
          unfold wordsOf at this ⊢
          rw [List.filterMap_append, this]
          simp
        · show (content [(recBytes x.bytes, some x)]).length ≤ 288
          unfold content
          rw [List.flatMap_singleton, recBytes_length _ hbo]
          exact h288
        · unfold withP at hx
          simp only [Bool.and_eq_true, beq_iff_eq] at hx
          exact hx.2
      · refine hnone (recHead x.bytes.length ++ (recBody x.bytes ++ tornB zero4 mask)) (mm - recSize x.bytes.length) ?_ (pc_unfinished _ hbo _ _ htl (by omega) he) (by simp only [List.length_append]; omega)
        rw [haw]
        simp only [List.append_assoc, List.length_append]
        congr 4
        omega
  · right
    rw [if_neg ha, if_neg ha, if_neg ha] at hap
    exact ⟨_, hap⟩
end Go.Ls

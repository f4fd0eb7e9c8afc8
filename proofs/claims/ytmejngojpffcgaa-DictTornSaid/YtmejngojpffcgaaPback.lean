/- What is appended to a blank region is read back as it was: plain laws on records, words and flashes, no program in sight. No condition beyond those each theorem names. -/
import Derived.Test.YtmejngojpffcgaaKdict
namespace Go.Ls
open Go.RowKit Go.Proofs.Ytmejngojpffcgaa

/-! ### Bits -/
theorem not_xor8 (a : UInt8) : a ^^^ ~~~a = 255 := by
  have h : ∀ b : BitVec 8, b ^^^ ~~~b = 255#8 := by decide
  exact UInt8.toBitVec_inj.1 (h a.toBitVec)
theorem ones_and8 (a : UInt8) : 255 &&& a = a := by
  have h : ∀ b : BitVec 8, 255#8 &&& b = b := by decide
  exact UInt8.toBitVec_inj.1 (h a.toBitVec)
theorem cell4_le4 (x : UInt32) : cell4 x.toUInt8 (x >>> 8).toUInt8 (x >>> 16).toUInt8 (x >>> 24).toUInt8 = x := by
  apply UInt32.toBitVec_inj.1
  apply BitVec.eq_of_getLsbD_eq
  intro i hi
  simp only [cell4, UInt32.toBitVec_or, UInt32.toBitVec_shiftLeft, UInt8.toBitVec_toUInt32, UInt32.toBitVec_toUInt8, UInt32.toBitVec_shiftRight, BitVec.getLsbD_or]
  have e8 : (8 : UInt32).toBitVec % 32 = 8#32 := by decide
  have e16 : (16 : UInt32).toBitVec % 32 = 16#32 := by decide
  have e24 : (24 : UInt32).toBitVec % 32 = 24#32 := by decide
  rw [e8, e16, e24]
  simp [BitVec.getLsbD_setWidth, BitVec.getLsbD_shiftLeft, BitVec.getLsbD_ushiftRight]
  by_cases h1 : i < 8
  · simp [hi, h1, show i < 16 by omega, show i < 24 by omega]
  · by_cases h2 : i < 16
    · simp [hi, h1, h2, show i - 8 < 32 by omega, show i - 8 < 8 by omega, show i < 24 by omega, show 8 + (i - 8) = i by omega]
    · by_cases h3 : i < 24
      · simp [hi, h1, h2, h3, show i - 16 < 32 by omega, show ¬ i - 8 < 8 by omega, show i - 16 < 8 by omega, show 16 + (i - 16) = i by omega]
      · simp [hi, h1, h2, h3, show i - 24 < 32 by omega, show ¬ i - 8 < 8 by omega, show ¬ i - 16 < 8 by omega, show i - 24 < 8 by omega, show 24 + (i - 24) = i by omega]

/-! ### One record -/
theorem recBytes_cons (p r : List UInt8) : recBytes p ++ r = UInt8.ofNat (p.length / 256) :: UInt8.ofNat p.length :: ~~~(UInt8.ofNat (p.length / 256)) :: ~~~(UInt8.ofNat p.length) :: (recBody p ++ (zero4 ++ r)) := by
  simp [recBytes, recHead, zero4]
theorem recLen_rec (p r : List UInt8) (h : p.length ≤ 4080) : recLen (recBytes p ++ r) = some p.length := by
  have hl : (recBytes p ++ r).length = recSize p.length + r.length := by rw [List.length_append, recBytes_length p h]
  have hs : 12 ≤ recSize p.length := by unfold recSize padN; rw [if_neg (by omega)]; omega
  unfold recLen
  rw [if_neg (by omega), hl, recBytes_cons]
  simp only [List.getD_cons_zero, List.getD_cons_succ, not_xor8, bne_self_eq_false, Bool.or_self, Bool.false_eq_true, if_false]
  have hn : (UInt8.ofNat (p.length / 256)).toNat * 256 + (UInt8.ofNat p.length).toNat = p.length := by
    rw [UInt8.toNat_ofNat', UInt8.toNat_ofNat']
    omega
  rw [hn, if_neg (by omega)]
theorem not_blank_rec (p r : List UInt8) : isBlank (recBytes p ++ r) = false := by
  rw [recBytes_cons]
  generalize UInt8.ofNat (p.length / 256) = a
  generalize UInt8.ofNat p.length = b
  have h : ∀ c : BitVec 8, (c != 255#8) = true ∨ (~~~c != 255#8) = true := by decide
  have ha : (a != 255) = true ∨ (~~~a != 255) = true := by
    rcases h a.toBitVec with h | h
    · left
      rw [bne_iff_ne] at h ⊢
      exact fun e => h (by rw [e]; rfl)
    · right
      rw [bne_iff_ne] at h ⊢
      exact fun e => h (by have := congrArg UInt8.toBitVec e; exact this)
  unfold isBlank
  rcases ha with h | h <;> simp [List.any_cons, h]
theorem recAt_rec (p r : List UInt8) (h : p.length ≤ 4080) : recAt (recBytes p ++ r) = ⟨0, recSize p.length, 1, p⟩ := by
  have hp : ((recBytes p ++ r).drop 4).take p.length = p := by
    rw [recBytes_cons]
    simp [recBody, recFill]
  have ht : (recBytes p ++ r).take (recSize p.length) = recBytes p := by
    rw [← recBytes_length p h, List.take_left']
    rfl
  unfold recAt
  rw [not_blank_rec, recLen_rec p r h]
  simp only [Bool.false_eq_true, if_false, hp, ht, beq_self_eq_true, if_true]
theorem blank_rep (n : Nat) : isBlank (List.replicate n 255) = true := by
  unfold isBlank
  simp
theorem kind_rep (n : Nat) : (recAt (List.replicate n 255)).kind = 0 := by
  unfold recAt
  rw [blank_rep]
  rfl

/-! ### Records behind one another -/
def logOf (ps : List (List UInt8)) : List UInt8 := ps.flatMap recBytes
def recsAt (k : Nat) : List (List UInt8) → List Rec
  | [] => []
  | p :: ps => ⟨k, recSize p.length, 1, p⟩ :: recsAt (k + recSize p.length) ps
theorem scanAt_log : ∀ (ps : List (List UInt8)) (k : Nat) (b : List UInt8) (n : Nat), (∀ p ∈ ps, p.length ≤ 4080) → b.drop k = logOf ps ++ List.replicate n 255 → scanAt b k = recsAt k ps
  | [], k, b, n, _, hb => by
    refine scanAt_blank ?_
    show (recAt (b.drop k)).kind = 0
    rw [hb]
    exact kind_rep n
  | p :: ps, k, b, n, hp, hb => by
    have h1 := hp p (by simp)
    have hb' : b.drop k = recBytes p ++ (logOf ps ++ List.replicate n 255) := by rw [hb]; simp [logOf]
    have ho : recOf b k = ⟨k, recSize p.length, 1, p⟩ := by unfold recOf; rw [hb', recAt_rec p _ h1]
    have hs : 12 ≤ recSize p.length := by unfold recSize padN; rw [if_neg (by omega)]; omega
    have hk : k < b.length := by
      have := congrArg List.length hb'
      rw [List.length_drop, List.length_append, recBytes_length p h1] at this
      omega
    rw [scanAt_more hk (by rw [ho]; exact (by decide : (1 : UInt8) ≠ 0)), ho]
    show _ :: scanAt b (k + recSize p.length) = _
    rw [scanAt_log ps (k + recSize p.length) b n (fun q hq => hp q (by simp [hq])) ?_]
    · rfl
    · rw [← List.drop_drop, hb', ← recBytes_length p h1, List.drop_left']
      rfl
theorem logOf_length_cons (p : List UInt8) (ps : List (List UInt8)) (h : p.length ≤ 4080) : (logOf (p :: ps)).length = recSize p.length + (logOf ps).length := by
  simp only [logOf, List.flatMap_cons, List.length_append, recBytes_length p h]
theorem recSize_mod (n : Nat) : recSize n % 4 = 0 := by unfold recSize padN; split <;> omega
theorem logOf_mod : ∀ (ps : List (List UInt8)), (∀ p ∈ ps, p.length ≤ 4080) → (logOf ps).length % 4 = 0
  | [], _ => rfl
  | p :: ps, h => by
    rw [logOf_length_cons p ps (h p (by simp))]
    have := recSize_mod p.length
    have := logOf_mod ps (fun q hq => h q (by simp [hq]))
    omega
theorem recsAt_end : ∀ (ps : List (List UInt8)) (k : Nat), (∀ p ∈ ps, p.length ≤ 4080) → (match (recsAt k ps).getLast? with | none => k | some r => r.place + r.size) = k + (logOf ps).length
  | [], k, _ => rfl
  | p :: ps, k, h => by
    have ih := recsAt_end ps (k + recSize p.length) (fun q hq => h q (by simp [hq]))
    rw [logOf_length_cons p ps (h p (by simp)), ← Nat.add_assoc, ← ih]
    show (match (_ :: recsAt (k + recSize p.length) ps).getLast? with | none => k | some r => r.place + r.size) = _
    rw [List.getLast?_cons]
    cases (recsAt (k + recSize p.length) ps).getLast? <;> rfl
theorem recScan_log (ps : List (List UInt8)) (n : Nat) (h : ∀ p ∈ ps, p.length ≤ 4080) : recScan (logOf ps ++ List.replicate n 255) = recsAt 0 ps := scanAt_log ps 0 _ n h rfl
theorem wordsEnd_log (ps : List (List UInt8)) (n : Nat) (h : ∀ p ∈ ps, p.length ≤ 4080) : wordsEnd (logOf ps ++ List.replicate n 255) = (logOf ps).length := by
  have he : recEnd (logOf ps ++ List.replicate n 255) = (logOf ps).length := by
    have := recsAt_end ps 0 h
    rw [Nat.zero_add] at this
    unfold recEnd
    rw [recScan_log ps n h]
    exact this
  have hm := logOf_mod ps h
  unfold wordsEnd
  rw [he, List.length_append]
  omega

/-! ### One word -/
theorem fours_cons (a b c d : UInt8) (l : List UInt8) : fours (a :: b :: c :: d :: l) = [a, b, c, d] :: fours l := by
  unfold fours
  rw [show (a :: b :: c :: d :: l).length / 4 = l.length / 4 + 1 by simp; omega, List.range_succ_eq_map, List.map_cons, List.map_map]
  refine congr (congrArg _ ?_) ?_
  · simp [four]
  · apply List.map_congr_left
    intro i _
    simp only [Function.comp, four]
    rw [show 4 * (i + 1) = 4 * i + 4 by omega]
    simp
theorem cellsP_le4 : ∀ (l : List UInt32), cellsP (l.flatMap le4) = l
  | [] => rfl
  | x :: l => by
    rw [List.flatMap_cons]
    show cellsP (x.toUInt8 :: (x >>> 8).toUInt8 :: (x >>> 16).toUInt8 :: (x >>> 24).toUInt8 :: l.flatMap le4) = _
    unfold cellsP
    rw [fours_cons, List.map_cons]
    have := cellsP_le4 l
    unfold cellsP at this
    rw [this]
    exact congrArg (· :: l) (cell4_le4 x)
theorem le4_length (l : List UInt32) : (l.flatMap le4).length = 4 * l.length := by
  induction l with
  | nil => rfl
  | cons x l ih => rw [List.flatMap_cons, List.length_append, ih]; simp [le4]; omega
theorem Wd.bytes_length (x : Wd) : x.bytes.length = 4 + x.name.length + 4 * x.code.length := by
  unfold Wd.bytes
  rw [List.length_append, List.length_append, le4_length]
  simp
  omega
theorem decP_bytes (x : Wd) (hx : x.right = true) : decP x.bytes = some [x] := by
  have hr := right_bounds hx
  have hlen := Wd.bytes_length x
  have hb : x.bytes = UInt8.ofNat x.name.length :: x.flags :: UInt8.ofNat x.code.length :: UInt8.ofNat (x.code.length / 256) :: (x.name ++ x.code.flatMap le4) := rfl
  have hbeg : wdBegin x.bytes = 4 + x.name.length := by
    unfold wdBegin
    rw [hb, List.getD_cons_zero, UInt8.toNat_ofNat']
    omega
  have hend : wdEnd x.bytes = x.bytes.length := by
    unfold wdEnd
    rw [hbeg, hlen, hb]
    simp only [List.getD_cons_zero, List.getD_cons_succ, UInt8.toNat_ofNat']
    omega
  have hof : wdOf x.bytes = x := by
    unfold wdOf
    rw [hend, hbeg, List.take_length]
    have h1 : (x.bytes.take (4 + x.name.length)).drop 4 = x.name := by rw [hb, Nat.add_comm 4]; simp
    have h2 : x.bytes.drop (4 + x.name.length) = x.code.flatMap le4 := by rw [hb, Nat.add_comm 4]; simp
    rw [h1, h2, cellsP_le4]
    rfl
  rw [decP_eq, if_neg (by omega), if_neg (by omega), if_neg (by omega), hof, if_pos hx, hend, List.drop_length]
  rfl

/-! ### Words behind one another -/
def Fit (acc : List Wd) : List Wd → Prop
  | [] => True
  | x :: xs => x.right = true ∧ withP acc x = true ∧ Fit (acc ++ [x]) xs
theorem Fit.snoc : ∀ (l : List Wd) (acc : List Wd) (x : Wd), Fit acc l → x.right = true → withP (acc ++ l) x = true → Fit acc (l ++ [x])
  | [], acc, x, _, h1, h2 => ⟨h1, by simpa using h2, trivial⟩
  | y :: l, acc, x, h, h1, h2 => ⟨h.1, h.2.1, Fit.snoc l (acc ++ [y]) x h.2.2 h1 (by simpa using h2)⟩
theorem Fit.right : ∀ (l : List Wd) (acc : List Wd), Fit acc l → ∀ x ∈ l, x.right = true
  | y :: l, acc, h, x, hx => by
    rcases List.mem_cons.1 hx with rfl | hx
    · exact h.1
    · exact Fit.right l _ h.2.2 x hx
theorem take_recs : ∀ (l : List Wd) (acc : List Wd) (k : Nat), Fit acc l → (recsAt k (l.map Wd.bytes)).foldl takeRec acc = acc ++ l
  | [], acc, k, _ => by simp [recsAt]
  | x :: l, acc, k, h => by
    rw [List.map_cons]
    show (recsAt _ (l.map Wd.bytes)).foldl takeRec (takeRec acc ⟨k, recSize x.bytes.length, 1, x.bytes⟩) = _
    have : takeRec acc ⟨k, recSize x.bytes.length, 1, x.bytes⟩ = acc ++ [x] := by
      unfold takeRec
      rw [if_pos rfl]
      simp only [decP_bytes x h.1]
      rw [if_pos h.2.1]
    rw [this, take_recs l (acc ++ [x]) _ h.2.2]
    simp
def logW (l : List Wd) : List UInt8 := logOf (l.map Wd.bytes)
theorem bytes_ok {x : Wd} (h : x.right = true) : x.bytes.length ≤ 4080 := by
  have := right_bounds h
  have := Wd.bytes_length x
  omega
theorem Fit.sizes {l acc : List Wd} (h : Fit acc l) : ∀ p ∈ l.map Wd.bytes, p.length ≤ 4080 := by
  intro p hp
  obtain ⟨x, hx, rfl⟩ := List.mem_map.1 hp
  exact bytes_ok (Fit.right l acc h x hx)
theorem wordsP_log (l : List Wd) (n : Nat) (h : Fit [] l) : wordsP (logW l ++ List.replicate n 255) = l := by
  unfold wordsP logW
  rw [recScan_log _ n h.sizes, take_recs l [] 0 h]
  rfl
theorem wordsEnd_logW (l : List Wd) (n : Nat) (h : Fit [] l) : wordsEnd (logW l ++ List.replicate n 255) = (logW l).length := wordsEnd_log _ n h.sizes
theorem logW_snoc (l : List Wd) (x : Wd) : logW (l ++ [x]) = logW l ++ recBytes x.bytes := by simp [logW, logOf]

/-! ### A write into blank cells -/
theorem and_rep : ∀ (b : List UInt8), (List.replicate b.length (255 : UInt8)).mapIdx (fun i x => x &&& b.getD i 0) = b := by
  intro b
  apply List.ext_getElem?
  intro i
  rw [List.getElem?_mapIdx, List.getElem?_replicate]
  by_cases h : i < b.length
  · rw [if_pos h, Option.map_some, ones_and8, List.getElem?_eq_getElem h, List.getD_eq_getElem?_getD, List.getElem?_eq_getElem h]
    rfl
  · rw [if_neg h, Option.map_none, List.getElem?_eq_none (by omega)]
theorem patch_app (pre b r : List UInt8) (n : Nat) (hn : n = pre.length) : patch (pre ++ r) n b = pre ++ (b ++ r.drop b.length) := by
  subst hn
  unfold patch
  rw [List.take_left' rfl, List.drop_append]
  simp
theorem program_blank (f : Fl) (hm : f.may = 0) (hpw : f.power = none) (pre b : List UInt8) (n : Nat) (hc : f.cells = pre ++ List.replicate n 255) (hb : b.length ≤ n) (h4 : pre.length % 4 = 0) (hb4 : b.length % 4 = 0) :
    f.program pre.length b = ({ f with cells := (pre ++ b) ++ List.replicate (n - b.length) 255 }, 0) := by
  unfold Fl.program
  rw [if_neg (by omega), if_neg (by rw [hc, List.length_append, List.length_replicate]; omega), if_neg (by omega)]
  by_cases h0 : b.length = 0
  · rw [if_pos h0]
    obtain rfl : b = [] := List.eq_nil_of_length_eq_zero h0
    rw [List.append_nil, List.length_nil, Nat.sub_zero, ← hc]
  · rw [if_neg h0, change_none f hpw]
    have hs : f.seg pre.length b.length = List.replicate b.length 255 := by
      unfold Fl.seg
      rw [hc, List.drop_left' rfl, List.take_replicate, Nat.min_eq_left hb]
    rw [hs, and_rep, hc, patch_app pre b _ _ rfl, List.drop_replicate, List.append_assoc]
theorem write_blank (f : Fl) (hm : f.may = 0) (hpw : f.power = none) (pre p : List UInt8) (n : Nat) (hc : f.cells = pre ++ List.replicate n 255) (hp : p.length ≤ 4080) (hb : recSize p.length ≤ n) (h4 : pre.length % 4 = 0) :
    f.write pre.length p = ({ f with cells := (pre ++ recBytes p) ++ List.replicate (n - recSize p.length) 255 }, 0) := by
  have hsz := recBytes_length p hp
  have h1 : (recHead p.length).length = 4 := rfl
  have h2 := recBody_length p
  have h3 : zero4.length = 4 := rfl
  have hh : (recBytes p).length = 4 + ((recBody p).length + 4) := by simp only [recBytes, List.length_append, h1, h3]
  have hpm : padN p.length % 4 = 0 := by unfold padN; omega
  unfold Fl.write
  rw [if_neg (by omega)]
  unfold Fl.writeAll
  rw [program_blank f hm hpw pre (recHead p.length) n hc (by omega) h4 (by omega)]
  simp only [if_true]
  unfold Fl.writeAll
  rw [show pre.length + (recHead p.length).length = (pre ++ recHead p.length).length by rw [List.length_append]]
  rw [program_blank ⟨pre ++ recHead p.length ++ List.replicate (n - (recHead p.length).length) 255, f.sectors, f.power, f.down⟩ hm hpw (pre ++ recHead p.length) (recBody p) _ rfl (by omega) (by rw [List.length_append]; omega) (by omega)]
  simp only [if_true]
  unfold Fl.writeAll
  rw [show (pre ++ recHead p.length).length + (recBody p).length = (pre ++ recHead p.length ++ recBody p).length by simp only [List.length_append]]
  rw [program_blank ⟨pre ++ recHead p.length ++ recBody p ++ List.replicate (n - (recHead p.length).length - (recBody p).length) 255, f.sectors, f.power, f.down⟩ hm hpw (pre ++ recHead p.length ++ recBody p) zero4 _ rfl (by omega) (by simp only [List.length_append]; omega) (by omega)]
  simp only [if_true]
  unfold Fl.writeAll
  have e1 : pre ++ recHead p.length ++ recBody p ++ zero4 = pre ++ recBytes p := by simp only [recBytes, List.append_assoc]
  have e2 : n - (recHead p.length).length - (recBody p).length - zero4.length = n - recSize p.length := by omega
  rw [e1, e2]

/-! ### An append behind words -/
theorem withP_right {l : List Wd} {x : Wd} (h : withP l x = true) : x.right = true := by
  have key : ∀ (l : List Wd) (S : List (UInt32 × UInt32)) (i : Nat), checkFrom S i (l ++ [x]) = none → x.right = true := by
    intro l
    induction l with
    | nil =>
      intro S i h
      rw [List.nil_append, checkFrom] at h
      cases hx : x.right with
      | true => rfl
      | false =>
        have : wordStarts x = none := by unfold wordStarts; rw [hx]; rfl
        simp [this] at h
    | cons y l ih =>
      intro S i h
      rw [List.cons_append, checkFrom] at h
      split at h
      · cases h
      · split at h
        · exact ih _ _ h
        · cases h
  unfold withP at h
  simp only [Bool.and_eq_true, beq_iff_eq] at h
  have h2 := h.2
  unfold checkZ at h2
  split at h2
  · rename_i hn
    exact key l [] 0 hn
  · omega
/-- A flash in whose region, from k on, just these words stand, and that is blank else. -/
structure Laid (f : Fl) (k : Nat) (l : List Wd) (m : Nat) : Prop where
  cells : f.cells = List.replicate k 255 ++ (logW l ++ List.replicate m 255)
  fit : Fit [] l
  may : f.may = 0
  power : f.power = none
  at4 : k % 4 = 0
theorem Laid.seg {f : Fl} {k m : Nat} {l : List Wd} (h : Laid f k l m) (n : Nat) (h1 : (logW l).length ≤ n) (h2 : n ≤ (logW l).length + m) : f.seg k n = logW l ++ List.replicate (n - (logW l).length) 255 := by
  unfold Fl.seg
  rw [h.cells, List.drop_left' (by simp), List.take_append, List.take_of_length_le h1, List.take_replicate, Nat.min_eq_left (by omega)]
theorem Laid.words {f : Fl} {k m : Nat} {l : List Wd} (h : Laid f k l m) (n : Nat) (h1 : (logW l).length ≤ n) (h2 : n ≤ (logW l).length + m) : wordsP (f.seg k n) = l := by
  rw [h.seg n h1 h2, wordsP_log l _ h.fit]
theorem Laid.ends {f : Fl} {k m : Nat} {l : List Wd} (h : Laid f k l m) (n : Nat) (h1 : (logW l).length ≤ n) (h2 : n ≤ (logW l).length + m) : wordsEnd (f.seg k n) = (logW l).length := by
  rw [h.seg n h1 h2, wordsEnd_logW l _ h.fit]
theorem Laid.not {f : Fl} {k m : Nat} {l : List Wd} (h : Laid f k l m) (n : Nat) (h1 : (logW l).length ≤ n) (h2 : n ≤ (logW l).length + m) (x : Wd) (hx : withP l x = false) : appendP f k n x = (f, 100) := by
  unfold appendP
  rw [h.words n h1 h2, hx]
  rfl
theorem Laid.full {f : Fl} {k m : Nat} {l : List Wd} (h : Laid f k l m) (n : Nat) (h1 : (logW l).length ≤ n) (h2 : n ≤ (logW l).length + m) (x : Wd) (hx : withP l x = true) (hn : n < recSize x.bytes.length + (logW l).length) : appendP f k n x = (f, 150) := by
  unfold appendP
  have : encode [x] = some x.bytes := by unfold encode; simp [withP_right hx]
  rw [h.words n h1 h2, hx, h.ends n h1 h2, this, if_pos rfl]
  simp only []
  rw [if_pos (Or.inr hn)]
theorem Laid.more {f : Fl} {k m : Nat} {l : List Wd} (h : Laid f k l m) (n : Nat) (h1 : (logW l).length ≤ n) (h2 : n ≤ (logW l).length + m) (x : Wd) (hx : withP l x = true) (hn : recSize x.bytes.length + (logW l).length ≤ n) :
    ∃ g, appendP f k n x = (g, 0) ∧ Laid g k (l ++ [x]) (m - recSize x.bytes.length) ∧ g.cells.length = f.cells.length ∧ g.sectors = f.sectors ∧ g.down = f.down := by
  have hr := withP_right hx
  have hb := bytes_ok hr
  have he : encode [x] = some x.bytes := by unfold encode; simp [hr]
  have hs : 12 ≤ recSize x.bytes.length := by unfold recSize padN; rw [if_neg (by omega)]; omega
  have hlm := logOf_mod _ h.fit.sizes
  have hw := write_blank f h.may h.power (List.replicate k 255 ++ logW l) x.bytes m (by rw [h.cells, List.append_assoc]) hb (by omega) (by rw [List.length_append, List.length_replicate]; have := h.at4; unfold logW; omega)
  rw [List.length_append, List.length_replicate] at hw
  have hsz := recBytes_length x.bytes hb
  refine ⟨{ f with cells := List.replicate k 255 ++ (logW (l ++ [x]) ++ List.replicate (m - recSize x.bytes.length) 255) }, ?_, ⟨rfl, Fit.snoc l [] x h.fit hr hx, h.may, h.power, h.at4⟩, ?_, rfl, rfl⟩
  · unfold appendP
    rw [h.words n h1 h2, hx, h.ends n h1 h2, he, if_pos rfl]
    simp only []
    rw [if_neg (by omega), hw, logW_snoc]
    simp only [List.append_assoc]
  · simp only [h.cells, logW_snoc, List.length_append, List.length_replicate, hsz]
    omega
end Go.Ls

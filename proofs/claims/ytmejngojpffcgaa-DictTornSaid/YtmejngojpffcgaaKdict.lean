/- Contracts of dict.Words, dict.Load, dict.Append and lightshiplaw15.awake. No condition beyond those each theorem names. -/
import Derived.Test.YtmejngojpffcgaaKdec
import Derived.Test.YtmejngojpffcgaaKscan
import Derived.WalkMore
import Derived.Test.YtmejngojpffcgaaKflash
import Derived.Test.YtmejngojpffcgaaKwith
section
namespace Go.Ls
open Go.RowKit
/-- One record more: what it says of the words so far. -/
def takeRec (acc : List Wd) (r : Rec) : List Wd :=
  if r.kind = 1 then match decP r.payload with
    | some [x] => if withP acc x then acc ++ [x] else acc
    | _ => acc
  else acc
def wordsP (b : List UInt8) : List Wd := (recScan b).foldl takeRec []
def wordsEnd (b : List UInt8) : Nat := min ((recEnd b + 3) / 4 * 4) b.length
theorem takeRec_length (acc : List Wd) (r : Rec) : (takeRec acc r).length ≤ acc.length + 1 := by
  unfold takeRec
  split
  · split
    · split <;> simp
    · omega
  · omega
theorem rcells_get (xs : List (Value × Rec)) (f : Value × Rec → List Value) (hf : ∀ x, (f x).length = 4) (i r : Nat) (hr : r < 4) (p : Value × Rec) (hp : xs[i]? = some p) : (xs.flatMap f)[i * 4 + r]? = (f p)[r]? := by
  induction xs generalizing i with
  | nil => simp at hp
  | cons q qs ih =>
    rw [List.flatMap_cons]
    cases i with
    | zero =>
      obtain rfl : q = p := by simpa using hp
      rw [List.getElem?_append_left (by rw [hf]; omega)]
      congr 1; omega
    | succ i =>
      rw [List.getElem?_append_right (by rw [hf]; omega)]
      rw [← ih i (by simpa using hp)]
      congr 1
      rw [hf]; omega
end Go.Ls
namespace Go.Ls
theorem decF_right : ∀ (f : Nat) (r : List UInt8) (l : List Wd), decF f r = some l → ∀ x ∈ l, x.right = true := by
  intro f
  induction f with
  | zero => intro r l h; cases h; intro x hx; cases hx
  | succ f ih =>
    intro r l h
    rw [decF] at h
    split at h
    · cases h; intro x hx; cases hx
    · split at h
      · cases h
      · split at h
        · cases h
        · split at h
          · rename_i hr
            cases hd : decF f (r.drop (wdEnd r)) with
            | none => rw [hd] at h; cases h
            | some m =>
              rw [hd] at h
              cases h
              intro x hx
              rcases List.mem_cons.1 hx with rfl | hx
              · exact hr
              · exact ih _ _ hd x hx
          · cases h
theorem decP_right {r : List UInt8} {l : List Wd} (h : decP r = some l) : ∀ x ∈ l, x.right = true := decF_right _ _ _ h
theorem recOf_payload (b : List UInt8) (k : Nat) : (recOf b k).payload.length ≤ b.length := by
  have h : ∀ l : List UInt8, (recAt l).payload.length ≤ l.length := by
    intro l
    unfold recAt
    split
    · simp
    · split
      · simp
      · split <;> simp <;> omega
  have := h (b.drop k)
  rw [List.length_drop] at this
  show (recAt (b.drop k)).payload.length ≤ _
  omega
theorem scanAt_payload (b : List UInt8) : ∀ (n k : Nat), b.length - k ≤ n → ∀ r ∈ scanAt b k, r.payload.length ≤ b.length := by
  intro n
  induction n with
  | zero => intro k hk r hr; rw [scanAt_end (by omega)] at hr; cases hr
  | succ n ih =>
    intro k hk r hr
    by_cases h : k < b.length
    · by_cases h0 : (recOf b k).kind = 0
      · rw [scanAt_blank h0] at hr; cases hr
      · rw [scanAt_more h h0] at hr
        have hs := (recOf_size b k).1 h
        rcases List.mem_cons.1 hr with rfl | hr
        · exact recOf_payload b k
        · exact ih _ (by omega) r hr
    · rw [scanAt_end (by omega)] at hr; cases hr
theorem scanAt_place (b : List UInt8) : ∀ (n k : Nat), b.length - k ≤ n → ∀ r ∈ scanAt b k, r.place + r.size ≤ b.length := by
  intro n
  induction n with
  | zero => intro k hk r hr; rw [scanAt_end (by omega)] at hr; cases hr
  | succ n ih =>
    intro k hk r hr
    by_cases h : k < b.length
    · by_cases h0 : (recOf b k).kind = 0
      · rw [scanAt_blank h0] at hr; cases hr
      · rw [scanAt_more h h0] at hr
        have hs := recOf_size b k
        have hs1 := hs.1 h
        rcases List.mem_cons.1 hr with rfl | hr
        · have : (recOf b k).place = k := rfl
          omega
        · exact ih _ (by omega) r hr
    · rw [scanAt_end (by omega)] at hr; cases hr
theorem recEnd_le (b : List UInt8) : recEnd b ≤ b.length := by
  unfold recEnd
  cases h : (recScan b).getLast? with
  | none => simp
  | some r => exact scanAt_place b _ 0 (Nat.le_refl _) r (List.mem_of_getLast? h)
theorem scanAt_count (b : List UInt8) : ∀ (n k : Nat), b.length - k ≤ n → (scanAt b k).length ≤ b.length - k := by
  intro n
  induction n with
  | zero => intro k hk; rw [scanAt_end (by omega)]; simp
  | succ n ih =>
    intro k hk
    by_cases h : k < b.length
    · by_cases h0 : (recOf b k).kind = 0
      · rw [scanAt_blank h0]; simp
      · rw [scanAt_more h h0]
        have hs := (recOf_size b k).1 h
        have := ih (k + (recOf b k).size) (by omega)
        simp only [List.length_cons]
        omega
    · rw [scanAt_end (by omega)]; simp
theorem recScan_payload (b : List UInt8) : ∀ r ∈ recScan b, r.payload.length ≤ b.length := scanAt_payload b _ 0 (Nat.le_refl _)
end Go.Ls
namespace Go.Proofs.Ytmejngojpffcgaa
open Go.RowKit Go.Ls
attribute [local irreducible] wpQuiet wpList Code.wp
set_option maxRecDepth 100000 in
set_option maxHeartbeats 4000000 in
theorem dict_words_own {S : Nat → Prop} (v : Value) (b : List UInt8) (w : World) (hl : Sl8 S w v b) (hn : b.length ≤ 1000000) :
    Calls Try.prog 14 #[v] w fun e w' => (∃ v', e = .returned (.tuple #[v', .int .i64 (wordsEnd b)]) ∧ WordsNew w.heap.size w' v' (wordsP b)) ∧ Below w.heap.size w w' := by
  have Hl := Lib.hid hl
  have hform : ∃ A c, v = .slice A b.length c := by obtain ⟨A, c, e, _⟩ := hl; exact ⟨A, c, e⟩
  clear hl
  obtain ⟨A, c, rfl⟩ := hform
  have SC := record_scan _ b w Hl.out hn
  obtain ⟨bl, hbl⟩ : ∃ bl, bl = b.length := ⟨_, rfl⟩
  rw [← hbl] at SC hn Hl ⊢
  have Hbl := Lib.hid hbl; clear hbl
  go_enter Try.func14, Try.ntmps14
  go_wp2_with fail
  go_step3
  go_wp2_with fail
  go_step3
  go_wp2_with fail
  refine SC.mono ?_
  rintro e w1 ⟨vr, xs, rfl, hown, hrs, hb1⟩
  obtain ⟨Ar, cr, rfl, hcr, hrr⟩ := own_row hown
  have Hrr := Lib.hid hrr
  have Hrs := Lib.hid hrs
  have Hb1 := Lib.hid hb1
  obtain ⟨n, hnx⟩ : ∃ n, n = xs.length := ⟨_, rfl⟩
  rw [← hnx] at hcr ⊢
  have Hnx := Lib.hid hnx
  have hn6 : n ≤ 1000000 := by
    have h1 := congrArg List.length hrs.1
    rw [List.length_map, ← hnx] at h1
    have h2 := scanAt_count b _ 0 (Nat.le_refl _)
    have h3 := Hbl.out
    have h4 : (recScan b).length = (scanAt b 0).length := rfl
    omega
  clear hnx hown hrr hrs hb1
  obtain ⟨B, hB⟩ : ∃ B, B = w.heap.size := ⟨_, rfl⟩
  rw [← hB] at Hb1 Hrs Hrr
  have HB := Lib.hid hB; clear hB SC
  go_wp2_with fail
  go_loopw [14, 4] (fun i out wr => ∃ (k m : Nat) (acc : List Wd) (A' : Option Addr) (c' : Nat), k ≤ n ∧ i = .int .i64 k ∧ out = .slice A' m c' ∧ m ≤ 2048 ∧ Hid (m = acc.length) ∧ Hid (WordsNew B wr (.slice A' m c') acc) ∧ Hid (acc = ((recScan b).take k).foldl takeRec []) ∧
      Hid (∀ y ∈ acc, y.code.length ≤ 1099511627776) ∧ Hid (Below w1.heap.size w1 wr))
    (fun i _ _ => n - (intOf i).toNat)
  case atStart => exact ⟨0, 0, [], none, 0, Nat.zero_le _, rfl, rfl, Nat.zero_le _, rfl, WordsNew.nil (by have h1 := HB.out; have h2 := Hb1.out.size; omega), (show _ = _ from rfl), (fun y hy => by cases hy), Below.refl _ _⟩
  case round =>
    rename World => wo
    obtain ⟨k, m, acc, A', c', hk, rfl, rfl, hm, hml, hwa, hacc, hcode, hbe⟩ := hrel
    by_cases hlt : k < n
    · have hkx : k < xs.length := by rw [← Hnx.out]; exact hlt
      obtain ⟨p, hp⟩ : ∃ p, xs[k]? = some p := ⟨_, List.getElem?_eq_getElem hkx⟩
      have hrow := Hrr.out.below hbe.out
      have hg : ∀ j, j < 4 → (xs.flatMap recCells)[k * 4 + j]? = (recCells p)[j]? := fun j hj => rcells_get xs recCells (fun _ => rfl) k j hj p hp
      obtain ⟨pv, rp, rs, rk, rl⟩ := p
      obtain ⟨br, o, rfl, _, g0⟩ := hrow.at_ ((hg 0 (by omega)).trans rfl)
      obtain ⟨b1, o1, e1, _, g1⟩ := hrow.at_ ((hg 1 (by omega)).trans rfl)
      cases e1
      obtain ⟨b1, o1, e1, _, g2⟩ := hrow.at_ ((hg 2 (by omega)).trans rfl)
      cases e1
      obtain ⟨b1, o1, e1, _, g3⟩ := hrow.at_ ((hg 3 (by omega)).trans rfl)
      cases e1
      simp only [Nat.add_zero] at g0
      rw [← Nat.add_assoc] at g1 g2 g3
      have hrec : (recScan b)[k]? = some ⟨rp, rs, rk, rl⟩ := by rw [← Hrs.out.1, List.getElem?_map, hp]; rfl
      have hpay : Pay (From B) wo pv rl := (Hrs.out.2 _ (List.mem_of_getElem? hp)).below hbe.out
      have hpl : rl.length ≤ bl := by rw [Hbl.out]; exact recScan_payload b _ (List.mem_of_getElem? hrec)
      have Hnext := Lib.hid (show ((recScan b).take (k + 1)).foldl takeRec [] = takeRec acc ⟨rp, rs, rk, rl⟩ from by rw [List.take_add_one, hrec, List.foldl_append, ← hacc.out]; rfl)
      have hpv : ∃ Ap cp, pv = .slice Ap rl.length cp := by obtain ⟨Ap, cp, e, _⟩ := hpay; exact ⟨Ap, cp, e⟩
      obtain ⟨Ap, cp, rfl⟩ := hpv
      have Hpay := Lib.hid hpay.sl
      clear hpay hrow hg hrec hp
      have Hz := Lib.hid zeroRec
      have HZ := Lib.hid (Blk.new wo 86 #[.int .i64 0, .int .i64 0, .int .u8 0, .slice none 0 0])
      have hbe2 : Below wo.heap.size wo _ := below_setRow ((Below.refl _ wo).alloc (Nat.le_refl _) (.cells #[.int .i64 0, .int .i64 0, .int .u8 0, .slice none 0 0] 86)) (Nat.le_refl _) #[.int .i64 rp, .int .i64 rs, .int .u8 (b8 rk), .slice Ap rl.length cp]
      have hBx := HZ.out.row #[.int .i64 rp, .int .i64 rs, .int .u8 (b8 rk), .slice Ap rl.length cp]
      go_wp2_with (refine wpList_store_row rfl 86 _ _ rfl wo.heap.size #[.int .i64 rp, .int .i64 rs, .int .u8 (b8 rk), .slice Ap rl.length cp] rfl rfl 86 _ HZ.out Hz.out rfl (by simp [Value.oneCell']) ?_; refine stop_here ?_)
      obtain ⟨w2, hw2⟩ : ∃ w2, ((wo.alloc (.cells #[.int .i64 0, .int .i64 0, .int .u8 0, .slice none 0 0] 86)).setRow wo.heap.size #[.int .i64 rp, .int .i64 rs, .int .u8 (b8 rk), .slice Ap rl.length cp]) = w2 := ⟨_, rfl⟩
      rw [hw2] at hbe2 hBx ⊢
      clear hw2 g0 g1 g2 g3
      have q2 := hBx.cellv (j := 2) rfl
      have q3 := hBx.cellv (j := 3) rfl
      simp only [List.getElem_toArray, List.getElem_cons_zero, List.getElem_cons_succ] at q2 q3
      have Hwa2 := Lib.hid (hwa.out.below hbe2)
      have Hpay2 := Lib.hid (Sl.below Hpay.out hbe2)
      have Hbe2 := Lib.hid (below_then hbe.out hbe.out.size hbe2)
      clear hbe2 hBx
      refine go_on ?_
      by_cases ck : rk = 1
      · subst ck
        have hki : (b8 1 != 1) = false := rfl
        have hki2 : b8 1 = 1 := rfl
        have DC := image_decode _ rl w2 Hpay2.out (by omega)
        go_wp2_with fail
        refine DC.mono ?_
        rintro e w3 ⟨hb3, hr3⟩
        have Hwa3 := Lib.hid (Hwa2.out.below hb3)
        have Hbe3 := Lib.hid (below_then Hbe2.out Hbe2.out.size hb3)
        have hB2 : B ≤ w2.heap.size := by have h1 := HB.out; have h2 := Hb1.out.size; have h3 := Hbe2.out.size; omega
        cases hd : decP rl with
        | none =>
          rw [hd] at hr3
          simp only at hr3
          subst hr3
          have Hnext2 := Lib.hid (show acc = ((recScan b).take (k + 1)).foldl takeRec [] from by rw [Hnext.out]; simp [takeRec, hd])
          clear hd hb3
          go_wp2_with fail
          go_roundw
          case rel => exact ⟨k + 1, m, acc, A', c', by omega, by go_num, rfl, hm, hml, Hwa3, Hnext2, hcode, Hbe3⟩
          case measure => simp [intOf]; omega
        | some l =>
          rw [hd] at hr3
          obtain ⟨v9, rfl, hwv⟩ := hr3
          have hf9 : ∃ A9 c9, v9 = .slice A9 l.length c9 := by obtain ⟨ps, _, ⟨A, c, e, _⟩, _⟩ := hwv; exact ⟨A, c, e⟩
          obtain ⟨A9, c9, rfl⟩ := hf9
          by_cases h1 : l.length = 1
          · obtain ⟨x, rfl⟩ : ∃ x, l = [x] := by
              match l, h1 with
              | [x], _ => exact ⟨x, rfl⟩
            have hxr := right_bounds (decP_right hd x (by simp))
            obtain ⟨_, b9, o9, cv, rfl, hb9, y0, y1, y2, y3⟩ := hwv.word (i := 0) rfl
            simp only [Nat.zero_mul, Nat.add_zero] at y0 y1 y2
            have hS : ∀ z, From w2.heap.size z → From B z := fun z hz => Nat.le_trans hB2 hz
            have WI := dict_with_new (B := B) (.slice A' m c') (wdV x cv) acc x w3 Hwa3.out.words ⟨cv, rfl, Sl.mono y3 hS⟩ (by rw [← hml.out]; omega) (fun y hy => by
              rcases List.mem_append.1 hy with h | h
              · exact hcode.out y h
              · obtain rfl : y = x := by simpa using h
                omega) (Nat.le_trans hB2 hb3.size)
            have hWx : takeRec acc ⟨rp, rs, 1, rl⟩ = if withP acc x then acc ++ [x] else acc := by simp [takeRec, hd]
            have hm2 : withP acc x = true → m + 1 ≤ 2048 := fun h => by
              unfold withP at h
              rw [← hml.out] at h
              simp at h
              omega
            have hcx : x.code.length ≤ 1099511627776 := by omega
            rw [hWx] at Hnext
            have hln : ((([x] : List Wd).length : Int) != 1) = false := rfl
            obtain ⟨name, flags, code⟩ := x
            simp only [wdV] at WI y0 y1 y2
            generalize hsv : str name = sv at *
            obtain ⟨ok, hok⟩ : ∃ ok, ok = withP acc ⟨name, flags, code⟩ := ⟨_, rfl⟩
            rw [← hok] at WI Hnext hm2
            have Hhd := Lib.hid hd
            clear hd hok hxr y3 hwv h1 hWx hb3 hb9
            simp only [List.length_cons, List.length_nil, Nat.zero_add] at *
            go_wp2_with fail
            refine WI.mono ?_
            rintro e w4 ⟨⟨v4, rfl, hw4⟩, hb4⟩
            have Hbe4 := Lib.hid (below_then Hbe3.out Hbe3.out.size hb4)
            cases ok with
            | true =>
              have hm3 := hm2 rfl
              have hf4 : ∃ A4 c4, v4 = .slice A4 (m + 1) c4 := by
                obtain ⟨A, c, e⟩ := hw4.form
                exact ⟨A, c, by rw [e, List.length_append, ← hml.out]; rfl⟩
              obtain ⟨A4, c4, rfl⟩ := hf4
              have hw3s : B ≤ w3.heap.size := by have h1 := HB.out; have h2 := Hb1.out.size; have h3 := Hbe3.out.size; omega
              have Hw4 := Lib.hid (show WordsNew B w4 (.slice A4 (m + 1) c4) (acc ++ [⟨name, flags, code⟩]) from hw4)
              have Hml4 := Lib.hid (show m + 1 = (acc ++ [(⟨name, flags, code⟩ : Wd)]).length from by rw [List.length_append, ← hml.out]; rfl)
              have Hnext2 := Lib.hid (show acc ++ [(⟨name, flags, code⟩ : Wd)] = ((recScan b).take (k + 1)).foldl takeRec [] from by rw [Hnext.out]; rfl)
              have Hcode2 := Lib.hid (show ∀ y ∈ acc ++ [(⟨name, flags, code⟩ : Wd)], y.code.length ≤ 1099511627776 from fun y hy => by
                rcases List.mem_append.1 hy with h | h
                · exact hcode.out y h
                · obtain rfl : y = _ := by simpa using h
                  exact hcx)
              clear hw4 hb4
              go_wp2_with fail
              go_roundw
              case rel => exact ⟨k + 1, m + 1, _, A4, c4, by omega, by go_num, rfl, hm3, Hml4, Hw4, Hnext2, Hcode2, Hbe4⟩
              case measure => simp [intOf]; omega
            | false =>
              have Hw4 := Lib.hid (Hwa3.out.below hb4)
              have Hnext2 := Lib.hid (show acc = ((recScan b).take (k + 1)).foldl takeRec [] from by rw [Hnext.out]; rfl)
              clear hw4 hb4
              go_wp2_with fail
              go_roundw
              case rel => exact ⟨k + 1, m, acc, A', c', by omega, by go_num, rfl, hm, hml, Hw4, Hnext2, hcode, Hbe4⟩
              case measure => simp [intOf]; omega
          · have Hnext2 := Lib.hid (show acc = ((recScan b).take (k + 1)).foldl takeRec [] from by
              rw [Hnext.out]
              simp only [takeRec, hd]
              match l, h1 with
              | [], _ => rfl
              | [x], h1 => exact absurd rfl h1
              | _ :: _ :: _, _ => rfl)
            have hli : ((l.length : Int) != 1) = true := by simp; omega
            have hlj : ¬ (l.length : Int) = 1 := by omega
            clear hd hb3 hwv h1
            go_wp2_with fail
            go_roundw
            case rel => exact ⟨k + 1, m, acc, A', c', by omega, by go_num, rfl, hm, hml, Hwa3, Hnext2, hcode, Hbe3⟩
            case measure => simp [intOf]; omega
      · have hki : (b8 rk != 1) = true := by simp; exact fun e => ck (b8_inj (e.trans rfl))
        have hki2 : ¬ b8 rk = 1 := by simpa using hki
        have Hnext2 := Lib.hid (show acc = ((recScan b).take (k + 1)).foldl takeRec [] from by rw [Hnext.out]; unfold takeRec; rw [if_neg ck])
        clear ck
        go_wp2_with fail
        go_roundw
        case rel => exact ⟨k + 1, m, acc, A', c', by omega, by go_num, rfl, hm, hml, Hwa2, Hnext2, hcode, Hbe2⟩
        case measure => simp [intOf]; omega
    · have hk' : k = n := by omega
      have hfin : acc = wordsP b := by
        rw [hacc.out, hk', Hnx.out]
        have : xs.length = (recScan b).length := by rw [← Hrs.out.1, List.length_map]
        rw [this, List.take_length]
        rfl
      have Hfin := Lib.hid hfin
      clear hfin
      subst hk'
      have HbW := Lib.hid (show Below w.heap.size w wo from by have h1 := HB.out; rw [← h1]; exact Hb1.out.trans (hbe.out.mono (by have h2 := Hb1.out.size; omega)))
      have EN := record_end (Sb := S) (.slice A bl c) b wo (Sl.below Hl.out HbW.out) (by rw [← Hbl.out]; exact hn)
      obtain ⟨re, hre⟩ : ∃ re, re = recEnd b := ⟨_, rfl⟩
      rw [← hre] at EN
      have hrel : re ≤ bl := by rw [hre, Hbl.out]; exact recEnd_le b
      obtain ⟨q, hq⟩ : ∃ q, q = (re + 3) / 4 := ⟨_, rfl⟩
      have hqi : Int.tdiv ((re : Int) + 4 - 1) 4 = (q : Int) := by
        rw [Int.tdiv_eq_ediv_of_nonneg (by omega), hq]; omega
      have hqb : q ≤ 1000000 := by omega
      have Hend := Lib.hid (show (min ((q : Int) * 4) (bl : Int)) = (wordsEnd b : Int) from by
        unfold wordsEnd
        rw [← hre, ← hq, ← Hbl.out]
        omega)
      clear hq hre
      go_wp2_with fail
      refine EN.mono ?_
      rintro e w5 ⟨rfl, hb5⟩
      have Hb5 := Lib.hid hb5; clear hb5
      go_wp2_with fail
      rw [Exit.noGoto_ret]
      go_ret2
      refine ⟨⟨.slice A' m c', ?_, ?_⟩, below_then HbW.out HbW.out.size Hb5.out⟩
      · rw [← Hend.out]; rfl
      · have h1 := HB.out
        rw [← Hfin.out, ← h1]
        exact hwa.out.below Hb5.out
theorem dict_words {S : Nat → Prop} (v : Value) (b : List UInt8) (w : World) (hl : Sl8 S w v b) (hn : b.length ≤ 1000000) :
    Calls Try.prog 14 #[v] w fun e w' => (∃ v', e = .returned (.tuple #[v', .int .i64 (wordsEnd b)]) ∧ WordsAt (From w.heap.size) w' v' (wordsP b)) ∧ Below w.heap.size w w' :=
  (dict_words_own v b w hl hn).mono fun e w' ⟨⟨v', h1, h2⟩, h3⟩ => ⟨⟨v', h1, h2.words⟩, h3⟩
end Go.Proofs.Ytmejngojpffcgaa
end

section
namespace Go.Ls
open Go.RowKit
theorem results_tmp3 {fn : Func} {t u v : Tmp} (h : fn.results = #[.tmp t, .tmp u, .tmp v]) (tmps : Array Value) (P : Program) (w : World) :
    (results fn tmps).run P w = .ok (.tuple #[tmps.getD t undef, tmps.getD u undef, tmps.getD v undef]) w := by
  simp [results, h]
theorem seg_length {f : Fl} {k n : Nat} (h : k + n ≤ f.cells.length) : (f.seg k n).length = n := by simp [Fl.seg]; omega
end Go.Ls
namespace Go.Proofs.Ytmejngojpffcgaa
open Go.RowKit Go.Ls
def RetLoad (w : World) (f : Fl) (k n : Nat) (e : Ending) (w' : World) : Prop :=
  Below w.heap.size w w' ∧
  ((f.down = true ∧ e = .returned (.tuple #[.slice none 0 0, .int .i64 0, .int .i64 12])) ∨
   (f.down = false ∧ f.cells.length < k + n ∧ e = .returned (.tuple #[.slice none 0 0, .int .i64 0, .int .i64 10])) ∨
   (f.down = false ∧ k + n ≤ f.cells.length ∧ ∃ v, e = .returned (.tuple #[v, .int .i64 (wordsEnd (f.seg k n)), .int .i64 0]) ∧ WordsAt (From w.heap.size) w' v (wordsP (f.seg k n))))
def RetLoadOwn (w : World) (f : Fl) (k n : Nat) (e : Ending) (w' : World) : Prop :=
  Below w.heap.size w w' ∧
  ((f.down = true ∧ e = .returned (.tuple #[.slice none 0 0, .int .i64 0, .int .i64 12])) ∨
   (f.down = false ∧ f.cells.length < k + n ∧ e = .returned (.tuple #[.slice none 0 0, .int .i64 0, .int .i64 10])) ∨
   (f.down = false ∧ k + n ≤ f.cells.length ∧ ∃ v, e = .returned (.tuple #[v, .int .i64 (wordsEnd (f.seg k n)), .int .i64 0]) ∧ WordsNew w.heap.size w' v (wordsP (f.seg k n))))
set_option maxRecDepth 100000 in
set_option maxHeartbeats 1000000 in
theorem dict_load_own {D : Nat → Prop} (w : World) (b bc o : Nat) (f : Fl) (h : FlashAt w D b bc o f) (k n : Nat) (hk : k < 9223372036854775808) (hn : n < 9223372036854775808) (hk4 : k % 4 = 0) (hn4 : n % 4 = 0) (hc : f.cells.length ≤ 1000000) :
    Calls Try.prog 19 #[.pointer (some ⟨b, 0, none⟩), .int .i64 k, .int .i64 n] w (RetLoadOwn w f k n) := by
  have R := flash_read w b bc o f h k n hk hn
  have t1 := tmod4 k
  have t2 := tmod4 n
  have k0 : ¬ (k : Int) < 0 := by omega
  have n0 : ¬ (n : Int) < 0 := by omega
  have m1 : Int.tmod (k : Int) 4 = 0 := by rw [t1, hk4]; rfl
  have m2 : Int.tmod (n : Int) 4 = 0 := by rw [t2, hn4]; rfl
  clear h t1 t2 hk4 hn4
  go_enter Try.func19, Try.ntmps19
  go_wp2_with fail
  refine R.mono ?_
  rintro e w1 ⟨hb1, ⟨hd, rfl⟩ | ⟨hd, hs, rfl⟩ | ⟨hd, hs, v, rfl, hv⟩⟩
  · have Hb1 := Lib.hid hb1; clear hb1
    go_wp2_with fail
    refine bodyPost_ret (results_tmp3 rfl _ _ _) rfl ⟨Hb1.out, .inl ⟨hd, rfl⟩⟩
  · have Hb1 := Lib.hid hb1; clear hb1
    go_wp2_with fail
    refine bodyPost_ret (results_tmp3 rfl _ _ _) rfl ⟨Hb1.out, .inr (.inl ⟨hd, hs, rfl⟩)⟩
  · have hl := seg_length hs
    obtain ⟨A, c, rfl, hcc, hr⟩ := own_row hv
    have W := dict_words_own (S := fun z => w.heap.size ≤ z) (.slice A n c) (f.seg k n) w1 ⟨A, c, by rw [hl], by rw [hl]; exact hcc, hr⟩ (by omega)
    have Hb1 := Lib.hid hb1; clear hb1 hv hr
    go_wp2_with fail
    refine W.mono ?_
    rintro e w2 ⟨⟨v', rfl, hw⟩, hb2⟩
    have Hw := Lib.hid hw
    have Hb2 := Lib.hid hb2
    clear hw hb2
    go_wp2_with fail
    refine bodyPost_ret (results_tmp3 rfl _ _ _) rfl ⟨below_next Hb1.out Hb2.out, .inr (.inr ⟨hd, hs, v', rfl, Hw.out.lower Hb1.out.size⟩)⟩
theorem dict_load {D : Nat → Prop} (w : World) (b bc o : Nat) (f : Fl) (h : FlashAt w D b bc o f) (k n : Nat) (hk : k < 9223372036854775808) (hn : n < 9223372036854775808) (hk4 : k % 4 = 0) (hn4 : n % 4 = 0) (hc : f.cells.length ≤ 1000000) :
    Calls Try.prog 19 #[.pointer (some ⟨b, 0, none⟩), .int .i64 k, .int .i64 n] w (RetLoad w f k n) :=
  (dict_load_own w b bc o f h k n hk hn hk4 hn4 hc).mono fun e w' ⟨h1, h2⟩ => ⟨h1, by
    rcases h2 with h2 | h2 | ⟨h3, h4, v, h5, h6⟩
    · exact .inl h2
    · exact .inr (.inl h2)
    · exact .inr (.inr ⟨h3, h4, v, h5, h6.words⟩)⟩
theorem dict_load_bad (p : Value) (k n : Int) (w : World) (h : k < 0 ∨ n < 0 ∨ k % 4 ≠ 0 ∨ n % 4 ≠ 0) :
    Calls Try.prog 19 #[p, .int .i64 k, .int .i64 n] w fun e w' => e = .returned (.tuple #[.slice none 0 0, .int .i64 0, .int .i64 2]) ∧ w = w' := by
  by_cases h1 : k < 0
  · go_enter Try.func19, Try.ntmps19
    go_wp2_with fail
    exact bodyPost_ret (results_tmp3 rfl _ _ _) rfl ⟨rfl, rfl⟩
  · by_cases h2 : n < 0
    · go_enter Try.func19, Try.ntmps19
      go_wp2_with fail
      exact bodyPost_ret (results_tmp3 rfl _ _ _) rfl ⟨rfl, rfl⟩
    · by_cases h3 : k % 4 = 0
      · have h4 : (n % 4 != 0) = true := by simp; omega
        have h4' : ¬ n % 4 = 0 := by omega
        have h3' : (k % 4 != 0) = false := by simp; omega
        clear h
        go_enter Try.func19, Try.ntmps19
        go_wp2_with fail
        exact bodyPost_ret (results_tmp3 rfl _ _ _) rfl ⟨rfl, rfl⟩
      · have h3' : (k % 4 != 0) = true := by simp; omega
        clear h
        go_enter Try.func19, Try.ntmps19
        go_wp2_with fail
        exact bodyPost_ret (results_tmp3 rfl _ _ _) rfl ⟨rfl, rfl⟩
end Go.Proofs.Ytmejngojpffcgaa
end

section
namespace Go.Ls
/-- What Append makes of a flash: the flash, the errno (0: the word is there). -/
def appendP (f : Fl) (k n : Nat) (x : Wd) : Fl × Nat :=
  if withP (wordsP (f.seg k n)) x then match encode [x] with
    | none => (f, 100)
    | some p => if recSize p.length = 0 ∨ n < recSize p.length + wordsEnd (f.seg k n) then (f, 150) else f.write (k + wordsEnd (f.seg k n)) p
  else (f, 100)
end Go.Ls
namespace Go.Proofs.Ytmejngojpffcgaa
open Go.RowKit Go.Ls
attribute [local irreducible] wpQuiet wpList Code.wp
theorem words_ok : ∀ (rs : List Rec) (acc : List Wd), acc.length ≤ 2048 → (∀ y ∈ acc, y.code.length ≤ 1000) → (rs.foldl takeRec acc).length ≤ 2048 ∧ ∀ y ∈ rs.foldl takeRec acc, y.code.length ≤ 1000
  | [], acc, h1, h2 => ⟨h1, h2⟩
  | r :: rs, acc, h1, h2 => by
    rw [List.foldl_cons]
    refine words_ok rs _ ?_ ?_
    · unfold takeRec
      split
      · split
        · split
          · rename_i h
            unfold withP at h
            simp at h
            simp; omega
          · exact h1
        · exact h1
      · exact h1
    · unfold takeRec
      split
      · split
        · rename_i x hd
          split
          · intro y hy
            rcases List.mem_append.1 hy with h | h
            · exact h2 y h
            · obtain rfl : y = x := by simpa using h
              exact (right_bounds (decP_right hd y (by simp))).2
          · exact h2
        · exact h2
      · exact h2
theorem wordsP_ok (b : List UInt8) : (wordsP b).length ≤ 2048 ∧ ∀ y ∈ wordsP b, y.code.length ≤ 1000 := words_ok _ [] (by simp) (by simp)
def RetApp (S D : Nat → Prop) (w : World) (b bc o : Nat) (r : Fl × Nat) (l : List Wd) (e : Ending) (w' : World) : Prop :=
  FlashAt w' D b bc o r.1 ∧ Only D w w' ∧ (if r.2 = 0 then ∃ v, e = .returned (.tuple #[v, .int .i64 0]) ∧ WordsAt (Or S w.heap.size) w' v l else e = .returned (.tuple #[.slice none 0 0, .int .i64 r.2]))
theorem wordsEnd_le (b : List UInt8) : wordsEnd b ≤ b.length := Nat.min_le_right _ _
set_option maxRecDepth 100000 in
set_option maxHeartbeats 4000000 in
theorem dict_append_any {S D : Nat → Prop} (w : World) (b bc o : Nat) (f : Fl) (h : FlashAt w D b bc o f) (hdn : f.down = false) (k n : Nat) (hk4 : k % 4 = 0) (hn4 : n % 4 = 0) (hkn : k + n ≤ f.cells.length) (hc : f.cells.length ≤ 1000000)
    (xv : Value) (x : Wd) (hx : WdAt S w xv x) (hS : ∀ z, S z → z < w.heap.size ∧ ¬ D z) (hDw : ∀ j, D j → j < w.heap.size) (hxc : x.code.length ≤ 1099511627776) :
    Calls Try.prog 21 #[.pointer (some ⟨b, 0, none⟩), .int .i64 k, .int .i64 n, xv] w (RetApp S D w b bc o (appendP f k n x) (wordsP (f.seg k n) ++ [x])) := by
  obtain ⟨cv, rfl, hxcv⟩ := hx
  obtain ⟨cw, hcw⟩ : ∃ cw, cw = cv := ⟨_, rfl⟩
  have hform : ∃ Ac cc, cv = .slice Ac x.code.length cc := by obtain ⟨Ac, cc, e, _⟩ := hxcv; exact ⟨Ac, cc, e⟩
  obtain ⟨Ac, cc, rfl⟩ := hform
  clear hcw cw
  obtain ⟨ws, hws⟩ : ∃ ws, ws = wordsP (f.seg k n) := ⟨_, rfl⟩
  obtain ⟨en, hen⟩ : ∃ en, en = wordsEnd (f.seg k n) := ⟨_, rfl⟩
  have henn : en ≤ n := by rw [hen]; have := wordsEnd_le (f.seg k n); rw [seg_length hkn] at this; exact this
  obtain ⟨res, hres⟩ : ∃ r, r = appendP f k n x := ⟨_, rfl⟩
  rw [← hres, ← hws]
  unfold appendP at hres
  rw [← hws, ← hen] at hres
  have Hres := Lib.hid hres
  have Hws := Lib.hid hws
  have Hen := Lib.hid hen
  have hok := wordsP_ok (f.seg k n)
  rw [← hws] at hok
  have HSd := Lib.hid hS
  have HDw := Lib.hid hDw
  clear hres hws hen hS hDw
  obtain ⟨name, flags, code⟩ := x
  simp only [wdV] at *
  have Hcell := Lib.hid (show wcells ((⟨name, flags, code⟩, .slice Ac code.length cc) : Wd × Value) = [str name, .int .u8 (b8 flags), .slice Ac code.length cc] from rfl)
  have Hval := Lib.hid (show wdV ⟨name, flags, code⟩ (.slice Ac code.length cc) = .agg #[str name, .int .u8 (b8 flags), .slice Ac code.length cc] from rfl)
  generalize hsv : str name = sv at *
  have hbx : Below w.heap.size w (w.alloc (.cells #[sv, .int .u8 (b8 flags), .slice Ac code.length cc] 25)) := (Below.refl _ w).alloc (Nat.le_refl _) _
  have hB0 := Blk.new w 25 #[sv, .int .u8 (b8 flags), .slice Ac code.length cc]
  have L := dict_load (w.alloc (.cells #[sv, .int .u8 (b8 flags), .slice Ac code.length cc] 25)) b bc o f (h.below hbx) k n (by omega) (by omega) hk4 hn4 hc
  have hs1 : (w.alloc (.cells #[sv, .int .u8 (b8 flags), .slice Ac code.length cc] 25)).heap.size = w.heap.size + 1 := by simp
  have Hx1 := Lib.hid (Sl.below hxcv hbx)
  have Hfl1 := Lib.hid (h.below hbx)
  have Hbx := Lib.hid hbx
  have HB0 := Lib.hid hB0
  clear h hxcv hk4 hn4 hbx hB0
  go_enter Try.func21, Try.ntmps21
  go_wp2_with fail
  generalize (w.alloc (.cells #[sv, .int .u8 (b8 flags), .slice Ac code.length cc] 25)) = w1 at *
  refine L.mono ?_
  have Hs1 := Lib.hid hs1
  clear L hs1
  rintro e w2 ⟨hb2, ⟨hd, rfl⟩ | ⟨hd, hs, rfl⟩ | ⟨hd, hs, v, rfl, hv⟩⟩
  · rw [hdn] at hd; cases hd
  · omega
  · rw [← Hws.out] at hv
    rw [← Hen.out]
    have hvf : ∃ A c, v = .slice A ws.length c := by obtain ⟨ps, _, ⟨A, c, e, _⟩, _⟩ := hv; exact ⟨A, c, e⟩
    obtain ⟨A, c, rfl⟩ := hvf
    have HB2 := Lib.hid (HB0.out.below hb2 HB0.out.lt)
    have Hx2 := Lib.hid (Sl.below Hx1.out hb2)
    have Hfl2 := Lib.hid (Hfl1.out.below hb2)
    have Hbe2 := Lib.hid (below_then Hbx.out Hbx.out.size hb2)
    have Hv := Lib.hid (show WordsAt (Or S w.heap.size) w2 (.slice A ws.length c) ws from hv.mono fun z hz => .inr (by have h1 := Hs1.out; unfold From at hz; omega))
    have WI := dict_with (S := Or S w.heap.size) (.slice A ws.length c) (.agg #[sv, .int .u8 (b8 flags), .slice Ac code.length cc]) ws ⟨name, flags, code⟩ w2 Hv.out ⟨_, Hval.out.symm, Sl.mono Hx2.out fun z hz => .inl hz⟩ (by omega) (fun y hy => by
      rcases List.mem_append.1 hy with h | h
      · have := hok.2 y h; omega
      · obtain rfl : y = _ := by simpa using h
        exact hxc)
    obtain ⟨ok, hokk⟩ : ∃ ok, ok = withP ws ⟨name, flags, code⟩ := ⟨_, rfl⟩
    rw [← hokk] at WI
    have Hok := Lib.hid hokk
    clear hokk hb2 hv
    have q0 := HB2.out.cellv (j := 0) rfl
    have q1 := HB2.out.cellv (j := 1) rfl
    have q2 := HB2.out.cellv (j := 2) rfl
    simp only [List.getElem_toArray, List.getElem_cons_zero, List.getElem_cons_succ] at q0 q1 q2
    go_wp2_with fail
    refine WI.mono ?_
    rintro e w3 ⟨⟨v3, rfl, hw3⟩, hb3⟩
    have hf3 : ∃ A3 c3, v3 = .slice A3 (ws.length + 1) c3 := by obtain ⟨ps, _, ⟨A, c, e, _⟩, _⟩ := hw3; exact ⟨A, c, by rw [e, List.length_append]; rfl⟩
    obtain ⟨A3, c3, rfl⟩ := hf3
    have Hfl3 := Lib.hid (Hfl2.out.below hb3)
    have Hbe3 := Lib.hid (below_then Hbe2.out Hbe2.out.size hb3)
    have HB3 := Lib.hid (HB2.out.below hb3 HB2.out.lt)
    have Hx3 := Lib.hid (Sl.below Hx2.out hb3)
    have Hw3 := Lib.hid (show WordsAt (Or S w.heap.size) w3 _ _ from hw3.mono fun z hz => by
      rcases hz with h | h
      · exact h
      · exact .inr (Nat.le_trans Hbe2.out.size h))
    clear hb3 hw3 q0 q1 q2 WI
    cases ok with
    | false =>
      have Hr := Lib.hid (show res = (f, 100) from by rw [Hres.out, ← Hok.out]; rfl)
      go_wp2_with fail
      go_ret2
      rw [Hr.out]
      exact ⟨Hfl3.out, Only.of_below Hbe3.out, rfl⟩
    | true =>
      have q0 := HB3.out.cellv (j := 0) rfl
      have q1 := HB3.out.cellv (j := 1) rfl
      have q2 := HB3.out.cellv (j := 2) rfl
      simp only [List.getElem_toArray, List.getElem_cons_zero, List.getElem_cons_succ] at q0 q1 q2
      have hb4 : Below w3.heap.size w3 (w3.alloc (.cells #[sv, .int .u8 (b8 flags), .slice Ac code.length cc] 25)) := (Below.refl _ w3).alloc (Nat.le_refl _) _
      have hlit : WordsAt (fun _ => True) (w3.alloc (.cells #[sv, .int .u8 (b8 flags), .slice Ac code.length cc] 25)) (.slice (some ⟨w3.heap.size, 0, none⟩) 1 1) [⟨name, flags, code⟩] := by
        refine ⟨[(⟨name, flags, code⟩, .slice Ac code.length cc)], rfl, ⟨_, 1, rfl, Nat.le_refl _, ?_⟩, fun p hp => ?_⟩
        · rw [List.flatMap_singleton, Hcell.out]
          exact Row.blk (Blk.new w3 _ _) trivial (n := 3) rfl
        · obtain rfl : p = _ := by simpa using hp
          exact Sl.mono (Sl.below Hx3.out hb4) fun _ _ => trivial
      have EN := image_encode _ _ _ hlit (by simp)
      obtain ⟨ep, hep⟩ : ∃ ep, ep = encode [(⟨name, flags, code⟩ : Wd)] := ⟨_, rfl⟩
      rw [← hep] at EN
      have Hep := Lib.hid hep
      have Hb4 := Lib.hid hb4
      clear hep hlit hb4
      go_wp2_with fail
      refine EN.mono ?_
      rintro e w5 ⟨hb5, hr5⟩
      have hb35 : Below w3.heap.size w3 w5 := below_next Hb4.out hb5
      have Hfl5 := Lib.hid (Hfl3.out.below hb35)
      have Hbe5 := Lib.hid (below_then Hbe3.out Hbe3.out.size hb35)
      have Hw5 := Lib.hid (Hw3.out.below hb35)
      clear hb35 q0 q1 q2
      cases ep with
      | none =>
        simp only at hr5
        subst hr5
        have Hr := Lib.hid (show res = (f, 100) from by rw [Hres.out, ← Hok.out, ← Hep.out]; rfl)
        clear hb5
        go_wp2_with fail
        go_ret2
        rw [Hr.out]
        exact ⟨Hfl5.out, Only.of_below Hbe5.out, rfl⟩
      | some p =>
        obtain ⟨v5, rfl, ho5⟩ := hr5
        obtain ⟨A5, c5, rfl, hc5, hr5⟩ := own_row ho5
        have hp : p.length ≤ 100000000 := by
          have h1 := Hep.out
          unfold encode at h1
          split at h1
          · rename_i hr
            have hb := right_bounds (show (Wd.mk name flags code).right = true by simpa using hr)
            simp only [Option.some.injEq, List.flatMap_singleton] at h1
            rw [h1]
            simp only at hb
            simp only [Wd.bytes, List.length_append, flat4_length, List.length_cons, List.length_nil]
            omega
          · cases h1
        have S1 := record_size p.length (by omega) w5
        obtain ⟨rz, hrz⟩ : ∃ rz, rz = recSize p.length := ⟨_, rfl⟩
        rw [← hrz] at S1
        have hrzb : rz ≤ 200000000 := by rw [hrz]; unfold recSize padN; split <;> omega
        have Hr := Lib.hid (show res = if rz = 0 ∨ n < rz + en then (f, 150) else f.write (k + en) p from by rw [Hres.out, ← Hok.out, ← Hep.out, hrz]; rfl)
        have hsl5 : Sl8 (fun z => (w3.alloc (.cells #[sv, .int .u8 (b8 flags), .slice Ac code.length cc] 25)).heap.size ≤ z) w5 (.slice A5 p.length c5) p := ⟨A5, c5, rfl, hc5, hr5⟩
        have Hsl5 := Lib.hid hsl5
        clear hsl5 hr5 ho5 hb5 hrz
        by_cases z0 : rz = 0
        · have Hr2 := Lib.hid (show res = (f, 150) from by rw [Hr.out, if_pos (.inl z0)])
          have z0i : ((rz : Int) == 0) = true := by simp; exact z0
          have z0j : (rz : Int) = 0 := by omega
          clear z0
          go_wp2_with fail
          refine S1.mono ?_
          rintro e w6 ⟨rfl, rfl⟩
          go_wp2_with fail
          go_ret2
          rw [Hr2.out]
          exact ⟨Hfl5.out, Only.of_below Hbe5.out, rfl⟩
        · have z0i : ((rz : Int) == 0) = false := by simp; exact z0
          have z0j : ¬ (rz : Int) = 0 := by omega
          by_cases z1 : n < rz + en
          · have Hr2 := Lib.hid (show res = (f, 150) from by rw [Hr.out, if_pos (.inr z1)])
            have z1i : (n : Int) - en < rz := by omega
            clear z0
            go_wp2_with fail
            refine S1.mono ?_
            rintro e w6 ⟨rfl, rfl⟩
            go_wp2_with fail
            refine S1.mono ?_
            rintro e w6 ⟨rfl, rfl⟩
            go_wp2_with fail
            go_ret2
            rw [Hr2.out]
            exact ⟨Hfl5.out, Only.of_below Hbe5.out, rfl⟩
          · have Hr2 := Lib.hid (show res = f.write (k + en) p from by rw [Hr.out, if_neg (by omega)])
            have z1i : ¬ (n : Int) - en < rz := by omega
            have WR := record_write w5 b bc o f Hfl5.out (k + en) (.slice A5 p.length c5) p Hsl5.out (fun j hj => Nat.lt_of_lt_of_le (HDw.out j hj) Hbe5.out.size) (by omega) (by omega)
            rw [← Hr2.out] at WR
            obtain ⟨rf, rn⟩ := res
            simp only [Int.natCast_add] at WR
            clear z0
            go_wp2_with fail
            refine S1.mono ?_
            rintro e w6 ⟨rfl, rfl⟩
            go_wp2_with fail
            refine S1.mono ?_
            rintro e w6 ⟨rfl, rfl⟩
            go_wp2_with fail
            refine WR.mono ?_
            rintro e w7 ⟨rfl, hf7, ho7⟩
            have Hf7 := Lib.hid hf7
            have Ho7 := Lib.hid (show Only D w w7 from (Only.of_below Hbe5.out).trans ho7)
            have Hw7 := Lib.hid (show WordsAt (Or S w.heap.size) w7 _ _ from Hw5.out.keep fun z h1 h2 => ho7.block z h1 (by
              rcases h2 with h | h
              · exact (HSd.out z h).2
              · intro hD
                have := HDw.out z hD
                omega))
            clear hf7 ho7
            simp only
            by_cases hrn : rn = 0
            · subst hrn
              go_wp2_with fail
              go_ret2
              exact ⟨Hf7.out, Ho7.out, by rw [if_pos rfl]; exact ⟨_, rfl, Hw7.out⟩⟩
            · have hrni : ((rn : Int) != 0) = true := by simp; exact hrn
              have hrnj : ¬ (rn : Int) = 0 := by omega
              have Hrn := Lib.hid hrn
              clear hrn
              go_wp2_with fail
              go_ret2
              exact ⟨Hf7.out, Ho7.out, by rw [if_neg Hrn.out]; rfl⟩
theorem dict_append {S D : Nat → Prop} (w : World) (b bc o : Nat) (f : Fl) (h : FlashAt w D b bc o f) (_hpw : f.power = none) (hdn : f.down = false) (k n : Nat) (hk4 : k % 4 = 0) (hn4 : n % 4 = 0) (hkn : k + n ≤ f.cells.length) (hc : f.cells.length ≤ 1000000)
    (xv : Value) (x : Wd) (hx : WdAt S w xv x) (hS : ∀ z, S z → z < w.heap.size ∧ ¬ D z) (hDw : ∀ j, D j → j < w.heap.size) (hxc : x.code.length ≤ 1099511627776) :
    Calls Try.prog 21 #[.pointer (some ⟨b, 0, none⟩), .int .i64 k, .int .i64 n, xv] w (RetApp S D w b bc o (appendP f k n x) (wordsP (f.seg k n) ++ [x])) :=
  dict_append_any w b bc o f h hdn k n hk4 hn4 hkn hc xv x hx hS hDw hxc
end Go.Proofs.Ytmejngojpffcgaa
end

section
/- What the examples of the chapter's statements come to: no Go in this text. -/
namespace Go.Ls
def x0 : Wd := ⟨[120], 0, [101]⟩
def y0 : Wd := ⟨[121], 0, [258, 101]⟩
def p0 : List UInt8 := [1, 0, 1, 0, 120, 101, 0, 0, 0]
def l0 : List UInt8 := recBytes p0 ++ List.replicate 16 255
def f1 : Fl := { Fl.new 8 with cells := patch (Fl.new 8).cells 256 (recBytes p0) }
theorem aw_seg0 : (Fl.new 8).seg 256 40 = List.replicate 40 255 := by kernel_rfl
theorem aw_blank : (recOf (List.replicate 40 255) 0).kind = 0 := by kernel_rfl
theorem aw_scan0 : recScan (List.replicate 40 255) = [] := scanAt_blank aw_blank
theorem aw_with0 : withP [] x0 = true := by kernel_rfl
theorem aw_enc : encode [x0] = some p0 := by kernel_rfl
theorem aw_size : recSize p0.length = 24 := by kernel_rfl
theorem aw_write : (Fl.new 8).write 256 p0 = (f1, 0) := by kernel_rfl
theorem aw_seg1 : f1.seg 256 40 = l0 := by kernel_rfl
theorem aw_rec : recOf l0 0 = ⟨0, 24, 1, p0⟩ := by kernel_rfl
theorem aw_rest : (recOf l0 24).kind = 0 := by kernel_rfl
theorem aw_dec : decP p0 = some [x0] := by kernel_rfl
theorem aw_bad : withP [x0] y0 = false := by kernel_rfl
theorem aw_with1 : withP [x0] x0 = true := by kernel_rfl
theorem aw_scan1 : recScan l0 = [⟨0, 24, 1, p0⟩] := by
  unfold recScan
  rw [scanAt_more (by simp [l0]) (by rw [aw_rec]; decide), aw_rec]
  show _ :: scanAt l0 24 = _
  rw [scanAt_blank aw_rest]
theorem aw_words0 : wordsP (List.replicate 40 255) = [] := by unfold wordsP; rw [aw_scan0]; rfl
theorem aw_end0 : wordsEnd (List.replicate 40 255) = 0 := by unfold wordsEnd recEnd; rw [aw_scan0]; rfl
theorem aw_words1 : wordsP l0 = [x0] := by
  unfold wordsP
  rw [aw_scan1]
  simp [takeRec, aw_dec, aw_with0]
theorem aw_end1 : wordsEnd l0 = 24 := by
  unfold wordsEnd recEnd
  rw [aw_scan1]
  rfl
theorem aw_app0 : appendP (Fl.new 8) 256 40 x0 = (f1, 0) := by
  unfold appendP
  rw [aw_seg0, aw_words0, aw_with0, aw_enc, aw_end0]
  simp only [if_true, aw_size]
  rw [if_neg (by omega)]
  exact aw_write
theorem aw_app1 : appendP f1 256 40 y0 = (f1, 100) := by
  unfold appendP
  rw [aw_seg1, aw_words1, aw_bad]
  rfl
theorem aw_app2 : appendP f1 256 40 x0 = (f1, 150) := by
  unfold appendP
  rw [aw_seg1, aw_words1, aw_with1, aw_enc, aw_end1]
  simp only [if_true, aw_size]
  rw [if_pos (.inr (by omega))]
end Go.Ls
end

section
namespace Go.Proofs.Ytmejngojpffcgaa
open Go.RowKit Go.Ls
attribute [local irreducible] wpQuiet wpList Code.wp
set_option maxRecDepth 100000 in
set_option maxHeartbeats 4000000 in
theorem law_awake (w : World) : Calls Try.prog 12 #[] w fun e w' => e = .returned (.bool true) ∧ Below w.heap.size w w' := by
  go_enter Try.func12, Try.ntmps12
  go_wp2_with fail
  refine (flash_new 8 (by omega) (by omega) w).mono ?_
  rintro e w1 ⟨b, bc, o, rfl, hf1, hb1, hb, hbc⟩
  have HF1 := Lib.hid hf1
  have HB1 := Lib.hid hb1
  have hc0 : (Fl.new 8).cells.length = 2048 := by kernel_rfl
  have hc1 : f1.cells.length = 2048 := by kernel_rfl
  have L0 := dict_load w1 b bc o _ hf1 256 40 (by omega) (by omega) (by omega) (by omega) (by rw [hc0]; omega)
  clear hf1 hb1
  go_wp2_with fail
  refine L0.mono ?_
  rintro e w2 ⟨hb2, ⟨hd, rfl⟩ | ⟨hd, hs, rfl⟩ | ⟨hd, hs, v2, rfl, hv2⟩⟩
  · cases hd
  · rw [hc0] at hs; omega
  · rw [aw_seg0, aw_words0] at hv2
    rw [aw_seg0, aw_end0]
    have hvf : ∃ A c, v2 = .slice A 0 c := by obtain ⟨ps, _, ⟨A, c, e, _⟩, _⟩ := hv2; exact ⟨A, c, e⟩
    obtain ⟨A2, c2, rfl⟩ := hvf
    have HF2 := Lib.hid (HF1.out.below hb2)
    have HB2 := Lib.hid (below_then HB1.out HB1.out.size hb2)
    have Hlt1 := Lib.hid (show b < w1.heap.size ∧ bc < w1.heap.size from HF1.out.lt)
    have hs2 := hb2.size
    clear hb2 hv2 hd hs L0
    have Hwd := Lib.hid zeroWord
    go_wp2_with fail
    obtain ⟨k2, hk2⟩ : ∃ k2, k2 = w2.heap.size := ⟨_, rfl⟩
    have hbC : Blk ((w2.alloc (.cells #[.int .u32 101] 51)).alloc (.cells #[.string ⟨#[120]⟩, .int .u8 0, .slice (some ⟨w2.heap.size, 0, none⟩) 1 1] 25)) w2.heap.size 51 #[.int .u32 101] := (Blk.new w2 _ _).alloc _
    have hbX : Blk ((w2.alloc (.cells #[.int .u32 101] 51)).alloc (.cells #[.string ⟨#[120]⟩, .int .u8 0, .slice (some ⟨w2.heap.size, 0, none⟩) 1 1] 25)) (w2.heap.size + 1) 25 #[.string ⟨#[120]⟩, .int .u8 0, .slice (some ⟨w2.heap.size, 0, none⟩) 1 1] := by
      have := Blk.new (w2.alloc (.cells #[.int .u32 101] 51)) 25 #[.string ⟨#[120]⟩, .int .u8 0, .slice (some ⟨w2.heap.size, 0, none⟩) 1 1]
      rwa [World.size_alloc] at this
    have hb3 : Below w2.heap.size w2 ((w2.alloc (.cells #[.int .u32 101] 51)).alloc (.cells #[.string ⟨#[120]⟩, .int .u8 0, .slice (some ⟨w2.heap.size, 0, none⟩) 1 1] 25)) := ((Below.refl _ w2).alloc (Nat.le_refl _) _).alloc (by simp) _
    rw [← hk2] at hbC hbX hb3 ⊢
    generalize ((w2.alloc (.cells #[.int .u32 101] 51)).alloc (.cells #[.string ⟨#[120]⟩, .int .u8 0, .slice (some ⟨k2, 0, none⟩) 1 1] 25)) = w3 at *
    have hD3 : ∀ j, (j = b ∨ j = bc) → j < k2 := fun j hj => by have h1 := Hlt1.out; rcases hj with rfl | rfl <;> omega
    have HD := Lib.hid hD3
    have HF3 := Lib.hid (HF2.out.below (by rw [← hk2]; exact hb3))
    have HB3 := Lib.hid (HB2.out.trans (hb3.mono (by rw [hk2]; exact HB2.out.size)))
    have Hk2 := Lib.hid (show w.heap.size ≤ k2 from by rw [hk2]; exact HB2.out.size)
    have HC3 := Lib.hid hbC
    have HX3 := Lib.hid hbX
    clear hbC hbX hb3 hk2 hD3 hs2
    have hwd : ∀ W, Blk W k2 51 #[.int .u32 101] → WdAt (fun z => z = k2) W (.agg #[.string ⟨#[120]⟩, .int .u8 0, .slice (some ⟨k2, 0, none⟩) 1 1]) x0 := fun W hW => ⟨_, rfl, ⟨_, 1, rfl, Nat.le_refl _, Row.blk hW rfl (n := 1) rfl⟩⟩
    have Hwdx := Lib.hid hwd; clear hwd
    have A1 := dict_append (S := fun z => z = k2) w3 b bc o (Fl.new 8) HF3.out rfl rfl 256 40 rfl rfl (by rw [hc0]; omega) (by rw [hc0]; omega) _ x0 (Hwdx.out w3 HC3.out) (fun z hz => by
      subst hz
      exact ⟨HC3.out.lt, fun h => absurd (HD.out _ h) (Nat.lt_irrefl _)⟩) (fun j hj => Nat.lt_trans (HD.out j hj) HC3.out.lt) (by decide)
    rw [aw_app0, aw_seg0, aw_words0] at A1
    refine A1.mono ?_
    clear A1
    rintro e w4 ⟨hf4, ho4, hr4⟩
    rw [if_pos rfl] at hr4
    obtain ⟨v4, rfl, hv4⟩ := hr4
    have hvf4 : ∃ A c, v4 = .slice A 1 c := by obtain ⟨ps, _, ⟨A, c, e, _⟩, _⟩ := hv4; exact ⟨A, c, e⟩
    obtain ⟨A4, c4, rfl⟩ := hvf4
    have hnD : ∀ z, k2 ≤ z → ¬ (z = b ∨ z = bc) := fun z hz h => absurd (HD.out z h) (by omega)
    have HnD := Lib.hid hnD; clear hnD
    have HF4 := Lib.hid hf4
    have HC4 := Lib.hid (show Blk w4 k2 _ _ from (ho4.block k2 HC3.out.lt (HnD.out _ (Nat.le_refl _))).trans HC3.out)
    have HX4 := Lib.hid (show Blk w4 (k2 + 1) _ _ from (ho4.block (k2 + 1) HX3.out.lt (HnD.out _ (by omega))).trans HX3.out)
    have hBo : ∀ W W', Below w.heap.size w W → Only (fun j => j = b ∨ j = bc) W W' → Below w.heap.size w W' := fun W W' h1 h2 =>
      ⟨h2.os.trans h1.os, h2.tape.trans h1.tape, h2.output.trans h1.output, Nat.le_trans h1.size h2.size, fun j hj => (h2.block j (Nat.lt_of_lt_of_le hj h1.size) (fun h => by rcases h with rfl | rfl <;> omega)).trans (h1.block j hj)⟩
    have HBo := Lib.hid hBo; clear hBo
    have HB4 := Lib.hid (HBo.out _ _ HB3.out ho4)
    have L1 := dict_load w4 b bc o _ hf4 256 40 (by omega) (by omega) (by omega) (by omega) (by rw [hc1]; omega)
    clear hf4 ho4 hv4
    go_wp2_with fail
    refine L1.mono ?_
    rintro e w5 ⟨hb5, ⟨hd, rfl⟩ | ⟨hd, hs, rfl⟩ | ⟨hd, hs, v5, rfl, hv5⟩⟩
    · cases hd
    · rw [hc1] at hs; omega
    · rw [aw_seg1, aw_words1] at hv5
      rw [aw_seg1, aw_end1]
      have hvf5 : ∃ A c, v5 = .slice A 1 c := by obtain ⟨ps, _, ⟨A, c, e, _⟩, _⟩ := hv5; exact ⟨A, c, e⟩
      obtain ⟨A5, c5, rfl⟩ := hvf5
      have HF5 := Lib.hid (HF4.out.below hb5)
      have HB5 := Lib.hid (below_then HB4.out HB4.out.size hb5)
      have HC5 := Lib.hid (HC4.out.below hb5 HC4.out.lt)
      have HX5 := Lib.hid (HX4.out.below hb5 HX4.out.lt)
      have HV5 := Lib.hid hv5
      clear hb5 hd hs L1 hv5
      go_wp2_with fail
      have hbY := Blk.new w5 51 #[.int .u32 258, .int .u32 101]
      have hb6 : Below w5.heap.size w5 (w5.alloc (.cells #[.int .u32 258, .int .u32 101] 51)) := (Below.refl _ w5).alloc (Nat.le_refl _) _
      obtain ⟨k5, hk5⟩ : ∃ k5, k5 = w5.heap.size := ⟨_, rfl⟩
      have hk25 : k2 < k5 := by rw [hk5]; exact HC5.out.lt
      rw [← hk5] at hbY ⊢
      have HF6 := Lib.hid (HF5.out.below hb6)
      have HB6 := Lib.hid (below_then HB5.out HB5.out.size hb6)
      have HC6 := Lib.hid (HC5.out.below hb6 HC5.out.lt)
      have HX6 := Lib.hid (HX5.out.below hb6 HX5.out.lt)
      have HV6 := Lib.hid (HV5.out.below hb6)
      have HS5 := Lib.hid (show WordsAt (fun z => w4.heap.size ≤ z ∧ z < k5) w5 (.slice A5 1 c5) [x0] from (HV5.out.bound).mono fun z hz => ⟨hz.1, by rw [hk5]; exact hz.2⟩)
      generalize (w5.alloc (.cells #[.int .u32 258, .int .u32 101] 51)) = w6 at *
      have HY6 := Lib.hid hbY
      clear hbY hb6 hk5
      have A2' := dict_append (S := fun z => z = k5) w6 b bc o f1 HF6.out rfl rfl 256 40 rfl rfl (by rw [hc1]; omega) (by rw [hc1]; omega) (.agg #[.string ⟨#[121]⟩, .int .u8 0, .slice (some ⟨k5, 0, none⟩) 2 2]) y0 ⟨_, rfl, ⟨_, 2, rfl, Nat.le_refl _, Row.blk HY6.out rfl (n := 2) rfl⟩⟩ (fun z hz => by
        subst hz
        exact ⟨HY6.out.lt, HnD.out _ (by omega)⟩) (fun j hj => Nat.lt_trans (HD.out j hj) HC6.out.lt) (by decide)
      rw [aw_app1, aw_seg1, aw_words1] at A2'
      refine A2'.mono ?_
      clear A2'
      rintro e w7 ⟨hf7, ho7, hr7⟩
      rw [if_neg (by decide)] at hr7
      subst hr7
      have HF7 := Lib.hid hf7
      have HC7 := Lib.hid (show Blk w7 k2 _ _ from (ho7.block k2 HC6.out.lt (HnD.out _ (Nat.le_refl _))).trans HC6.out)
      have HX7 := Lib.hid (show Blk w7 (k2 + 1) _ _ from (ho7.block (k2 + 1) HX6.out.lt (HnD.out _ (by omega))).trans HX6.out)
      have HB7 := Lib.hid (HBo.out _ _ HB6.out ho7)
      have HV7 := Lib.hid (show WordsAt (fun z => w4.heap.size ≤ z) w7 (.slice A5 1 c5) [x0] from HV6.out.keep fun z h1 h2 => ho7.block z h1 (HnD.out z (by have h3 := HC4.out.lt; unfold From at h2; omega)))
      have q0 := HX7.out.cellv (j := 0) rfl
      have q1 := HX7.out.cellv (j := 1) rfl
      have q2 := HX7.out.cellv (j := 2) rfl
      simp only [List.getElem_toArray, List.getElem_cons_zero, List.getElem_cons_succ] at q0 q1 q2
      have A3 := dict_append (S := fun z => z = k2) w7 b bc o f1 HF7.out rfl rfl 256 40 rfl rfl (by rw [hc1]; omega) (by rw [hc1]; omega) _ x0 (Hwdx.out w7 HC7.out) (fun z hz => by
        subst hz
        exact ⟨HC7.out.lt, HnD.out _ (Nat.le_refl _)⟩) (fun j hj => Nat.lt_trans (HD.out j hj) HC7.out.lt) (by decide)
      rw [aw_app2, aw_seg1, aw_words1] at A3
      clear hf7 ho7
      go_wp2_with fail
      refine A3.mono ?_
      clear A3
      rintro e w8 ⟨hf8, ho8, hr8⟩
      rw [if_neg (by decide)] at hr8
      subst hr8
      have HC8 := Lib.hid (show Blk w8 k2 _ _ from (ho8.block k2 HC7.out.lt (HnD.out _ (Nat.le_refl _))).trans HC7.out)
      have HX8 := Lib.hid (show Blk w8 (k2 + 1) _ _ from (ho8.block (k2 + 1) HX7.out.lt (HnD.out _ (by omega))).trans HX7.out)
      have HB8 := Lib.hid (HBo.out _ _ HB7.out ho8)
      have HV8 := Lib.hid (show WordsAt (fun z => w4.heap.size ≤ z) w8 (.slice A5 1 c5) [x0] from HV7.out.keep fun z h1 h2 => ho8.block z h1 (HnD.out z (by have h3 := HC4.out.lt; omega)))
      clear hf8 ho8 q0 q1 q2
      have q0 := HX8.out.cellv (j := 0) rfl
      have q1 := HX8.out.cellv (j := 1) rfl
      have q2 := HX8.out.cellv (j := 2) rfl
      simp only [List.getElem_toArray, List.getElem_cons_zero, List.getElem_cons_succ] at q0 q1 q2
      have hb9 : Below w8.heap.size w8 (w8.alloc (.cells #[.string ⟨#[120]⟩, .int .u8 0, .slice (some ⟨k2, 0, none⟩) 1 1] 25)) := (Below.refl _ w8).alloc (Nat.le_refl _) _
      have AL := law_all (S := fun z => w4.heap.size ≤ z) (S' := fun _ => True) (.slice A5 1 c5) (.slice (some ⟨w8.heap.size, 0, none⟩) 1 1) [x0] [x0] (w8.alloc (.cells #[.string ⟨#[120]⟩, .int .u8 0, .slice (some ⟨k2, 0, none⟩) 1 1] 25)) (HV8.out.below hb9)
        ⟨[(x0, .slice (some ⟨k2, 0, none⟩) 1 1)], rfl, ⟨_, 1, rfl, Nat.le_refl _, Row.blk (Blk.new w8 _ _) trivial (n := 3) rfl⟩, fun p hp => by
          obtain rfl : p = _ := by simpa using hp
          exact ⟨_, 1, rfl, Nat.le_refl _, Row.blk (HC8.out.below hb9 HC8.out.lt) trivial (n := 1) rfl⟩⟩ (by simp) (fun y hy => by
          obtain rfl : y = x0 := by simpa using hy
          decide)
      rw [show allW [x0] [x0] = true from by kernel_rfl] at AL
      have Hb9 := Lib.hid hb9; clear hb9
      go_wp2_with fail
      refine AL.mono ?_
      rintro e w10 ⟨rfl, hb10⟩
      have Hb10 := Lib.hid hb10; clear hb10
      go_wp2_with fail
      go_ret
      exact ⟨rfl, below_then HB8.out HB8.out.size (below_next Hb9.out Hb10.out)⟩
end Go.Proofs.Ytmejngojpffcgaa
end

import Derived.Test.YtmejngojpffcgaaDec
import Derived.Test.YtmejngojpffcgaaEnd
import Derived.WalkMore
namespace Go.Ls
open Go.RowKit
/-- One record more: what it says of the words so far. -/
def takeRec (acc : List Wd) (r : Rec) : List Wd :=
  if r.kind = 1 then match decP r.payload with
    | some [x] => if withP acc x then acc ++ [x] else acc
    | _ => acc
  else acc
def wordsP (b : List UInt8) : List Wd := (recScan b).foldl takeRec []
def wordsEnd (b : List UInt8) : Nat := min ((recEnd b + 3) / 4 * 4) b.length
theorem takeRec_length (acc : List Wd) (r : Rec) : (takeRec acc r).length ≤ acc.length + 1 := by
  unfold takeRec
  split
  · split
    · split <;> simp
    · omega
  · omega
theorem rcells_get (xs : List (Value × Rec)) (f : Value × Rec → List Value) (hf : ∀ x, (f x).length = 4) (i r : Nat) (hr : r < 4) (p : Value × Rec) (hp : xs[i]? = some p) : (xs.flatMap f)[i * 4 + r]? = (f p)[r]? := by
  induction xs generalizing i with
  | nil => simp at hp
  | cons q qs ih =>
    rw [List.flatMap_cons]
    cases i with
    | zero =>
      obtain rfl : q = p := by simpa using hp
      rw [List.getElem?_append_left (by rw [hf]; omega)]
      congr 1; omega
    | succ i =>
      rw [List.getElem?_append_right (by rw [hf]; omega)]
      rw [← ih i (by simpa using hp)]
      congr 1
      rw [hf]; omega
end Go.Ls
namespace Go.Ls
theorem decF_right : ∀ (f : Nat) (r : List UInt8) (l : List Wd), decF f r = some l → ∀ x ∈ l, x.right = true := by
  intro f
  induction f with
  | zero => intro r l h; cases h; intro x hx; cases hx
  | succ f ih =>
    intro r l h
    rw [decF] at h
    split at h
    · cases h; intro x hx; cases hx
    · split at h
      · cases h
      · split at h
        · cases h
        · split at h
          · rename_i hr
            cases hd : decF f (r.drop (wdEnd r)) with
            | none => rw [hd] at h; cases h
            | some m =>
              rw [hd] at h
              cases h
              intro x hx
              rcases List.mem_cons.1 hx with rfl | hx
              · exact hr
              · exact ih _ _ hd x hx
          · cases h
theorem decP_right {r : List UInt8} {l : List Wd} (h : decP r = some l) : ∀ x ∈ l, x.right = true := decF_right _ _ _ h
theorem recOf_payload (b : List UInt8) (k : Nat) : (recOf b k).payload.length ≤ b.length := by
  have h : ∀ l : List UInt8, (recAt l).payload.length ≤ l.length := by
    intro l
    unfold recAt
    split
    · simp
    · split
      · simp
      · split <;> simp <;> omega
  have := h (b.drop k)
  rw [List.length_drop] at this
  show (recAt (b.drop k)).payload.length ≤ _
  omega
theorem scanAt_payload (b : List UInt8) : ∀ (n k : Nat), b.length - k ≤ n → ∀ r ∈ scanAt b k, r.payload.length ≤ b.length := by
  intro n
  induction n with
  | zero => intro k hk r hr; rw [scanAt_end (by omega)] at hr; cases hr
  | succ n ih =>
    intro k hk r hr
    by_cases h : k < b.length
    · by_cases h0 : (recOf b k).kind = 0
      · rw [scanAt_blank h0] at hr; cases hr
      · rw [scanAt_more h h0] at hr
        have hs := (recOf_size b k).1 h
        rcases List.mem_cons.1 hr with rfl | hr
        · exact recOf_payload b k
        · exact ih _ (by omega) r hr
    · rw [scanAt_end (by omega)] at hr; cases hr
theorem scanAt_place (b : List UInt8) : ∀ (n k : Nat), b.length - k ≤ n → ∀ r ∈ scanAt b k, r.place + r.size ≤ b.length := by
  intro n
  induction n with
  | zero => intro k hk r hr; rw [scanAt_end (by omega)] at hr; cases hr
  | succ n ih =>
    intro k hk r hr
    by_cases h : k < b.length
    · by_cases h0 : (recOf b k).kind = 0
      · rw [scanAt_blank h0] at hr; cases hr
      · rw [scanAt_more h h0] at hr
        have hs := recOf_size b k
        have hs1 := hs.1 h
        rcases List.mem_cons.1 hr with rfl | hr
        · have : (recOf b k).place = k := rfl
          omega
        · exact ih _ (by omega) r hr
    · rw [scanAt_end (by omega)] at hr; cases hr
theorem recEnd_le (b : List UInt8) : recEnd b ≤ b.length := by
  unfold recEnd
  cases h : (recScan b).getLast? with
  | none => simp
  | some r => exact scanAt_place b _ 0 (Nat.le_refl _) r (List.mem_of_getLast? h)
theorem scanAt_count (b : List UInt8) : ∀ (n k : Nat), b.length - k ≤ n → (scanAt b k).length ≤ b.length - k := by
  intro n
  induction n with
  | zero => intro k hk; rw [scanAt_end (by omega)]; simp
  | succ n ih =>
    intro k hk
    by_cases h : k < b.length
    · by_cases h0 : (recOf b k).kind = 0
      · rw [scanAt_blank h0]; simp
      · rw [scanAt_more h h0]
        have hs := (recOf_size b k).1 h
        have := ih (k + (recOf b k).size) (by omega)
        simp only [List.length_cons]
        omega
    · rw [scanAt_end (by omega)]; simp
theorem recScan_payload (b : List UInt8) : ∀ r ∈ recScan b, r.payload.length ≤ b.length := scanAt_payload b _ 0 (Nat.le_refl _)
end Go.Ls
namespace Go.Proofs.Ytmejngojpffcgaa
open Go.RowKit Go.Ls
attribute [local irreducible] wpQuiet wpList Code.wp
set_option maxRecDepth 100000 in
set_option maxHeartbeats 4000000 in
theorem dict_words {S : Nat → Prop} (v : Value) (b : List UInt8) (w : World) (hl : Sl8 S w v b) (hn : b.length ≤ 1000000) :
    Calls Try.prog 14 #[v] w fun e w' => (∃ v', e = .returned (.tuple #[v', .int .i64 (wordsEnd b)]) ∧ WordsAt (From w.heap.size) w' v' (wordsP b)) ∧ Below w.heap.size w w' := by
  have Hl := Lib.hid hl
  have hform : ∃ A c, v = .slice A b.length c := by obtain ⟨A, c, e, _⟩ := hl; exact ⟨A, c, e⟩
  clear hl
  obtain ⟨A, c, rfl⟩ := hform
  have SC := record_scan _ b w Hl.out hn
  obtain ⟨bl, hbl⟩ : ∃ bl, bl = b.length := ⟨_, rfl⟩
  rw [← hbl] at SC hn Hl ⊢
  have Hbl := Lib.hid hbl; clear hbl
  go_enter Try.func14, Try.ntmps14
  go_wp2_with fail
  go_step3
  go_wp2_with fail
  go_step3
  go_wp2_with fail
  refine SC.mono ?_
  rintro e w1 ⟨vr, xs, rfl, hown, hrs, hb1⟩
  obtain ⟨Ar, cr, rfl, hcr, hrr⟩ := own_row hown
  have Hrr := Lib.hid hrr
  have Hrs := Lib.hid hrs
  have Hb1 := Lib.hid hb1
  obtain ⟨n, hnx⟩ : ∃ n, n = xs.length := ⟨_, rfl⟩
  rw [← hnx] at hcr ⊢
  have Hnx := Lib.hid hnx
  have hn6 : n ≤ 1000000 := by
    have h1 := congrArg List.length hrs.1
    rw [List.length_map, ← hnx] at h1
    have h2 := scanAt_count b _ 0 (Nat.le_refl _)
    have h3 := Hbl.out
    have h4 : (recScan b).length = (scanAt b 0).length := rfl
    omega
  clear hnx hown hrr hrs hb1
  obtain ⟨B, hB⟩ : ∃ B, B = w.heap.size := ⟨_, rfl⟩
  rw [← hB] at Hb1 Hrs Hrr
  have HB := Lib.hid hB; clear hB SC
  go_wp2_with fail
  go_loopw [14, 4] (fun i out wr => ∃ (k m : Nat) (acc : List Wd) (A' : Option Addr) (c' : Nat), k ≤ n ∧ i = .int .i64 k ∧ out = .slice A' m c' ∧ m ≤ 2048 ∧ Hid (m = acc.length) ∧ Hid (WordsAt (From B) wr (.slice A' m c') acc) ∧ Hid (acc = ((recScan b).take k).foldl takeRec []) ∧
      Hid (∀ y ∈ acc, y.code.length ≤ 1099511627776) ∧ Hid (Below w1.heap.size w1 wr))
    (fun i _ _ => n - (intOf i).toNat)
  case atStart => exact ⟨0, 0, [], none, 0, Nat.zero_le _, rfl, rfl, Nat.zero_le _, rfl, WordsAt.nil _ _, (show _ = _ from rfl), (fun y hy => by cases hy), Below.refl _ _⟩
  case round =>
    rename World => wo
    obtain ⟨k, m, acc, A', c', hk, rfl, rfl, hm, hml, hwa, hacc, hcode, hbe⟩ := hrel
    by_cases hlt : k < n
    · have hkx : k < xs.length := by rw [← Hnx.out]; exact hlt
      obtain ⟨p, hp⟩ : ∃ p, xs[k]? = some p := ⟨_, List.getElem?_eq_getElem hkx⟩
      have hrow := Hrr.out.below hbe.out
      have hg : ∀ j, j < 4 → (xs.flatMap recCells)[k * 4 + j]? = (recCells p)[j]? := fun j hj => rcells_get xs recCells (fun _ => rfl) k j hj p hp
      obtain ⟨pv, rp, rs, rk, rl⟩ := p
      obtain ⟨br, o, rfl, _, g0⟩ := hrow.at_ ((hg 0 (by omega)).trans rfl)
      obtain ⟨b1, o1, e1, _, g1⟩ := hrow.at_ ((hg 1 (by omega)).trans rfl)
      cases e1
      obtain ⟨b1, o1, e1, _, g2⟩ := hrow.at_ ((hg 2 (by omega)).trans rfl)
      cases e1
      obtain ⟨b1, o1, e1, _, g3⟩ := hrow.at_ ((hg 3 (by omega)).trans rfl)
      cases e1
      simp only [Nat.add_zero] at g0
      rw [← Nat.add_assoc] at g1 g2 g3
      have hrec : (recScan b)[k]? = some ⟨rp, rs, rk, rl⟩ := by rw [← Hrs.out.1, List.getElem?_map, hp]; rfl
      have hpay : Pay (From B) wo pv rl := (Hrs.out.2 _ (List.mem_of_getElem? hp)).below hbe.out
      have hpl : rl.length ≤ bl := by rw [Hbl.out]; exact recScan_payload b _ (List.mem_of_getElem? hrec)
      have Hnext := Lib.hid (show ((recScan b).take (k + 1)).foldl takeRec [] = takeRec acc ⟨rp, rs, rk, rl⟩ from by rw [List.take_add_one, hrec, List.foldl_append, ← hacc.out]; rfl)
      have hpv : ∃ Ap cp, pv = .slice Ap rl.length cp := by obtain ⟨Ap, cp, e, _⟩ := hpay; exact ⟨Ap, cp, e⟩
      obtain ⟨Ap, cp, rfl⟩ := hpv
      have Hpay := Lib.hid hpay.sl
      clear hpay hrow hg hrec hp
      have Hz := Lib.hid zeroRec
      have HZ := Lib.hid (Blk.new wo 86 #[.int .i64 0, .int .i64 0, .int .u8 0, .slice none 0 0])
      have hbe2 : Below wo.heap.size wo _ := below_setRow ((Below.refl _ wo).alloc (Nat.le_refl _) (.cells #[.int .i64 0, .int .i64 0, .int .u8 0, .slice none 0 0] 86)) (Nat.le_refl _) #[.int .i64 rp, .int .i64 rs, .int .u8 (b8 rk), .slice Ap rl.length cp]
      have hBx := HZ.out.row #[.int .i64 rp, .int .i64 rs, .int .u8 (b8 rk), .slice Ap rl.length cp]
      go_wp2_with (refine wpList_store_row rfl 86 _ _ rfl wo.heap.size #[.int .i64 rp, .int .i64 rs, .int .u8 (b8 rk), .slice Ap rl.length cp] rfl rfl 86 _ HZ.out Hz.out rfl (by simp [Value.oneCell']) ?_; refine stop_here ?_)
      obtain ⟨w2, hw2⟩ : ∃ w2, ((wo.alloc (.cells #[.int .i64 0, .int .i64 0, .int .u8 0, .slice none 0 0] 86)).setRow wo.heap.size #[.int .i64 rp, .int .i64 rs, .int .u8 (b8 rk), .slice Ap rl.length cp]) = w2 := ⟨_, rfl⟩
      rw [hw2] at hbe2 hBx ⊢
      clear hw2 g0 g1 g2 g3
      have q2 := hBx.cellv (j := 2) rfl
      have q3 := hBx.cellv (j := 3) rfl
      simp only [List.getElem_toArray, List.getElem_cons_zero, List.getElem_cons_succ] at q2 q3
      have Hwa2 := Lib.hid (hwa.out.below hbe2)
      have Hpay2 := Lib.hid (Sl.below Hpay.out hbe2)
      have Hbe2 := Lib.hid (below_then hbe.out hbe.out.size hbe2)
      clear hbe2 hBx
      refine go_on ?_
      by_cases ck : rk = 1
      · subst ck
        have hki : (b8 1 != 1) = false := rfl
        have hki2 : b8 1 = 1 := rfl
        have DC := image_decode _ rl w2 Hpay2.out (by omega)
        go_wp2_with fail
        refine DC.mono ?_
        rintro e w3 ⟨hb3, hr3⟩
        have Hwa3 := Lib.hid (Hwa2.out.below hb3)
        have Hbe3 := Lib.hid (below_then Hbe2.out Hbe2.out.size hb3)
        have hB2 : B ≤ w2.heap.size := by have h1 := HB.out; have h2 := Hb1.out.size; have h3 := Hbe2.out.size; omega
        cases hd : decP rl with
        | none =>
          rw [hd] at hr3
          simp only at hr3
          subst hr3
          have Hnext2 := Lib.hid (show acc = ((recScan b).take (k + 1)).foldl takeRec [] from by rw [Hnext.out]; simp [takeRec, hd])
          clear hd hb3
          go_wp2_with fail
          go_roundw
          case rel => exact ⟨k + 1, m, acc, A', c', by omega, by go_num, rfl, hm, hml, Hwa3, Hnext2, hcode, Hbe3⟩
          case measure => simp [intOf]; omega
        | some l =>
          rw [hd] at hr3
          obtain ⟨v9, rfl, hwv⟩ := hr3
          have hf9 : ∃ A9 c9, v9 = .slice A9 l.length c9 := by obtain ⟨ps, _, ⟨A, c, e, _⟩, _⟩ := hwv; exact ⟨A, c, e⟩
          obtain ⟨A9, c9, rfl⟩ := hf9
          by_cases h1 : l.length = 1
          · obtain ⟨x, rfl⟩ : ∃ x, l = [x] := by
              match l, h1 with
              | [x], _ => exact ⟨x, rfl⟩
            have hxr := right_bounds (decP_right hd x (by simp))
            obtain ⟨_, b9, o9, cv, rfl, hb9, y0, y1, y2, y3⟩ := hwv.word (i := 0) rfl
            simp only [Nat.zero_mul, Nat.add_zero] at y0 y1 y2
            have hS : ∀ z, From w2.heap.size z → From B z := fun z hz => Nat.le_trans hB2 hz
            have WI := dict_with (S := From B) (.slice A' m c') (wdV x cv) acc x w3 Hwa3.out ⟨cv, rfl, Sl.mono y3 hS⟩ (by rw [← hml.out]; omega) (fun y hy => by
              rcases List.mem_append.1 hy with h | h
              · exact hcode.out y h
              · obtain rfl : y = x := by simpa using h
                omega)
            have hWx : takeRec acc ⟨rp, rs, 1, rl⟩ = if withP acc x then acc ++ [x] else acc := by simp [takeRec, hd]
            have hm2 : withP acc x = true → m + 1 ≤ 2048 := fun h => by
              unfold withP at h
              rw [← hml.out] at h
              simp at h
              omega
            have hcx : x.code.length ≤ 1099511627776 := by omega
            rw [hWx] at Hnext
            have hln : ((([x] : List Wd).length : Int) != 1) = false := rfl
            obtain ⟨name, flags, code⟩ := x
            simp only [wdV] at WI y0 y1 y2
            generalize hsv : str name = sv at *
            obtain ⟨ok, hok⟩ : ∃ ok, ok = withP acc ⟨name, flags, code⟩ := ⟨_, rfl⟩
            rw [← hok] at WI Hnext hm2
            have Hhd := Lib.hid hd
            clear hd hok hxr y3 hwv h1 hWx hb3 hb9
            simp only [List.length_cons, List.length_nil, Nat.zero_add] at *
            go_wp2_with fail
            refine WI.mono ?_
            rintro e w4 ⟨⟨v4, rfl, hw4⟩, hb4⟩
            have Hbe4 := Lib.hid (below_then Hbe3.out Hbe3.out.size hb4)
            cases ok with
            | true =>
              have hm3 := hm2 rfl
              have hf4 : ∃ A4 c4, v4 = .slice A4 (m + 1) c4 := by
                obtain ⟨ps, _, ⟨A, c, e, _⟩, _⟩ := hw4
                exact ⟨A, c, by rw [e, List.length_append, ← hml.out]; rfl⟩
              obtain ⟨A4, c4, rfl⟩ := hf4
              have hw3s : B ≤ w3.heap.size := by have h1 := HB.out; have h2 := Hb1.out.size; have h3 := Hbe3.out.size; omega
              have Hw4 := Lib.hid (show WordsAt (From B) w4 (.slice A4 (m + 1) c4) (acc ++ [⟨name, flags, code⟩]) from hw4.mono fun z hz => by
                rcases hz with h | h
                · exact h
                · exact Nat.le_trans hw3s h)
              have Hml4 := Lib.hid (show m + 1 = (acc ++ [(⟨name, flags, code⟩ : Wd)]).length from by rw [List.length_append, ← hml.out]; rfl)
              have Hnext2 := Lib.hid (show acc ++ [(⟨name, flags, code⟩ : Wd)] = ((recScan b).take (k + 1)).foldl takeRec [] from by rw [Hnext.out]; rfl)
              have Hcode2 := Lib.hid (show ∀ y ∈ acc ++ [(⟨name, flags, code⟩ : Wd)], y.code.length ≤ 1099511627776 from fun y hy => by
                rcases List.mem_append.1 hy with h | h
                · exact hcode.out y h
                · obtain rfl : y = _ := by simpa using h
                  exact hcx)
              clear hw4 hb4
              go_wp2_with fail
              go_roundw
              case rel => exact ⟨k + 1, m + 1, _, A4, c4, by omega, by go_num, rfl, hm3, Hml4, Hw4, Hnext2, Hcode2, Hbe4⟩
              case measure => simp [intOf]; omega
            | false =>
              have Hw4 := Lib.hid (Hwa3.out.below hb4)
              have Hnext2 := Lib.hid (show acc = ((recScan b).take (k + 1)).foldl takeRec [] from by rw [Hnext.out]; rfl)
              clear hw4 hb4
              go_wp2_with fail
              go_roundw
              case rel => exact ⟨k + 1, m, acc, A', c', by omega, by go_num, rfl, hm, hml, Hw4, Hnext2, hcode, Hbe4⟩
              case measure => simp [intOf]; omega
          · have Hnext2 := Lib.hid (show acc = ((recScan b).take (k + 1)).foldl takeRec [] from by
              rw [Hnext.out]
              simp only [takeRec, hd]
              match l, h1 with
              | [], _ => rfl
              | [x], h1 => exact absurd rfl h1
              | _ :: _ :: _, _ => rfl)
            have hli : ((l.length : Int) != 1) = true := by simp; omega
            have hlj : ¬ (l.length : Int) = 1 := by omega
            clear hd hb3 hwv h1
            go_wp2_with fail
            go_roundw
            case rel => exact ⟨k + 1, m, acc, A', c', by omega, by go_num, rfl, hm, hml, Hwa3, Hnext2, hcode, Hbe3⟩
            case measure => simp [intOf]; omega
      · have hki : (b8 rk != 1) = true := by simp; exact fun e => ck (b8_inj (e.trans rfl))
        have hki2 : ¬ b8 rk = 1 := by simpa using hki
        have Hnext2 := Lib.hid (show acc = ((recScan b).take (k + 1)).foldl takeRec [] from by rw [Hnext.out]; unfold takeRec; rw [if_neg ck])
        clear ck
        go_wp2_with fail
        go_roundw
        case rel => exact ⟨k + 1, m, acc, A', c', by omega, by go_num, rfl, hm, hml, Hwa2, Hnext2, hcode, Hbe2⟩
        case measure => simp [intOf]; omega
    · have hk' : k = n := by omega
      have hfin : acc = wordsP b := by
        rw [hacc.out, hk', Hnx.out]
        have : xs.length = (recScan b).length := by rw [← Hrs.out.1, List.length_map]
        rw [this, List.take_length]
        rfl
      have Hfin := Lib.hid hfin
      clear hfin
      subst hk'
      have HbW := Lib.hid (show Below w.heap.size w wo from by have h1 := HB.out; rw [← h1]; exact Hb1.out.trans (hbe.out.mono (by have h2 := Hb1.out.size; omega)))
      have EN := record_end (Sb := S) (.slice A bl c) b wo (Sl.below Hl.out HbW.out) (by rw [← Hbl.out]; exact hn)
      obtain ⟨re, hre⟩ : ∃ re, re = recEnd b := ⟨_, rfl⟩
      rw [← hre] at EN
      have hrel : re ≤ bl := by rw [hre, Hbl.out]; exact recEnd_le b
      obtain ⟨q, hq⟩ : ∃ q, q = (re + 3) / 4 := ⟨_, rfl⟩
      have hqi : Int.tdiv ((re : Int) + 4 - 1) 4 = (q : Int) := by
        rw [Int.tdiv_eq_ediv_of_nonneg (by omega), hq]; omega
      have hqb : q ≤ 1000000 := by omega
      have Hend := Lib.hid (show (min ((q : Int) * 4) (bl : Int)) = (wordsEnd b : Int) from by
        unfold wordsEnd
        rw [← hre, ← hq, ← Hbl.out]
        omega)
      clear hq hre
      go_wp2_with fail
      refine EN.mono ?_
      rintro e w5 ⟨rfl, hb5⟩
      have Hb5 := Lib.hid hb5; clear hb5
      go_wp2_with fail
      rw [Exit.noGoto_ret]
      go_ret2
      refine ⟨⟨.slice A' m c', ?_, ?_⟩, below_then HbW.out HbW.out.size Hb5.out⟩
      · rw [← Hend.out]; rfl
      · have h1 := HB.out
        rw [← Hfin.out, ← h1]
        exact hwa.out.below Hb5.out
end Go.Proofs.Ytmejngojpffcgaa

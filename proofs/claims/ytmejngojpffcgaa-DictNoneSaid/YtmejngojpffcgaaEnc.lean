import Derived.Lib.AppendStr
import Derived.Test.YtmejngojpffcgaaWords
import Derived.Test.YtmejngojpffcgaaImg
import Derived.Test.YtmejngojpffcgaaColl
namespace Go.Proofs.Ytmejngojpffcgaa
open Go.RowKit Go.Ls

theorem info8 : (Try.prog.info? 5).map (fun i => (i.zero, i.size, i.bytes)) = some (some (.int .u8 0), 1, 1) := by kernel_rfl
theorem app_str (w : World) (base : Nat) (ty : TypeId) (v : Value) (n : Nat) (xs : List Value) (hown : w.ownsRow base 5 1 v n xs) (name : List UInt8) (hn : n + name.length ≤ 140737488355328) (hb : base ≤ w.heap.size) :
    ∃ A c w', (Builtin.append_ #[27, 9] ty #[v, str name]).run Try.prog w = .ok (.slice A (n + name.length) c) w' ∧ w'.ownsRow base 5 1 (.slice A (n + name.length) c) (n + name.length) (xs ++ u8s name) ∧ w.grownBy w' v.ownBlock := by
  obtain ⟨i0, hi, hz0, hz1, hz2⟩ := info_parts info8
  have hs : (⟨name.toArray⟩ : ByteArray).size = name.length := by simp [ByteArray.size]
  obtain ⟨v', w', h1, h2, h3, _⟩ := Lib.run_append_own_string (P := Try.prog) (w := w) base 27 9 ty 5 i0 Try.underlying27 Try.underlying9 hi hz0 hz1 hz2 v n xs hown ⟨name.toArray⟩
    (by rw [hs]; have : maxLen = 9223372036854775807 := rfl; omega) (by rw [hs]; exact hn) hb
  rw [hs] at h2
  obtain ⟨A, c, rfl, _⟩ := own_form h2
  refine ⟨A, c, w', h1, ?_, h3⟩
  have hc : Lib.strCells ⟨name.toArray⟩ = u8s name := by simp [Lib.strCells, u8s, b8]
  rwa [hc] at h2
theorem len_str (name : List UInt8) (W : World) : (Builtin.len_ #[9] 3 #[str name]).run Try.prog W = .ok (.int .i64 name.length) W := by
  rw [str, run_len_string W 9 3 _ Try.underlying9]
  rfl
theorem right_bounds {x : Wd} (h : x.right = true) : x.name.length ≤ 31 ∧ x.code.length ≤ 1000 := by
  simp only [Wd.right, Bool.and_eq_true, Bool.not_eq_true', Bool.or_eq_false_iff, decide_eq_false_iff_not] at h
  omega
theorem flat4_length (c : List UInt32) : (c.flatMap le4).length = 4 * c.length := by
  induction c with
  | nil => rfl
  | cons a t ih => simp only [List.flatMap_cons, List.length_append, ih, le4, List.length_cons, List.length_nil]; omega
theorem zeroWord : (Try.prog.info? 25).map (·.size) = some 3 := by kernel_rfl
def RetEnc (w : World) (r : Option (List UInt8)) (e : Ending) (w' : World) : Prop :=
  Below w.heap.size w w' ∧ match r with
  | none => e = .returned (.tuple #[.slice none 0 0, .int .i64 100])
  | some b => ∃ v, e = .returned (.tuple #[v, .int .i64 0]) ∧ w'.ownsRow w.heap.size 5 1 v b.length (u8s b)
set_option maxRecDepth 100000 in
set_option maxHeartbeats 1000000 in
theorem image_encode {S : Nat → Prop} (v : Value) (l : List Wd) (w : World) (hl : WordsAt S w v l) (hn : l.length ≤ 1048576) :
    Calls Try.prog 57 #[v] w (RetEnc w (encode l)) := by
  have Hl := Lib.hid hl.bound
  have hform : ∃ A c, v = .slice A l.length c := by obtain ⟨ps, _, ⟨A, c, e, _⟩, _⟩ := hl; exact ⟨A, c, e⟩
  clear hl
  obtain ⟨A, c, rfl⟩ := hform
  go_enter Try.func57, Try.ntmps57
  go_wp2_with fail
  go_loopw [4, 12] (fun out i wr => ∃ (k : Nat) (A' : Option Addr) (c' n' : Nat), k ≤ l.length ∧ i = .int .i64 k ∧ out = .slice A' n' c' ∧ n' ≤ k * 4040 ∧ Hid (n' = ((l.take k).flatMap Wd.bytes).length) ∧
      Hid (wr.ownsRow w.heap.size 5 1 (.slice A' n' c') n' (u8s ((l.take k).flatMap Wd.bytes))) ∧ Hid ((l.take k).all Wd.right = true) ∧ Hid (Below w.heap.size w wr))
    (fun _ i _ => l.length - (intOf i).toNat)
  case atStart => exact ⟨0, none, 0, 0, Nat.zero_le _, rfl, rfl, Nat.zero_le _, rfl, World.ownsRow_nil _ _ _ _, rfl, Below.refl _ _⟩
  case round =>
    rename World => wo
    obtain ⟨k, A', c', n', hk, rfl, rfl, hn', hlen, hown, hright, hbe⟩ := hrel
    by_cases hlt : k < l.length
    · have hx : l[k]? = some l[k] := List.getElem?_eq_getElem hlt
      have Hlw := Lib.hid (Hl.out.keep (w' := wo) fun b _ hs => hbe.out.block b hs.2)
      obtain ⟨_, b, o, cv, rfl, hs, h0, h1, h2, h3⟩ := Hlw.out.word hx
      have Hx := Lib.hid hx; clear hx
      generalize l[k] = x at *
      obtain ⟨name, flags, code⟩ := x
      simp only at h0 h1 h2 h3
      obtain ⟨Ac, cc, rfl, hcc, hrc⟩ := h3
      have Hrc := Lib.hid hrc; clear hrc
      have hln := len_str name
      have hall : (#[str name, .int .u8 (b8 flags), .slice Ac code.length cc] : Array Value).all (·.oneCell') = true := by simp [str, Value.oneCell']
      have hbe1 : Below wo.heap.size wo _ := below_setRow ((Below.refl _ wo).alloc (Nat.le_refl _) (.cells #[.string ⟨#[]⟩, .int .u8 0, .slice none 0 0] 25)) (Nat.le_refl _) #[str name, .int .u8 (b8 flags), .slice Ac code.length cc]
      have hZ := Blk.new wo 25 #[.string ⟨#[]⟩, .int .u8 0, .slice none 0 0]
      have hB := hZ.row #[str name, .int .u8 (b8 flags), .slice Ac code.length cc]
      have HZ := Lib.hid hZ; clear hZ
      generalize hsv : str name = sv at *
      have Hwd := Lib.hid zeroWord
      go_wp2_with (refine wpList_store_row rfl 25 _ _ rfl wo.heap.size #[sv, .int .u8 (b8 flags), .slice Ac code.length cc] rfl rfl 25 _ HZ.out Hwd.out rfl hall ?_; refine stop_here ?_)
      obtain ⟨w1, hw1⟩ : ∃ w1, ((wo.alloc (.cells #[.string ⟨#[]⟩, .int .u8 0, .slice none 0 0] 25)).setRow wo.heap.size #[sv, .int .u8 (b8 flags), .slice Ac code.length cc]) = w1 := ⟨_, rfl⟩
      rw [hw1] at hbe1 hB ⊢
      clear hw1
      have g0 := hB.cellv (j := 0) rfl
      have g1 := hB.cellv (j := 1) rfl
      have g2 := hB.cellv (j := 2) rfl
      simp only [List.getElem_toArray, List.getElem_cons_zero, List.getElem_cons_succ] at g0 g1 g2
      have HW1 := Lib.hid (show WdAt (fun b => S b ∧ b < w.heap.size) w1 (.agg #[sv, .int .u8 (b8 flags), .slice Ac code.length cc]) ⟨name, flags, code⟩ from ⟨_, by rw [← hsv]; rfl, _, _, rfl, hcc, Hrc.out.below hbe1⟩)
      have Hright := image_right _ _ w1 HW1.out
      have HB := Lib.hid hB; clear hB
      have Hbe1 := Lib.hid hbe1; clear hbe1
      clear h0 h1 h2
      refine go_on ?_
      cases hrw : (Wd.mk name flags code).right with
      | false =>
        rw [hrw] at Hright
        have hres : encode l = none := by
          unfold encode
          rw [if_neg]
          intro h
          have := List.all_eq_true.1 h _ (List.mem_of_getElem? Hx.out)
          rw [hrw] at this
          cases this
        go_wp2_with fail
        refine Hright.mono ?_
        rintro e w2 ⟨rfl, hb2⟩
        have HB2 := Lib.hid (below_then hbe.out hbe.out.size (below_next Hbe1.out hb2)); clear hb2
        go_wp2_with fail
        go_ret2
        rw [hres]
        exact ⟨HB2.out, rfl⟩
      | true =>
        rw [hrw] at Hright
        go_wp2_with fail
        refine Hright.mono ?_
        rintro e w2 ⟨rfl, hb2⟩
        have HG := Lib.hid (HB.out.below hb2 HB.out.lt)
        have g0' := HG.out.cellv (j := 0) rfl
        have g1' := HG.out.cellv (j := 1) rfl
        have g2' := HG.out.cellv (j := 2) rfl
        simp only [List.getElem_toArray, List.getElem_cons_zero, List.getElem_cons_succ] at g0' g1' g2'
        have HB2 := Lib.hid (below_next Hbe1.out hb2)
        clear hb2 g0 g1 g2
        obtain ⟨pre, hpre⟩ : ∃ pre, (l.take k).flatMap Wd.bytes = pre := ⟨_, rfl⟩
        rw [hpre] at hlen hown
        have Hpre := Lib.hid hpre; clear hpre
        have Hrb := Lib.hid (show name.length ≤ 31 ∧ code.length ≤ 1000 from right_bounds hrw)
        have e1 : (name.length : Int) % 256 = b8 (UInt8.ofNat name.length) := by unfold b8; simp
        have e2 : (code.length : Int) % 256 = b8 (UInt8.ofNat code.length) := by unfold b8; simp
        have e3 : (code.length : Int) / 256 % 256 = b8 (UInt8.ofNat (code.length / 256)) := by unfold b8; simp
        have HO2 := Lib.hid (own_below hown.out HB2.out)
        have hsz2 := HB2.out.size
        have hszw := hbe.out.size
        have E1 := Lib.hid e1
        have E2 := Lib.hid e2
        have E3 := Lib.hid e3
        clear e1 e2 e3
        go_wp2_with (at_builtin; refine stop_here ?_)
        rw [E1.out, E2.out, E3.out]
        refine go_on ?_
        refine wpList_app elem8 rfl _ _ rfl w.heap.size (.slice A' n' c') n' (u8s pre) rfl (own_below HO2.out ((Below.refl _ _).alloc (Nat.le_refl _) _)) _ 4 4 (u8s [UInt8.ofNat name.length, flags, UInt8.ofNat code.length, UInt8.ofNat (code.length / 256)]) rfl
          (Row.blk (S := fun _ => True) (t := 5) (cs := (u8s [UInt8.ofNat name.length, flags, UInt8.ofNat code.length, UInt8.ofNat (code.length / 256)]).toArray) (heap_alloc_new _ _) trivial (n := 4) rfl) rfl (one8 _) (n' + 4) rfl (u8s (pre ++ [UInt8.ofNat name.length, flags, UInt8.ofNat code.length, UInt8.ofNat (code.length / 256)])) (u8s_append _ _) (by omega) (by omega) (by simp; omega) ?_
        intro A3 c3 w3 ho3 hg3 hor3
        have hlt3 : ∀ j, (Value.slice A' n' c').ownBlock = some j → w.heap.size ≤ j := fun j hj => (HO2.out.lt j hj).1
        have HB3 := Lib.hid (show Below w.heap.size w w3 from below_grown ((below_then hbe.out hszw HB2.out).alloc (by omega) _) hg3.out (by simp; omega) hlt3)
        have hb3ne : ∀ j, (Value.slice A' n' c').ownBlock = some j → j < wo.heap.size := fun j hj => (own_lt hown.out j hj).1
        have hG3 : Blk w3 wo.heap.size 25 _ := (hg3.out.block wo.heap.size (by have := HG.out.lt; simp; omega) (fun e => absurd (hb3ne _ e.symm) (Nat.lt_irrefl _))).trans (HG.out.alloc _)
        have q0 := hG3.cellv (j := 0) rfl
        simp only [List.getElem_toArray, List.getElem_cons_zero] at q0
        have HG3 := Lib.hid hG3; clear hG3
        clear g0' g1' g2' hg3
        have hsz3 := HB3.out.size
        obtain ⟨A4, c4, w4, hr4, ho4, hg4⟩ := app_str w3 w.heap.size 27 (.slice A3 (n' + 4) c3) (n' + 4) _ ho3.out name (by have := Hrb.out; omega) hsz3
        rw [hsv] at hr4
        have hlt4 : ∀ j, (Value.slice A3 (n' + 4) c3).ownBlock = some j → w.heap.size ≤ j := fun j hj => (ho3.out.lt j hj).1
        have HO4 := Lib.hid ho4; clear ho4
        have HB4 := Lib.hid (show Below w.heap.size w w4 from below_grown HB3.out hg4 hsz3 hlt4)
        have Hr4 := Lib.hid hr4; clear hr4
        have hG4 : Blk w4 wo.heap.size 25 _ := (hg4.block wo.heap.size HG3.out.lt (fun e => by
          rcases hor3.out with h | h
          · exact absurd (hb3ne _ (h ▸ e.symm)) (Nat.lt_irrefl _)
          · rw [h] at e
            have hlt := HG.out.lt
            simp at e
            omega)).trans HG3.out
        have p2 := hG4.cellv (j := 2) rfl
        simp only [List.getElem_toArray, List.getElem_cons_zero, List.getElem_cons_succ] at p2
        clear hG4 hg4 hor3
        go_wp2_with (at_builtin; go_must (refine wpList_append_eq rfl _ _ 27 9 rfl _ _ rfl rfl Hr4.out ?_))
        obtain ⟨front, hfront⟩ : ∃ front, pre ++ [UInt8.ofNat name.length, flags, UInt8.ofNat code.length, UInt8.ofNat (code.length / 256)] ++ name = front := ⟨_, rfl⟩
        have HOf := Lib.hid (show w4.ownsRow w.heap.size 5 1 (.slice A4 (n' + 4 + name.length) c4) (n' + 4 + name.length) (u8s front) from by rw [← hfront, u8s_append]; exact HO4.out)
        have Hfront := Lib.hid hfront; clear hfront HO4
        go_loopw [4, 43] (fun out i wi => ∃ (j : Nat) (Ao : Option Addr) (co no : Nat), j ≤ code.length ∧ i = .int .i64 j ∧ out = .slice Ao no co ∧ Hid (no = n' + 4 + name.length + 4 * j) ∧
            Hid (wi.ownsRow w.heap.size 5 1 (.slice Ao no co) no (u8s (front ++ (code.take j).flatMap le4))) ∧ Hid (Below w.heap.size w wi))
          (fun _ i _ => code.length - (intOf i).toNat)
        case atStart => exact ⟨0, A4, c4, _, Nat.zero_le _, rfl, rfl, (show _ = _ from rfl), by rw [List.take_zero, List.flatMap_nil, List.append_nil]; exact HOf, HB4⟩
        case round =>
          obtain ⟨j, Ao, co, no, hj, rfl, rfl, hno, hoi, hbi⟩ := hrel
          by_cases hjl : j < code.length
          · have hxj : code[j]? = some code[j] := List.getElem?_eq_getElem hjl
            have Hri := Lib.hid (Hrc.out.keep (w' := wr) fun z hz hs => (hbi.out.block z hs.2).trans (hbe.out.block z hs.2).symm)
            obtain ⟨bcode, oc, rfl, _, hcellj⟩ := Hri.out.at_ (u32s_get hjl)
            have Hxj := Lib.hid hxj; clear hxj
            generalize code[j] = y at *
            have hszi := hbi.out.size
            have hrb := Hrb.out.2
            have Hle := Lib.hid (show u8s (front ++ (code.take (j + 1)).flatMap le4) = u8s (front ++ (code.take j).flatMap le4) ++ u8s (le4 y) from by
              rw [← u8s_append, List.append_assoc]
              congr 2
              rw [List.take_add_one, Hxj.out]
              simp)
            have Hrb2 := Lib.hid hrb; clear hrb
            go_wp2_with (at_builtin; go_must (refine wpList_app elem8 rfl _ _ rfl w.heap.size (.slice Ao no co) no (u8s (front ++ (code.take j).flatMap le4)) rfl (own_below hoi.out ((Below.refl _ _).alloc (Nat.le_refl _) _)) _ 4 4 (u8s (le4 y)) rfl (Row.blk (S := fun _ => True) (t := 5) (cs := (u8s (le4 y)).toArray) (heap_alloc_new _ _) trivial (n := 4) rfl) rfl (one8 _) (no + 4) rfl (u8s (front ++ (code.take (j + 1)).flatMap le4)) Hle.out (by have := Hrb.out; have := hno.out; omega) (by have := Hrb.out; have := hno.out; omega) (by simp; omega) ?_); intro A5 c5 w5 ho5 hg5 _; refine stop_here ?_)
            have hlt5 : ∀ z, (Value.slice Ao no co).ownBlock = some z → w.heap.size ≤ z := fun z hz => (hoi.out.lt z hz).1
            have HB5 := Lib.hid (show Below w.heap.size w w5 from below_grown (hbi.out.alloc hszi _) hg5.out (by simp; omega) hlt5)
            clear hg5
            have hcl : code.length ≤ 1000 := Hrb.out.2
            have hno' := Lib.hid (show no + 4 = n' + 4 + name.length + 4 * (j + 1) from by have := hno.out; omega)
            refine go_on ?_
            go_wp2_with fail
            go_roundw
            case rel => exact ⟨j + 1, A5, c5, no + 4, by omega, by go_num, rfl, hno', ho5, HB5⟩
            case measure => simp [intOf]; omega
          · obtain rfl : j = code.length := by omega
            rw [List.take_length] at hoi
            have hbytes : front ++ code.flatMap le4 = pre ++ (Wd.mk name flags code).bytes := by rw [← Hfront.out]; simp [Wd.bytes]
            rw [hbytes] at hoi
            have Hout := Lib.hid (show (l.take (k + 1)).flatMap Wd.bytes = pre ++ (Wd.mk name flags code).bytes from by rw [List.take_add_one, Hx.out, ← Hpre.out]; simp)
            have Hall := Lib.hid (show (l.take (k + 1)).all Wd.right = true from by rw [List.take_add_one, Hx.out, List.all_append, hright.out]; simp [hrw])
            have hbl : (Wd.mk name flags code).bytes.length = 4 + name.length + 4 * code.length := by
              simp only [Wd.bytes, List.length_append, flat4_length, List.length_cons, List.length_nil]; omega
            have Hno := Lib.hid (show no = (pre ++ (Wd.mk name flags code).bytes).length from by rw [List.length_append, hbl, ← hlen.out]; have := hno.out; omega)
            have hno2 : no ≤ (k + 1) * 4040 := by have := Hrb.out; have := hno.out; omega
            clear hbl hbytes
            go_wp2_with fail
            go_roundw
            case rel => exact ⟨k + 1, Ao, co, no, by omega, by go_num, rfl, hno2, by rw [Hout.out]; exact Hno, by rw [Hout.out]; exact hoi, Hall, hbi⟩
            case measure => simp [intOf]; omega
    · obtain rfl : k = l.length := by omega
      rw [List.take_length] at hlen hown hright
      have hres : encode l = some (l.flatMap Wd.bytes) := if_pos hright.out
      go_wp2_with fail
      go_ret2
      rw [hres]
      refine ⟨hbe.out, _, rfl, ?_⟩
      rw [← hlen.out]
      exact hown.out
end Go.Proofs.Ytmejngojpffcgaa

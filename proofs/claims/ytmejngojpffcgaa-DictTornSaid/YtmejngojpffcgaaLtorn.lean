/- Part of the proof of lightshiplaw15.DictTorn. No condition beyond those each theorem names. -/
import Derived.Test.YtmejngojpffcgaaPtorn
import Derived.Test.YtmejngojpffcgaaPower
import Derived.Deep.Cut
namespace Go.Proofs.Ytmejngojpffcgaa
open Go.RowKit Go.Ls
attribute [local irreducible] wpQuiet wpList Code.wp
/-- A builtin whose run is known, behind a guard that holds. -/
theorem wpList_append_eq_g {P : Program} {ops : Array Oper} {o : Oper} {rest : List Oper} {a : Act} {w : World} {Q : Exit → Act → World → Prop} (hw : Region.wanted o (yielded ops a.tmps) = true) (s x : Operand) (t t' : TypeId) (ho : o.op = .call { callee := .builtin .append, args := #[s, x], argTypes := #[t, t'] }) (v u : Value) (hs : a.eval s = v) (hx : a.eval x = u)
    {v' : Value} {w' : World} (hr : (Builtin.append_ #[t, t'] o.type #[v, u]).run P w = .ok v' w') (h : wpList P ops Q rest (a.put o.dst v') w') : wpList P ops Q (o :: rest) a w := by
  simp only [wpList, hw, if_true]
  left
  unfold Oper.wp execOp
  simp only [ho, resolve, invoke, builtin, Sem.run_bind, Sem.run_pure, Result.andThen_ok, List.map_toArray, List.map_cons, List.map_nil, hs, hx, hr]
  exact h
theorem below_only {B : Nat} {u v w : World} {D : Nat → Prop} (h : Below B u v) (k : Only D v w) (hB : B ≤ v.heap.size) (hD : ∀ z, D z → z < v.heap.size → B ≤ z) : Below B u w :=
  ⟨k.os.trans h.os, k.tape.trans h.tape, k.output.trans h.output, Nat.le_trans h.size k.size, fun j hj => (k.block j (Nat.lt_of_lt_of_le hj hB) fun hd => by have := hD j hd (Nat.lt_of_lt_of_le hj hB); omega).trans (h.block j hj)⟩
set_option maxRecDepth 100000 in
set_option maxHeartbeats 4000000 in
theorem law_torn {S : Nat → Prop} (v xv mv : Value) (L : List Wd) (x : Wd) (k : Nat) (mask : List UInt8) (w : World) (hl : WordsAt S w v L) (hx : WdAt S w xv x) (hm : Sl8 S w mv mask) (hS : ∀ z, S z → z < w.heap.size) (hn : L.length ≤ maxLen) (hxc : x.code.length ≤ maxLen) (hml : mask.length ≤ 140737488355328) (hk : k ≤ 255) :
    Calls Try.prog 9 #[v, xv, .int .u8 k, mv] w fun e w' => e = .returned (.bool true) ∧ Below w.heap.size w w' := by
  obtain ⟨cv, rfl, hxs⟩ := hx
  obtain ⟨Ac, cc, rfl, hcc, hrc⟩ := hxs
  have hxs : Sl32 S w (.slice Ac x.code.length cc) x.code := ⟨Ac, cc, rfl, hcc, hrc⟩
  clear hrc
  simp only [wdV]
  obtain ⟨sb, hsb⟩ : ∃ sb, str x.name = .string sb := ⟨_, rfl⟩
  rw [hsb]
  obtain ⟨m, hmc⟩ : ∃ m, m = x.code.length := ⟨_, rfl⟩
  rw [← hmc] at hcc hxs ⊢
  have hbx : Below w.heap.size w (w.alloc (.cells #[.string sb, .int .u8 (b8 x.flags), .slice Ac m cc] 25)) := (Below.refl _ w).alloc (Nat.le_refl _) _
  have HW0 := Lib.hid (Blk.new w 25 #[.string sb, .int .u8 (b8 x.flags), .slice Ac m cc])
  have BG := law_begun v L _ (hl.below hbx) (fun z hz => by have := hS z hz; simp; omega) hn
  have Hxs := Lib.hid (Sl.below hxs hbx)
  have Hms := Lib.hid (Sl.below hm hbx)
  have Hbx := Lib.hid hbx
  have Hs0 := Lib.hid (show (w.alloc (.cells #[.string sb, .int .u8 (b8 x.flags), .slice Ac m cc] 25)).heap.size = w.heap.size + 1 by simp)
  have Hsb := Lib.hid hsb
  have Hmc := Lib.hid hmc
  have HS := Lib.hid hS
  clear hl hxs hm hS hn hbx hsb hmc
  go_enter Try.func9, Try.ntmps9
  go_wp2_with fail
  generalize (w.alloc (.cells #[.string sb, .int .u8 (b8 x.flags), .slice Ac m cc] 25)) = w0 at *
  refine BG.mono ?_
  rintro e w1 ⟨b, bc, o, hv, l, g, rfl, hg, hf1, hw1, hb1, hb, hbc⟩
  clear BG
  have HW1 := Lib.hid (HW0.out.below hb1 HW0.out.lt)
  have Hx1 := Lib.hid (Sl.below Hxs.out hb1)
  have Hm1 := Lib.hid (Sl.below Hms.out hb1)
  have Hg := Lib.hid hg
  have HF1 := Lib.hid hf1
  have HV1 := Lib.hid hw1
  have HB1 := Lib.hid hb1
  have Hbg := Lib.hid (show w0.heap.size ≤ b ∧ w0.heap.size ≤ bc from ⟨hb, hbc⟩)
  have hm100 : l.length ≤ 12 := hg.many
  have hu7 : ∃ A c, hv = .slice A l.length c := by obtain ⟨ps, _, ⟨A, c, e, _⟩, _⟩ := hw1; exact ⟨A, c, e⟩
  obtain ⟨A7, c7, rfl⟩ := hu7
  obtain ⟨k7, hk7⟩ : ∃ k, k = l.length := ⟨_, rfl⟩
  have R1 := Lib.hid (reg_first HV1.out (by omega) 29)
  have R2 := Lib.hid (reg_second (S := Beside S w0.heap.size b bc) (l := l) (x := x) (Sl.mono Hx1.out fun z hz => .inl hz) (by omega) 29)
  rw [← hk7] at R1 HV1 hm100 ⊢
  rw [Hsb.out] at R2
  have Hk7 := Lib.hid hk7
  have HK := Lib.hid (show ∀ W, Below w1.heap.size w1 W → Below w1.heap.size w1 W ∧ W.cell? ⟨w.heap.size, 0, none⟩ = some (.string sb) ∧ W.cell? ⟨w.heap.size, 1, none⟩ = some (.int .u8 (b8 x.flags)) ∧ W.cell? ⟨w.heap.size, 2, none⟩ = some (.slice Ac m cc) from fun W hW => by
    have h := HW1.out.below hW HW1.out.lt
    exact ⟨hW, h.cellv rfl, h.cellv rfl, h.cellv rfl⟩)
  clear hg hf1 hw1 hb1 hb hbc hk7 HW0 Hxs Hms
  go_wp2_with fail
  go_cut [12] from 32 (fun v12 W => ∃ A12 c12, v12 = .slice A12 (k7 + 1) c12 ∧ WordsAt (Go.Ls.Or (fun z => Beside S w0.heap.size b bc z ∧ z < w1.heap.size) w1.heap.size) W v12 (l ++ [x]) ∧ Below w1.heap.size w1 W)
  case first =>
    go_region_held3 (fun W => Below w1.heap.size w1 W ∧ W.cell? ⟨w.heap.size, 0, none⟩ = some (.string sb) ∧ W.cell? ⟨w.heap.size, 1, none⟩ = some (.int .u8 (b8 x.flags)) ∧ W.cell? ⟨w.heap.size, 2, none⟩ = some (.slice Ac m cc))
      (first | (refine HK.out _ ?_; assumption) | (refine HK.out _ ?_; exact ⟨rfl, rfl, rfl, Nat.le_refl _, fun _ _ => rfl⟩) | (go_split_ands; refine HK.out _ ?_; refine Below.alloc (by assumption) (Below.size (by assumption)) _))
      (first
        | ((refine step_append_ex (by rfl) (.tmp 32) (.tmp 33) 29 29 (by rfl) _ _ (by rfl) (by rfl) _ (R1.out _ _ (by go_split_ands; assumption) (own_empty_blk (by first | exact Blk.drew (Blk.new _ _ _) | exact Blk.drew ((Blk.new _ _ _).alloc _) | exact Blk.drew (blk_new' (by simp))) (by simp))) ?_; rintro _ w7 ⟨⟨A8, c8, rfl⟩, hm7, hb7, hk7⟩))
        | ((refine step_append_ex (by rfl) (.tmp 34) (.tmp 36) 29 29 (by rfl) _ _ (by rfl) (by rfl) _ (R2.out _ _ _ _ _ (by go_split_ands; assumption) (by first | exact hm7 | exact hm7.below ((Below.refl _ _).alloc (Nat.le_refl _) _)) (by first | exact Blk.new w7 _ _ | exact hk7 _ _ (by simp) (Blk.drew (blk_new' (by simp))) | exact hk7 _ _ (by simp) (Blk.drew ((Blk.new _ _ _).alloc _)))) ?_; rintro _ w8 ⟨⟨A9, c9, rfl⟩, hm8, hb8⟩)))
    all_goals
      go_wp2_with fail
      go_meet
    all_goals exact ⟨_, _, rfl, hm8, hb8⟩
  case rest =>
    obtain ⟨A12, c12, rfl, hw12, hb12⟩ := hcut
    clear R1 R2
    have Hw12 := Lib.hid hw12
    have Hb12 := Lib.hid (below_then HB1.out HB1.out.size hb12)
    have Hx12 := Lib.hid (Sl.below Hx1.out hb12)
    have Hm12 := Lib.hid (Sl.below Hm1.out hb12)
    have HF12 := Lib.hid (HF1.out.below hb12)
    have HV12 := Lib.hid (HV1.out.below hb12)
    obtain ⟨_, q0, q1, q2⟩ := HK.out _ hb12
    have HWc := Lib.hid (HW1.out.below hb12 HW1.out.lt)
    have Hlt := Lib.hid (show b < w1.heap.size ∧ bc < w1.heap.size ∧ w1.heap.size ≤ wc.heap.size from ⟨HF1.out.lt.1, HF1.out.lt.2, hb12.size⟩)
    clear HK HW1 Hx1 Hm1 HF1 HV1 hw12 hb12 q0 q1
    by_cases c60 : m ≤ 60
    · have c60i : ¬ (60 : Int) < m := by omega
      have hcd : ∀ y ∈ l ++ [x], y.code.length ≤ 1099511627776 := fun y hy => by
        rcases List.mem_append.1 hy with h | h
        · have := Hg.out.codes y h; omega
        · obtain rfl : y = x := by simpa using h
          have := Hmc.out
          omega
      have CK := prim_check _ (l ++ [x]) wc Hw12.out (by have := Hk7.out; rw [List.length_append]; simp; omega) hcd
      obtain ⟨z, hz⟩ : ∃ z, z = checkZ (l ++ [x]) := ⟨_, rfl⟩
      rw [← hz] at CK
      have hzw : (z == -1) = withP l x := by rw [hz]; exact Hg.out.check (by omega) x
      cases hwi : withP l x with
      | false =>
        rw [hwi] at hzw
        have hzn : (z != -1) = true := by rw [bne, hzw]; rfl
        clear hz hzw hwi hcd
        go_wp2_with fail
        refine CK.mono ?_
        clear CK
        rintro e w13 ⟨rfl, hb13⟩
        have Hb13 := Lib.hid (below_then Hb12.out Hb12.out.size hb13)
        have AW := law_awake w13
        clear hb13
        go_wp2_with fail
        refine AW.mono ?_
        rintro e w14 ⟨rfl, hb14⟩
        have Hb14 := Lib.hid (below_then Hb13.out Hb13.out.size hb14)
        clear hb14
        go_wp2_with fail
        go_ret
        exact ⟨rfl, Hbx.out.trans (Hb14.out.mono (by have := Hs0.out; omega))⟩
      | true =>
        rw [hwi] at hzw
        have hzn : (z != -1) = false := by rw [bne, hzw]; rfl
        have Hwi := Lib.hid hwi
        clear hz hzw hwi hcd
        obtain ⟨a, hmod, ha⟩ : ∃ a : Nat, ((k : Int)).tmod 4 = a ∧ a ≤ 3 := ⟨k % 4, rfl, by omega⟩
        go_wp2_with fail
        refine CK.mono ?_
        clear CK
        rintro e w13 ⟨rfl, hb13⟩
        have Hw13 := Lib.hid (Hw12.out.below hb13)
        have Hb13 := Lib.hid (below_then Hb12.out Hb12.out.size hb13)
        have Hx13 := Lib.hid (Sl.below Hx12.out hb13)
        have Hm13 := Lib.hid (Sl.below Hm12.out hb13)
        have HF13 := Lib.hid (HF12.out.below hb13)
        have HV13 := Lib.hid (HV12.out.below hb13)
        have HW13 := Lib.hid (HWc.out.below hb13 HWc.out.lt)
        have Hlt13 := Lib.hid (show b < w1.heap.size ∧ bc < w1.heap.size ∧ w1.heap.size ≤ w13.heap.size from ⟨Hlt.out.1, Hlt.out.2.1, Nat.le_trans Hlt.out.2.2 hb13.size⟩)
        clear hb13 Hw12 Hb12 Hx12 Hm12 HF12 HV12 HWc Hlt
        have AR := flash_arm w13 b bc o g HF13.out Hg.out.down a (by omega) mv mask Hm13.out hml (fun j hj => by have := Hlt13.out; rcases hj with rfl | rfl <;> omega)
        go_wp2_with fail
        refine AR.mono ?_
        clear AR
        rintro e w14 ⟨rfl, hf14, ho14⟩
        have HF14 := Lib.hid hf14.within
        have hsz14 := ho14.size
        have hOld : ∀ z, (z < w13.heap.size ∧ z ≠ b ∧ z ≠ bc) → z < w14.heap.size ∧ ¬ (((z = b ∨ z = bc) ∨ w13.heap.size ≤ z) ∧ z < w14.heap.size) := fun z hz => by omega
        have HOld := Lib.hid hOld
        have HD1 := Lib.hid (show ∀ z, ((((z = b ∨ z = bc) ∨ w13.heap.size ≤ z) ∧ z < w14.heap.size)) → z < w14.heap.size ∧ w0.heap.size ≤ z from fun z hz => by
          have h1 := Hbg.out
          have h2 := Hb13.out.size
          omega)
        have Hx14 := Lib.hid (show Sl32 (fun z => z < w13.heap.size ∧ z ≠ b ∧ z ≠ bc) w14 (.slice Ac m cc) x.code from (Sl.mono (Sl.keep Hx13.out fun z hz hS => ho14.block z hz (by have h1 := Hbg.out; have h2 := HS.out z hS; have h3 := Hs0.out; rintro (h | h) <;> omega)) fun z hz => by
          have h1 := Hbg.out
          have h2 := HS.out z hz
          have h3 := Hs0.out
          have h4 := Hb13.out.size
          omega))
        have HV14 := Lib.hid (show WordsAt (fun z => z < w13.heap.size ∧ z ≠ b ∧ z ≠ bc) w14 (.slice A7 k7 c7) l from ((HV13.out.bound.mono fun z hz => by
          have h1 := Hbg.out
          have h3 := Hs0.out
          obtain ⟨h | h, h4⟩ := hz
          · have h2 := HS.out z h; exact ⟨h4, by omega, by omega⟩
          · exact ⟨h4, h.2⟩) : WordsAt (fun z => z < w13.heap.size ∧ z ≠ b ∧ z ≠ bc) w13 _ _).keep fun z hz hS => ho14.block z hz (by rintro (h | h) <;> omega))
        have Hw14 := Lib.hid (show WordsAt (fun z => z < w13.heap.size ∧ z ≠ b ∧ z ≠ bc) w14 (.slice A12 (k7 + 1) c12) (l ++ [x]) from ((Hw13.out.bound.mono fun z hz => by
          have h1 := Hbg.out
          have h3 := Hs0.out
          have h5 := Hlt13.out
          obtain ⟨⟨h | h, h6⟩ | h, h4⟩ := hz
          · have h2 := HS.out z h; exact ⟨h4, by omega, by omega⟩
          · exact ⟨h4, h.2⟩
          · exact ⟨h4, by omega, by omega⟩) : WordsAt (fun z => z < w13.heap.size ∧ z ≠ b ∧ z ≠ bc) w13 _ _).keep fun z hz hS => ho14.block z hz (by rintro (h | h) <;> omega))
        have Hb14 := Lib.hid (below_only Hb13.out ho14 Hb13.out.size (fun z hz _ => by have h1 := Hbg.out; rcases hz with h | h <;> omega))
        have hw14 : Blk w14 w.heap.size 25 #[.string sb, .int .u8 (b8 x.flags), .slice Ac m cc] := (ho14.block _ HW13.out.lt (by have h1 := Hbg.out; have h2 := Hs0.out; rintro (h | h) <;> omega)).trans HW13.out
        have y0 := hw14.cellv (j := 0) rfl
        have y1 := hw14.cellv (j := 1) rfl
        have y2 := hw14.cellv (j := 2) rfl
        simp only [List.getElem_toArray, List.getElem_cons_zero, List.getElem_cons_succ] at y0 y1 y2
        clear hf14 ho14 Hw13 Hb13 Hx13 Hm13 HF13 HV13 HW13 hOld hw14 q2
        have AP := dict_append_any (S := fun z => z < w13.heap.size ∧ z ≠ b ∧ z ≠ bc) w14 b bc o _ HF14.out Hg.out.down 512 4096 (by omega) (by omega) (by show 512 + 4096 ≤ g.cells.length; rw [Hg.out.len]; omega) (by show g.cells.length ≤ _; rw [Hg.out.len]; omega) (.agg #[.string sb, .int .u8 (b8 x.flags), .slice Ac m cc]) x ⟨.slice Ac m cc, by rw [wdV, Hsb.out], Hx14.out⟩
          HOld.out (fun z hz => hz.2) (by rw [← Hmc.out]; omega)
        have hseg : wordsP (({ cells := g.cells, sectors := g.sectors, power := some (a, mask), down := g.down } : Fl).seg 512 4096) = l := Hg.out.laid.words 4096 (by have := Hg.out.size; omega) (by have := Hg.out.size; omega)
        rw [hseg] at AP
        clear hseg
        have Hwd := Lib.hid zeroWord
        rcases Hg.out.torn x Hwi.out (by rw [← Hmc.out]; omega) a mask with ⟨g2, hap, hdn2, lw, hlw, hup⟩ | ⟨g2, hap⟩
        · rw [hap] at AP
          go_wp2_with fail
          refine AP.mono ?_
          clear AP
          rintro e w15 ⟨hf15, ho15, hr15⟩
          rw [if_neg (by show ¬ (12 : Nat) = 0; decide)] at hr15
          subst hr15
          have HF15 := Lib.hid hf15
          have Hb15 := Lib.hid (below_only Hb14.out ho15 Hb14.out.size fun z hz _ => (HD1.out z hz).2)
          have HV15 := Lib.hid (HV14.out.keep fun z hz hS => ho15.block z hz (HOld.out z hS).2)
          have Hw15 := Lib.hid (Hw14.out.keep fun z hz hS => ho15.block z hz (HOld.out z hS).2)
          have hsz15 := ho15.size
          have Hhlw := Lib.hid hlw
          have Hup := Lib.hid hup
          clear hf15 ho15 hlw hup hap HF14 HV14 Hw14 Hx14 Hb14 y0 y1 y2
          have DN := flash_down w15 b bc o g2 HF15.out
          rw [hdn2] at DN
          go_wp2_with fail
          refine DN.mono ?_
          clear DN
          rintro e w' ⟨rfl, rfl⟩
          have UP := flash_up w15 b bc o g2 HF15.out
          go_wp2_with fail
          refine UP.mono ?_
          clear UP
          rintro e w17 ⟨rfl, hf17, ho17⟩
          have hOb : ∀ z, (z < w13.heap.size ∧ z ≠ b ∧ z ≠ bc) → ¬ z = b := fun z hz => hz.2.1
          have HF17 := Lib.hid hf17
          have HV17 := Lib.hid (HV15.out.keep fun z hz hS => ho17.block z hz (hOb z hS))
          have Hw17 := Lib.hid (Hw15.out.keep fun z hz hS => ho17.block z hz (hOb z hS))
          have Hb17 := Lib.hid (below_only Hb15.out ho17 Hb15.out.size fun z hz _ => by have := Hbg.out; omega)
          have hsz17 := ho17.size
          have Hb17s := Lib.hid (Nat.le_trans Hb15.out.size hsz17)
          clear hf17 ho17 HF15 HV15 Hw15 Hb15 hOb hdn2
          obtain ⟨g3, hg3⟩ : ∃ g3, g3 = ({ cells := g2.cells, sectors := g2.sectors, power := none, down := false } : Fl) := ⟨_, rfl⟩
          rw [← hg3] at HF17 Hup
          have hdn3 : g3.down = false := by rw [hg3]
          clear hg3
          have LD := dict_load_own w17 b bc o g3 HF17.out 512 4096 (by omega) (by omega) (by omega) (by omega) (by rw [Hup.out.len]; omega)
          go_wp2_with fail
          refine LD.mono ?_
          clear LD
          rintro e w18 ⟨hb18, ⟨hd, rfl⟩ | ⟨hd, hs, rfl⟩ | ⟨hd, hs, v18, rfl, hv18⟩⟩
          · rw [hdn3] at hd; cases hd
          · rw [Hup.out.len] at hs; omega
          rw [Hup.out.words] at hv18
          have HF18 := Lib.hid (HF17.out.below hb18)
          have HV18 := Lib.hid (HV17.out.below hb18)
          have Hw18 := Lib.hid (Hw17.out.below hb18)
          have Hv18 := Lib.hid hv18
          have Hb18 := Lib.hid (below_then Hb17.out Hb17.out.size hb18)
          have hsz18 := hb18.size
          have Hfew := Lib.hid Hup.out.few
          have hcd : ∀ y ∈ l ++ [x], y.code.length ≤ 60 := fun y hy => by
            rcases List.mem_append.1 hy with h | h
            · exact Hg.out.codes y h
            · obtain rfl : y = x := by simpa using h
              have := Hmc.out
              omega
          have Hcd := Lib.hid hcd
          have Hcl := Lib.hid (show ∀ y ∈ lw, y.code.length ≤ 60 from fun y hy => by
            rcases Hhlw.out with rfl | rfl
            · exact Hg.out.codes y hy
            · exact hcd y hy)
          clear hb18 hd hs hv18 HF17 HV17 Hw17 Hb17 hcd
          have Hob := Lib.hid (show ∀ z, v18.ownBlock = some z → z < w18.heap.size from fun z hz => by
            obtain ⟨B', _, _, ps, _, ho, _⟩ := Hv18.out
            exact (own_lt ho z hz).1)
          have hf18 : ∃ A c, v18 = .slice A lw.length c := Hv18.out.form
          obtain ⟨A18, c18, rfl⟩ := hf18
          obtain ⟨k18, hk18⟩ : ∃ k, k = lw.length := ⟨_, rfl⟩
          rw [← hk18] at Hv18 Hfew Hob ⊢
          have Hk18 := Lib.hid hk18; clear hk18
          go_upto_region 13 with fail
          go_cut [102] from 89 (fun v102 W => v102 = .bool false ∧ Below w18.heap.size w18 W)
          case first =>
            have A1 := law_all (.slice A18 k18 c18) (.slice A7 k7 c7) lw l w18 Hv18.out.words HV18.out (by have := Hfew.out; have := Hk18.out; omega) (fun y hy => by have := Hg.out.codes y hy; omega)
            rcases Hhlw.out with h | h
            · rw [h, (allW_iff l l).2 rfl] at A1
              clear h
              go_wp2_with fail
              refine A1.mono ?_
              clear A1
              rintro e w19 ⟨rfl, hb19⟩
              have Hb19 := Lib.hid hb19; clear hb19
              go_wp2_with fail
              go_meet
              case rel => exact ⟨rfl, Hb19.out⟩
            · have hne : allW (l ++ [x]) l = false := by
                cases he : allW (l ++ [x]) l with
                | false => rfl
                | true => have := congrArg List.length ((allW_iff _ _).1 he); simp at this
              rw [h, hne] at A1
              clear hne
              go_wp2_with fail
              refine A1.mono ?_
              clear A1
              rintro e w19 ⟨rfl, hb19⟩
              have Hb19 := Lib.hid hb19; clear hb19
              have A2 := law_all (.slice A18 k18 c18) (.slice A12 (k7 + 1) c12) lw (l ++ [x]) w19 (Hv18.out.words.below Hb19.out) (Hw18.out.below Hb19.out) (by have := Hfew.out; have := Hk18.out; omega) (fun y hy => by have := Hcd.out y hy; omega)
              rw [h, (allW_iff _ _).2 rfl] at A2
              clear h
              go_wp2_with fail
              refine A2.mono ?_
              clear A2
              rintro e w20 ⟨rfl, hb20⟩
              have Hb20 := Lib.hid (below_then Hb19.out Hb19.out.size hb20); clear hb20
              go_wp2_with fail
              go_meet
              case rel => exact ⟨rfl, Hb20.out⟩
          case rest =>
            obtain ⟨rfl, hb20⟩ := hcut
            have HF20 := Lib.hid (HF18.out.below hb20)
            have Hv20 := Lib.hid (Hv18.out.below hb20)
            have Hb20 := Lib.hid (below_then Hb18.out Hb18.out.size hb20)
            have hsz20 := hb20.size
            clear hb20 HF18 Hv18 Hb18 HV18 Hw18
            obtain ⟨g4, hap4, hwd4, hln4, hdn4, hpw4⟩ := Hup.out.next
            have Hwd4 := Lib.hid hwd4
            have Hln4 := Lib.hid hln4
            have hbC : Blk ((wc.alloc (.cells #[.int .u32 101] 51)).alloc (.cells #[.string ⟨#[110, 101, 120, 116]⟩, .int .u8 0, .slice (some ⟨wc.heap.size, 0, none⟩) 1 1] 25)) wc.heap.size 51 #[.int .u32 101] := (Blk.new wc _ _).alloc _
            have hbN : Blk ((wc.alloc (.cells #[.int .u32 101] 51)).alloc (.cells #[.string ⟨#[110, 101, 120, 116]⟩, .int .u8 0, .slice (some ⟨wc.heap.size, 0, none⟩) 1 1] 25)) (wc.heap.size + 1) 25 #[.string ⟨#[110, 101, 120, 116]⟩, .int .u8 0, .slice (some ⟨wc.heap.size, 0, none⟩) 1 1] := blk_new' (by simp)
            have hb2 : Below wc.heap.size wc ((wc.alloc (.cells #[.int .u32 101] 51)).alloc (.cells #[.string ⟨#[110, 101, 120, 116]⟩, .int .u8 0, .slice (some ⟨wc.heap.size, 0, none⟩) 1 1] 25)) := ((Below.refl _ wc).alloc (Nat.le_refl _) _).alloc (by simp) _
            have HbC := Lib.hid hbC
            have HbN := Lib.hid hbN
            have Hb2 := Lib.hid hb2
            clear hbC hbN hb2 hwd4 hln4
            go_wp2_with fail
            generalize ((wc.alloc (.cells #[.int .u32 101] 51)).alloc (.cells #[.string ⟨#[110, 101, 120, 116]⟩, .int .u8 0, .slice (some ⟨wc.heap.size, 0, none⟩) 1 1] 25)) = w21 at *
            have HF21 := Lib.hid (HF20.out.below Hb2.out)
            have Hv21 := Lib.hid (Hv20.out.below Hb2.out)
            have Hb21 := Lib.hid (below_then Hb20.out Hb20.out.size Hb2.out)
            have hszc := Hb2.out.size
            have hltN := HbN.out.lt
            clear HF20 Hv20 Hb20 Hb2
            have AP := dict_append_any (S := fun z => z = wc.heap.size) w21 b bc o g3 HF21.out hdn3 512 4096 (by omega) (by omega) (by rw [Hup.out.len]; omega) (by rw [Hup.out.len]; omega) (.agg #[.string ⟨#[110, 101, 120, 116]⟩, .int .u8 0, .slice (some ⟨wc.heap.size, 0, none⟩) 1 1]) xn ⟨_, rfl, ⟨_, 1, rfl, Nat.le_refl _, Row.blk HbC.out rfl (n := 1) rfl⟩⟩
              (fun z hz => by subst hz; exact ⟨by omega, fun h => by omega⟩) (fun z hz => by have := (HD1.out z hz).1; omega) (by decide)
            rw [hap4, Hup.out.words] at AP
            refine AP.mono ?_
            clear AP
            rintro e w22 ⟨hf22, ho22, hr22⟩
            rw [if_pos rfl] at hr22
            obtain ⟨v22, rfl, hv22⟩ := hr22
            have HF22 := Lib.hid hf22
            have HV22 := Lib.hid hv22
            have Hv22 := Lib.hid (WordsNew.keep Hv21.out ho22.size fun z hz hS => ho22.block z hz fun hd => by have := (HD1.out z hd).1; omega)
            have HbN22 := Lib.hid ((ho22.block _ HbN.out.lt (fun hd => by have := (HD1.out _ hd).1; omega)).trans HbN.out)
            have HbC22 := Lib.hid ((ho22.block _ HbC.out.lt (fun hd => by have := (HD1.out _ hd).1; omega)).trans HbC.out)
            have Hb22 := Lib.hid (below_only Hb21.out ho22 Hb21.out.size fun z hz _ => (HD1.out z hz).2)
            have hsz22 := ho22.size
            clear hf22 ho22 hv22 HF21 Hv21 Hb21 HbN HbC
            have LD := dict_load_own w22 b bc o g4 HF22.out 512 4096 (by omega) (by omega) (by omega) (by omega) (by rw [Hln4.out]; omega)
            go_wp2_with fail
            refine LD.mono ?_
            clear LD
            rintro e w23 ⟨hb23, ⟨hd, rfl⟩ | ⟨hd, hs, rfl⟩ | ⟨hd, hs, v23, rfl, hv23⟩⟩
            · rw [hdn4] at hd; cases hd
            · rw [Hln4.out] at hs; omega
            rw [Hwd4.out] at hv23
            have HV23 := Lib.hid (HV22.out.below hb23)
            have Hv23 := Lib.hid (Hv22.out.below hb23)
            have Hn23 := Lib.hid hv23
            have hbN23 : Blk w23 (wc.heap.size + 1) 25 #[.string ⟨#[110, 101, 120, 116]⟩, .int .u8 0, .slice (some ⟨wc.heap.size, 0, none⟩) 1 1] := Blk.below HbN22.out hb23 (Blk.lt HbN22.out)
            have hbC23 : Blk w23 wc.heap.size 51 #[.int .u32 101] := Blk.below HbC22.out hb23 (Blk.lt HbC22.out)
            have n0 := hbN23.cellv (j := 0) rfl
            have n1 := hbN23.cellv (j := 1) rfl
            have n2 := hbN23.cellv (j := 2) rfl
            simp only [List.getElem_toArray, List.getElem_cons_zero, List.getElem_cons_succ] at n0 n1 n2
            have Hb23 := Lib.hid (below_then Hb22.out Hb22.out.size hb23)
            have hsz23 := hb23.size
            have HbC23 := Lib.hid hbC23
            clear hb23 hd hs hv23 HV22 Hv22 Hb22 HbN22 HbC22 hbN23 hbC23
            have hal : Below w23.heap.size w23 (w23.alloc (.cells #[.string ⟨#[110, 101, 120, 116]⟩, .int .u8 0, .slice (some ⟨wc.heap.size, 0, none⟩) 1 1] 25)) := (Below.refl _ w23).alloc (Nat.le_refl _) _
            obtain ⟨B', hB1, hB2, hown⟩ := Hv23.out.below hal
            obtain ⟨v24, w24, hrun, ⟨A24, c24, rfl⟩, hv24, hb24, hg24⟩ := app_second (S := fun z => (w17.heap.size ≤ z ∧ z < B') ∨ z = wc.heap.size) (B := B') (x := xn) (cv := .slice (some ⟨wc.heap.size, 0, none⟩) 1 1) (hown.mono fun z hz => .inl hz) (by have := Hfew.out; have := Hk18.out; omega) 29 (fun z hz h => by
              have h1 := Hob.out z h
              have h2 := own_from hown.choose_spec.2.1 z h
              omega) hB2 (Blk.new w23 _ _) ⟨_, 1, rfl, Nat.le_refl _, Row.blk (HbC23.out.below hal HbC23.out.lt) (.inr rfl) (n := 1) rfl⟩
            have h17 : w0.heap.size ≤ w17.heap.size := Hb17s.out
            have HV24 := Lib.hid ((HV23.out.below hal).keep fun z hz hS => grown_block hg24 hz fun h => by
              have h1 := Hob.out z h
              rcases hS with h2 | h2 <;> omega)
            have Hn24 := Lib.hid ((Hn23.out.words.below hal).keep fun z hz hS => grown_block hg24 hz fun h => by
              have h1 := Hob.out z h
              unfold From at hS
              omega)
            have Hb24 := Lib.hid (show Below w0.heap.size w0 w24 from (below_then Hb23.out Hb23.out.size hal).trans (hb24.mono (by omega)))
            have Hv24 := Lib.hid hv24
            clear hown hv24 hb24 hg24 hal
            have Hrun := Lib.hid hrun
            go_wp2_with (at_builtin; go_must (refine wpList_append_eq_g (by rfl) (.tmp 125) (.tmp 127) 29 29 rfl _ _ rfl rfl Hrun.out ?_))
            have hcx : ∀ y ∈ lw ++ [xn], y.code.length ≤ 140737488355328 := fun y hy => by
              rcases List.mem_append.1 hy with h | h
              · have := Hcl.out y h; omega
              · obtain rfl : y = xn := by simpa using h
                decide
            have hln : (lw ++ [xn]).length ≤ 1099511627776 := by have := Hfew.out; have := Hk18.out; rw [List.length_append]; simp; omega
            have A1 := law_all v22 (.slice A24 (k18 + 1) c24) (lw ++ [xn]) (lw ++ [xn]) w24 HV24.out Hv24.out hln hcx
            rw [(allW_iff _ _).2 rfl] at A1
            refine A1.mono ?_
            clear A1
            rintro e w25 ⟨rfl, hb25⟩
            have A2 := law_all v23 v22 (lw ++ [xn]) (lw ++ [xn]) w25 (Hn24.out.below hb25) (HV24.out.below hb25) hln hcx
            rw [(allW_iff _ _).2 rfl] at A2
            have Hb25 := Lib.hid (below_then Hb24.out Hb24.out.size hb25)
            clear hb25 hcx hln
            go_wp2_with fail
            refine A2.mono ?_
            clear A2
            rintro e w26 ⟨rfl, hb26⟩
            have Hb26 := Lib.hid (below_then Hb25.out Hb25.out.size hb26)
            have AW := law_awake w26
            clear hb26
            go_wp2_with fail
            refine AW.mono ?_
            rintro e w27 ⟨rfl, hb27⟩
            have Hb27 := Lib.hid (below_then Hb26.out Hb26.out.size hb27)
            clear hb27
            go_wp2_with fail
            go_ret
            exact ⟨rfl, Hbx.out.trans (Hb27.out.mono (by have := Hs0.out; omega))⟩
        · rw [hap] at AP
          go_wp2_with fail
          refine AP.mono ?_
          clear AP
          rintro e w15 ⟨hf15, ho15, hr15⟩
          rw [if_pos rfl] at hr15
          obtain ⟨v15, rfl, hv15⟩ := hr15
          have Hb15 := Lib.hid (below_only Hb14.out ho15 Hb14.out.size fun z hz _ => (HD1.out z hz).2)
          have A15 := law_all v15 (.slice A12 (k7 + 1) c12) (l ++ [x]) (l ++ [x]) w15 hv15 (Hw14.out.keep fun z hz hS => ho15.block z hz (HOld.out z hS).2) (by have := Hk7.out; rw [List.length_append]; simp; omega) (fun y hy => by
            rcases List.mem_append.1 hy with h | h
            · have := Hg.out.codes y h; omega
            · obtain rfl : y = x := by simpa using h
              have := Hmc.out
              omega)
          rw [(allW_iff _ _).2 rfl] at A15
          clear hf15 ho15 hv15
          go_wp2_with fail
          refine A15.mono ?_
          clear A15
          rintro e w16 ⟨rfl, hb16⟩
          have Hb16 := Lib.hid (below_then Hb15.out Hb15.out.size hb16)
          have AW := law_awake w16
          clear hb16
          go_wp2_with fail
          refine AW.mono ?_
          rintro e w17 ⟨rfl, hb17⟩
          have Hb17 := Lib.hid (below_then Hb16.out Hb16.out.size hb17)
          clear hb17
          go_wp2_with fail
          go_ret
          exact ⟨rfl, Hbx.out.trans (Hb17.out.mono (by have := Hs0.out; omega))⟩
    · have c60i : (60 : Int) < m := by omega
      have AW := law_awake wc
      go_wp2_with fail
      refine AW.mono ?_
      rintro e w14 ⟨rfl, hb14⟩
      have Hb14 := Lib.hid (below_then Hb12.out Hb12.out.size hb14)
      clear hb14
      go_wp2_with fail
      go_ret
      exact ⟨rfl, Hbx.out.trans (Hb14.out.mono (by have := Hs0.out; omega))⟩
end Go.Proofs.Ytmejngojpffcgaa

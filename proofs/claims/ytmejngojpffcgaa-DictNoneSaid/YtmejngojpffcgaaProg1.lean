import Derived.StillTailTactics
import Derived.Test.YtmejngojpffcgaaChange
namespace Go.Proofs.Ytmejngojpffcgaa
open Go.RowKit Go.Ls

theorem prog_and {S : Nat → Prop} (w : World) (Bs : Nat) (v : Value) (l : List UInt8) (hbox : Blk w Bs 27 #[v]) (hl : Sl8 S w v l) (i : Nat) (hi : i < l.length) (x : UInt8) :
    Calls Try.prog 53 #[.int .i64 i, .int .u8 (b8 x), .pointer (some ⟨Bs, 0, none⟩)] w fun e w' => e = .returned (.int .u8 (b8 (x &&& l.getD i 0))) ∧ w = w' := by
  obtain ⟨A, c, rfl, hc, hr⟩ := hl
  obtain ⟨b, o, rfl, _, hcell⟩ := hr.at_ (u8s_get hi)
  have hb0 := hbox.cellv (j := 0) rfl
  simp only [List.getElem_toArray, List.getElem_cons_zero] at hb0
  rw [show l.getD i 0 = l[i] by simp [hi]]
  generalize l[i] = y at *
  go_enter Try.func53, Try.ntmps53
  go_wp2_with fail
  go_ret
  exact ⟨rfl, rfl⟩
theorem prog_torn {S : Nat → Prop} (w : World) (Bs : Nat) (v : Value) (l : List UInt8) (hbox : Blk w Bs 27 #[v]) (hl : Sl8 S w v l) (i : Nat) (hi : i < l.length) (x m : UInt8) :
    Calls Try.prog 54 #[.int .i64 i, .int .u8 (b8 x), .int .u8 (b8 m), .pointer (some ⟨Bs, 0, none⟩)] w fun e w' => e = .returned (.int .u8 (b8 (x &&& ~~~(m &&& ~~~(l.getD i 0))))) ∧ w = w' := by
  obtain ⟨A, c, rfl, hc, hr⟩ := hl
  obtain ⟨b, o, rfl, _, hcell⟩ := hr.at_ (u8s_get hi)
  have hb0 := hbox.cellv (j := 0) rfl
  simp only [List.getElem_toArray, List.getElem_cons_zero] at hb0
  rw [show l.getD i 0 = l[i] by simp [hi]]
  generalize l[i] = y at *
  go_enter Try.func54, Try.ntmps54
  go_wp2_with fail
  go_ret
  exact ⟨rfl, rfl⟩

/-- The two function values of Program. -/
theorem prog_fun2 {S D : Nat → Prop} (w : World) (Bs : Nat) (v : Value) (l : List UInt8) (hbox : Blk w Bs 27 #[v]) (hD : ¬ D Bs) (hl : Sl8 S w v l) (hS : ∀ j, S j → ¬ D j) :
    Fun2 w D (.func (.func 53) #[] #[.pointer (some ⟨Bs, 0, none⟩)]) l.length (fun i x => x &&& l.getD i 0) :=
  ⟨_, _, rfl, fun args W => by go_simp, fun W hW i hi x => prog_and W Bs v l ((hW.block Bs hbox.lt hD).trans hbox) (Sl.keep hl fun j hj hs => hW.block j hj (hS j hs)) i hi x⟩
theorem prog_fun3 {S D : Nat → Prop} (w : World) (Bs : Nat) (v : Value) (l : List UInt8) (hbox : Blk w Bs 27 #[v]) (hD : ¬ D Bs) (hl : Sl8 S w v l) (hS : ∀ j, S j → ¬ D j) :
    Fun3 w D (.func (.func 54) #[] #[.pointer (some ⟨Bs, 0, none⟩)]) l.length (fun i x m => x &&& ~~~(m &&& ~~~(l.getD i 0))) :=
  ⟨_, _, rfl, fun args W => by go_simp, fun W hW i hi x m => prog_torn W Bs v l ((hW.block Bs hbox.lt hD).trans hbox) (Sl.keep hl fun j hj hs => hW.block j hj (hS j hs)) i hi x m⟩

theorem tmod4 (k : Nat) : ((k : Int)).tmod 4 = ((k % 4 : Nat) : Int) := rfl
theorem change_none (f : Fl) (hpw : f.power = none) (k n : Nat) (g : Nat → UInt8 → UInt8) (gt : Nat → UInt8 → UInt8 → UInt8) : f.change k n g gt = ({ f with cells := patch f.cells k ((f.seg k n).mapIdx g) }, 0) := by
  cases f; simp only at hpw; subst hpw; rfl
def RetProg (w : World) (D : Nat → Prop) (b bc o : Nat) (r : Fl × Nat) (e : Ending) (w' : World) : Prop :=
  e = .returned (.int .i64 r.2) ∧ FlashAt w' D b bc o r.1 ∧ Only D w w'
set_option maxRecDepth 100000 in
set_option maxHeartbeats 800000 in
theorem program_plain {S D : Nat → Prop} (w : World) (b bc o : Nat) (f : Fl) (h : FlashAt w D b bc o f) (hpw : f.power = none) (k : Nat) (v : Value) (l : List UInt8) (hl : Sl8 S w v l) (hS : ∀ j, S j → ¬ D j) (hDw : ∀ j, D j → j < w.heap.size)
    (hk : k < 9223372036854775808) (hn : l.length ≤ 140737488355328) :
    Calls Try.prog 18 #[.pointer (some ⟨b, 0, none⟩), .int .i64 k, v] w (RetProg w D b bc o (f.program k l)) := by
  have Hl := Lib.hid hl
  have HF := Lib.hid h
  obtain ⟨A, c, rfl, hc, hr⟩ := hl
  have hbe : Below w.heap.size w (w.alloc (.cells #[.slice A l.length c] 27)) := (Below.refl _ w).alloc (Nat.le_refl _) _
  have hF1 := h.below hbe
  have hbox := Blk.new w 27 #[.slice A l.length c]
  obtain ⟨hne, hown, ⟨c0, A0, cw, pv, hb, hc0, hp⟩, hcells, hpos, hsmall, hs1, hs2⟩ := hF1
  have hmay := may_at _ b f.sectors cw _ _ _ _ hb
  have hthere := there_at _ b _ _ _ _ _ _ hb k l.length (by omega) (by omega)
  have hcell := hb.cellv (j := 0) rfl
  simp only [List.getElem_toArray, List.getElem_cons_zero] at hcell
  have hboxc := hbox.cellv (j := 0) rfl
  simp only [List.getElem_toArray, List.getElem_cons_zero] at hboxc
  have Hbox := Lib.hid hbox; clear hbox
  have Hl1 := Lib.hid (Sl.below Hl.out hbe)
  have HF1 := Lib.hid (h.below hbe)
  have Hbe := Lib.hid hbe; clear hbe
  clear hb hcells hp h
  have hsz1 : (w.alloc (.cells #[.slice A l.length c] 27)).heap.size = w.heap.size + 1 := by simp
  cases hd : f.down with
  | true =>
    have hm : (mayOf f.sectors true : Int) = 12 := by unfold mayOf; rw [if_neg (by omega)]; rfl
    rw [hd, hm] at hmay
    have hres : f.program k l = (f, 12) := by unfold Fl.program Fl.may; rw [if_neg (show ¬ f.sectors = 0 by omega), hd]; rfl
    rw [hres]
    go_enter Try.func18, Try.ntmps18
    go_wp2_with fail
    refine hmay.mono ?_
    rintro e w' ⟨rfl, rfl⟩
    go_wp2_with fail
    go_ret
    exact ⟨rfl, HF1.out, .of_below Hbe.out⟩
  | false =>
    have hm : (mayOf f.sectors false : Int) = 0 := by unfold mayOf; rw [if_neg (by omega)]; rfl
    rw [hd, hm] at hmay
    have hmay0 : f.may = 0 := by unfold Fl.may; rw [if_neg (show ¬ f.sectors = 0 by omega), hd]; rfl
    by_cases hin : k + l.length ≤ f.cells.length
    · rw [decide_eq_true hin] at hthere
      by_cases ha : k % 4 = 0
      · by_cases hb4 : l.length % 4 = 0
        · by_cases h0 : l.length = 0
          · have hres : f.program k l = (f, 0) := by unfold Fl.program; rw [if_neg (by omega), if_neg (by omega), if_neg (by omega), if_pos h0]
            rw [hres]
            obtain rfl : l = [] := List.eq_nil_of_length_eq_zero h0
            simp only [List.length_nil] at *
            have hk4 : ((k : Int)).tmod 4 = 0 := by rw [tmod4]; omega
            go_enter Try.func18, Try.ntmps18
            go_wp2_with fail
            refine hmay.mono ?_
            rintro e w' ⟨rfl, rfl⟩
            go_wp2_with fail
            refine hthere.mono ?_
            rintro e w' ⟨rfl, rfl⟩
            go_wp2_with fail
            go_ret
            exact ⟨rfl, HF1.out, .of_below Hbe.out⟩
          · have hres : f.program k l = f.change k l.length (fun i x => x &&& l.getD i 0) (fun i x m => x &&& ~~~(m &&& ~~~(l.getD i 0))) := by unfold Fl.program; rw [if_neg (by omega), if_neg (by omega), if_neg (by omega), if_neg h0]
            rw [change_none f hpw] at hres
            rw [hres]
            have hk4 : ((k : Int)).tmod 4 = 0 := by rw [tmod4]; omega
            have hl4 : ((l.length : Int)).tmod 4 = 0 := by rw [tmod4]; omega
            have hl0 : ¬ (l.length : Int) = 0 := by omega
            have hsl : ∀ W, (Instr.slice 27 (.slice (some ⟨bc, o, none⟩) f.cells.length c0) (some (.int .i64 (k : Int))) (some (.int .i64 (IntKind.i64.wrap ((k : Int) + l.length)))) none).run Try.prog W = .ok (.slice (some ⟨bc, o + k, none⟩) l.length (c0 - k)) W := fun W => by
              rw [show IntKind.i64.wrap ((k : Int) + l.length) = (k : Int) + l.length by rw [IntKind.wrap_i64]; omega]
              rw [run_slice_lh W 27 _ _ _ Try.underlying27 .i64 .i64 (k : Int) ((k : Int) + l.length) (by omega) (by omega) (by omega)]
              have h1 : ¬ c0 = k := by omega
              have h2 : ((k : Int) + l.length).toNat - k = l.length := by omega
              simp [sliced, Result.andThen, Program.elem, Try.underlying27, Try.sizeOf5, addr_add, h1, h2]
            go_enter Try.func18, Try.ntmps18
            go_wp2_with fail
            refine hmay.mono ?_
            rintro e w' ⟨rfl, rfl⟩
            go_wp2_with fail
            refine hthere.mono ?_
            rintro e w' ⟨rfl, rfl⟩
            go_wp2_with fail
            refine wp_region_still_tail 13 (by kernel_rfl) (by kernel_rfl) ?_
            have hF2 : FlashAt (w.alloc (.cells #[.slice A l.length c] 27)).drew D b bc o f := HF1.out.below ⟨rfl, rfl, rfl, Nat.le_refl _, fun _ _ => rfl⟩
            have hbox2 : Blk (w.alloc (.cells #[.slice A l.length c] 27)).drew w.heap.size 27 #[.slice A l.length c] := Hbox.out
            have hl2 : Sl8 S (w.alloc (.cells #[.slice A l.length c] 27)).drew (.slice A l.length c) l := Hl1.out
            have hb2 : Below w.heap.size w (w.alloc (.cells #[.slice A l.length c] 27)).drew := ⟨Hbe.out.os, Hbe.out.tape, Hbe.out.output, Hbe.out.size, Hbe.out.block⟩
            have hcell2 : (w.alloc (.cells #[.slice A l.length c] 27)).drew.cell? ⟨b, 0, none⟩ = _ := hcell
            have hboxc2 := hbox2.cellv (j := 0) rfl
            simp only [List.getElem_toArray, List.getElem_cons_zero] at hboxc2
            show wpStill _ _ (w.alloc (.cells #[.slice A l.length c] 27)).drew (fun a' => wpList _ _ _ _ a' (w.alloc (.cells #[.slice A l.length c] 27)).drew) _ _
            generalize (w.alloc (.cells #[.slice A l.length c] 27)).drew = W2 at *
            have HFW := Lib.hid hF2
            have Hb2 := Lib.hid hb2
            have Hch := Lib.hid (change_plain W2 b bc o f hF2 k l.length (c0 - k) hin (by omega) (by omega) _ (.func (.func 54) #[] #[.pointer (some ⟨w.heap.size, 0, none⟩)]) _ (prog_fun2 W2 w.heap.size _ l hbox2 (fun e => absurd (hDw _ e) (Nat.lt_irrefl _)) hl2 hS) hpw)
            clear hF2 hbox2 hl2 hb2 Hbox Hl1 HF1 Hbe hcell hboxc hmay hthere hsz1
            simp only [List.take_succ_cons, List.take_zero, List.drop_succ_cons, List.drop_zero]
            repeat still_step
            try refine wpStill_nil ?_
            go_wp2_with fail
            refine Hch.out.mono ?_
            rintro e w' ⟨rfl, h1, h2⟩
            go_wp2_with fail
            go_ret
            exact ⟨rfl, h1, (Only.of_below Hb2.out).trans h2⟩
        · have hres : f.program k l = (f, 11) := by unfold Fl.program; rw [if_neg (by omega), if_neg (by omega), if_pos (by omega)]
          rw [hres]
          have hk4 : ((k : Int)).tmod 4 = 0 := by rw [tmod4]; omega
          have hl4 : ¬ ((l.length : Int)).tmod 4 = 0 := by rw [tmod4]; omega
          go_enter Try.func18, Try.ntmps18
          go_wp2_with fail
          refine hmay.mono ?_
          rintro e w' ⟨rfl, rfl⟩
          go_wp2_with fail
          refine hthere.mono ?_
          rintro e w' ⟨rfl, rfl⟩
          go_wp2_with fail
          go_ret
          exact ⟨rfl, HF1.out, .of_below Hbe.out⟩
      · have hres : f.program k l = (f, 11) := by unfold Fl.program; rw [if_neg (by omega), if_neg (by omega), if_pos (by omega)]
        rw [hres]
        have hk4 : ¬ ((k : Int)).tmod 4 = 0 := by rw [tmod4]; omega
        go_enter Try.func18, Try.ntmps18
        go_wp2_with fail
        refine hmay.mono ?_
        rintro e w' ⟨rfl, rfl⟩
        go_wp2_with fail
        refine hthere.mono ?_
        rintro e w' ⟨rfl, rfl⟩
        go_wp2_with fail
        go_ret
        exact ⟨rfl, HF1.out, .of_below Hbe.out⟩
    · have hres : f.program k l = (f, 10) := by unfold Fl.program; rw [if_neg (by omega), if_pos (by omega)]
      rw [decide_eq_false hin] at hthere
      rw [hres]
      go_enter Try.func18, Try.ntmps18
      go_wp2_with fail
      refine hmay.mono ?_
      rintro e w' ⟨rfl, rfl⟩
      go_wp2_with fail
      refine hthere.mono ?_
      rintro e w' ⟨rfl, rfl⟩
      go_wp2_with fail
      go_ret
      exact ⟨rfl, HF1.out, .of_below Hbe.out⟩
end Go.Proofs.Ytmejngojpffcgaa

import Derived.Test.YtmejngojpffcgaaGet
import Derived.Test.YtmejngojpffcgaaApp
namespace Go.Proofs.Ytmejngojpffcgaa
open Go.RowKit Go.Ls
def zeroPr : Array Value := #[.int .u32 0, .string ⟨#[]⟩, .int .i64 0, .int .i64 0, .int .i64 0, .bool false, .bool false]
set_option maxRecDepth 100000 in
set_option maxHeartbeats 1000000 in
theorem prim_long {S : Nat → Prop} (v : Value) (code : List UInt32) (i : Nat) (w : World) (hv : Sl32 S w v code) (hn : code.length ≤ 140737488355328) (hi : i ≤ code.length) :
    Calls Try.prog 90 #[v, .int .i64 i] w fun e w' => e = .returned (.int .i64 (longP code i)) ∧ Below w.heap.size w w' := by
  obtain ⟨A, c, rfl, hc, hr⟩ := hv
  by_cases hlt : i < code.length
  · have hx : code[i]? = some code[i] := List.getElem?_eq_getElem hlt
    obtain ⟨b, o, rfl, hb, hc0⟩ := hr.at_ (u32s_get hlt)
    generalize code[i] = x at hx hc0
    have hxr := w32_range x
    by_cases c1 : 256 ≤ w32 x
    · have hz : longP code i = 1 := by
        unfold longP
        rw [hx]
        simp only
        rw [if_pos]
        rw [UInt32.le_iff_toNat_le]; unfold w32 at c1; simp; omega
      rw [hz]
      clear hr
      go_enter Try.func90, Try.ntmps90
      go_wp2_with fail
      go_ret
      exact ⟨rfl, Below.refl _ _⟩
    · have c1' : ¬ 256 ≤ x := fun h => c1 (by have := UInt32.le_iff_toNat_le.1 h; unfold w32; simp at this; omega)
      have G := prim_get x w
      rw [primV_cs] at G
      have Hr := Lib.hid hr; clear hr
      have Hs := Lib.hid zeroPrim
      obtain ⟨k, hk⟩ : ∃ k : Nat, k = (match primAt x with | some p => p.operands | none => 0) := ⟨_, rfl⟩
      obtain ⟨t, ht⟩ : ∃ t : Bool, t = (match primAt x with | some p => p.text | none => false) := ⟨_, rfl⟩
      obtain ⟨s, hs⟩ : ∃ s : Bool, s = (primAt x).isSome := ⟨_, rfl⟩
      have hk2 : k ≤ 2 := by rw [hk]; cases hp : primAt x with | none => simp | some p => exact (primAt_sound hp).1
      have ht1 : t = true → k = 1 := by rw [hk, ht]; cases hp : primAt x with | none => simp | some p => exact (primAt_sound hp).2.1
      have hz : longP code i = if s = false ∨ code.length - i < 1 + k then 0 else if t then match code[i+1]? with
          | some t => if 1000 < t then 0 else if code.length - i < 1 + k + (t.toNat + 3) / 4 then 0 else 1 + k + (t.toNat + 3) / 4
          | none => 0
        else 1 + k := by
        unfold longP
        rw [hx, hk, ht, hs]
        simp only
        rw [if_neg c1']
        cases primAt x with
        | none => simp
        | some p => simp; rfl
      obtain ⟨res, hres⟩ : ∃ res, res = longP code i := ⟨_, rfl⟩
      rw [← hres]
      rw [← hres] at hz
      clear hres
      have Hz := Lib.hid hz
      have hp4 : (primCs (primAt x))[4]? = some (.int .i64 k) := by rw [hk]; cases primAt x <;> rfl
      have hp5 : (primCs (primAt x))[5]? = some (.bool t) := by rw [ht]; cases primAt x <;> rfl
      have hp7 := primCs_size (primAt x)
      have Hone := Lib.hid (primCs_one (primAt x))
      rw [← hs] at G
      generalize primCs (primAt x) = pcs at *
      clear hz hk ht hs c1'
      have Hsz : Hid ((Try.prog.info? 146).map (·.size) = some pcs.size) := Lib.hid (by rw [hp7]; exact Hs.out)
      have Hold : Hid (zeroPr.size = pcs.size) := Lib.hid (by rw [hp7]; rfl)
      clear hp7
      go_enter Try.func90, Try.ntmps90
      go_wp2_with fail
      refine G.mono ?_
      rintro e w2 ⟨rfl, hb2⟩
      have HZ := Lib.hid (Blk.new w2 146 zeroPr)
      have hB := HZ.out.row pcs
      have hbe : Below w.heap.size w ((w2.alloc (.cells zeroPr 146)).setRow w2.heap.size pcs) := below_setRow (hb2.alloc hb2.size _) hb2.size _
      have hc4 := hB.cellv hp4
      have hc5 := hB.cellv hp5
      clear hb2 hB hp4 hp5
      unfold zeroPr at hc4 hc5 hbe
      go_wp2_with (refine wpList_store_row rfl 146 _ _ rfl w2.heap.size pcs rfl rfl 146 _ HZ.out Hsz.out Hold.out Hone.out ?_; refine stop_here ?_)
      generalize hw3 : ((w2.alloc (.cells #[.int .u32 0, .string ⟨#[]⟩, .int .i64 0, .int .i64 0, .int .i64 0, .bool false, .bool false] 146)).setRow w2.heap.size pcs) = w3 at *
      clear hw3 HZ Hsz Hold Hone
      have hcx : w3.cell? ⟨b, o + i, none⟩ = some (.int .u32 (w32 x)) := by
        have := (Hr.out.below hbe).at_ (u32s_get hlt)
        obtain ⟨b', o', e, _, h⟩ := this
        cases e
        rw [h]
        have hx' := (List.getElem?_eq_some_iff.1 hx).2
        rw [hx']
      have Hr3 := Lib.hid (Hr.out.below hbe)
      clear Hr hc0 hcx
      have Hbe := Lib.hid hbe; clear hbe
      clear hx hb
      by_cases c2 : s = false
      · obtain rfl : res = 0 := by rw [Hz.out, if_pos (.inl c2)]
        subst c2
        refine go_on ?_
        go_wp2_with fail
        go_ret
        exact ⟨rfl, Hbe.out⟩
      · have c2 : s = true := by simpa using c2
        subst c2
        by_cases c3 : code.length - i < 1 + k
        · obtain rfl : res = 0 := by rw [Hz.out, if_pos (.inr c3)]
          have c3' : ¬ (1 + k : Int) ≤ code.length - i := by omega
          refine go_on ?_
          go_wp2_with fail
          go_ret
          exact ⟨rfl, Hbe.out⟩
        · have hz2 := Hz.out
          rw [if_neg (by simp; omega)] at hz2
          clear Hz
          have Hz := Lib.hid hz2; clear hz2
          have c3' : (1 + k : Int) ≤ code.length - i := by omega
          cases t with
          | false =>
            obtain rfl : res = 1 + k := by rw [Hz.out, if_neg (by simp)]
            refine go_on ?_
            go_wp2_with fail
            go_ret
            exact ⟨ret_int (by omega), Hbe.out⟩
          | true =>
            obtain rfl := ht1 rfl
            have hlt2 : i + 1 < code.length := by omega
            have hy : code[i + 1]? = some code[i + 1] := List.getElem?_eq_getElem hlt2
            have hcy := Hr3.out.at_ (u32s_get hlt2)
            obtain ⟨b', o', e, _, hcy⟩ := hcy
            cases e
            generalize code[i + 1] = y at *
            have hz2 := Hz.out
            rw [if_pos rfl, hy] at hz2
            simp only at hz2
            clear Hz
            have Hz := Lib.hid hz2; clear hz2
            have hyr := w32_range y
            by_cases c4 : w32 y ≤ 1000
            · have hz2 := Hz.out
              rw [if_neg (by rw [UInt32.lt_iff_toNat_lt]; unfold w32 at c4; simp; omega)] at hz2
              clear Hz
              have Hz := Lib.hid hz2; clear hz2
              obtain ⟨q, hqd⟩ : ∃ q, q = (y.toNat + 3) / 4 := ⟨_, rfl⟩
              have hqb : q ≤ 251 := by unfold w32 at c4; omega
              have hq : Int.tdiv (w32 y + 4 - 1) 4 = (q : Int) := by
                rw [Int.tdiv_eq_ediv_of_nonneg (by omega), hqd]
                unfold w32; omega
              rw [← hqd] at Hz
              clear hqd
              by_cases c5 : code.length - i < 1 + 1 + q
              · obtain rfl : res = 0 := by rw [Hz.out, if_pos c5]
                have c5' : ¬ ((1 : Int) + 1 + (q : Nat) ≤ code.length - i) := by omega
                refine go_on ?_
                go_wp2_with fail
                go_ret
                exact ⟨rfl, Hbe.out⟩
              · obtain rfl : res = _ := Eq.trans Hz.out (if_neg c5)
                have c5' : ((1 : Int) + 1 + (q : Nat) ≤ code.length - i) := by omega
                refine go_on ?_
                go_wp2_with fail
                go_ret
                exact ⟨ret_int (by omega), Hbe.out⟩
            · obtain rfl : res = 0 := by rw [Hz.out, if_pos (by rw [UInt32.lt_iff_toNat_lt]; unfold w32 at c4; simp; omega)]
              refine go_on ?_
              go_wp2_with fail
              go_ret
              exact ⟨rfl, Hbe.out⟩
  · have : code[i]? = none := List.getElem?_eq_none (by omega)
    have hz : longP code i = 0 := by unfold longP; rw [this]
    rw [hz]
    clear hr
    go_enter Try.func90, Try.ntmps90
    go_wp2_with fail
    go_ret
    exact ⟨rfl, Below.refl _ _⟩
end Go.Proofs.Ytmejngojpffcgaa

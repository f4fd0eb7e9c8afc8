import Derived.Test.YtmejngojpffcgaaLoad
import Derived.Test.YtmejngojpffcgaaWrite
namespace Go.Ls
/-- What Append makes of a flash: the flash, the errno (0: the word is there). -/
def appendP (f : Fl) (k n : Nat) (x : Wd) : Fl × Nat :=
  if withP (wordsP (f.seg k n)) x then match encode [x] with
    | none => (f, 100)
    | some p => if recSize p.length = 0 ∨ n < recSize p.length + wordsEnd (f.seg k n) then (f, 150) else f.write (k + wordsEnd (f.seg k n)) p
  else (f, 100)
end Go.Ls
namespace Go.Proofs.Ytmejngojpffcgaa
open Go.RowKit Go.Ls
attribute [local irreducible] wpQuiet wpList Code.wp
theorem words_ok : ∀ (rs : List Rec) (acc : List Wd), acc.length ≤ 2048 → (∀ y ∈ acc, y.code.length ≤ 1000) → (rs.foldl takeRec acc).length ≤ 2048 ∧ ∀ y ∈ rs.foldl takeRec acc, y.code.length ≤ 1000
  | [], acc, h1, h2 => ⟨h1, h2⟩
  | r :: rs, acc, h1, h2 => by
    rw [List.foldl_cons]
    refine words_ok rs _ ?_ ?_
    · unfold takeRec
      split
      · split
        · split
          · rename_i h
            unfold withP at h
            simp at h
            simp; omega
          · exact h1
        · exact h1
      · exact h1
    · unfold takeRec
      split
      · split
        · rename_i x hd
          split
          · intro y hy
            rcases List.mem_append.1 hy with h | h
            · exact h2 y h
            · obtain rfl : y = x := by simpa using h
              exact (right_bounds (decP_right hd y (by simp))).2
          · exact h2
        · exact h2
      · exact h2
theorem wordsP_ok (b : List UInt8) : (wordsP b).length ≤ 2048 ∧ ∀ y ∈ wordsP b, y.code.length ≤ 1000 := words_ok _ [] (by simp) (by simp)
def RetApp (S D : Nat → Prop) (w : World) (b bc o : Nat) (r : Fl × Nat) (l : List Wd) (e : Ending) (w' : World) : Prop :=
  FlashAt w' D b bc o r.1 ∧ Only D w w' ∧ (if r.2 = 0 then ∃ v, e = .returned (.tuple #[v, .int .i64 0]) ∧ WordsAt (Or S w.heap.size) w' v l else e = .returned (.tuple #[.slice none 0 0, .int .i64 r.2]))
theorem wordsEnd_le (b : List UInt8) : wordsEnd b ≤ b.length := Nat.min_le_right _ _
set_option maxRecDepth 100000 in
set_option maxHeartbeats 4000000 in
theorem dict_append {S D : Nat → Prop} (w : World) (b bc o : Nat) (f : Fl) (h : FlashAt w D b bc o f) (hpw : f.power = none) (hdn : f.down = false) (k n : Nat) (hk4 : k % 4 = 0) (hn4 : n % 4 = 0) (hkn : k + n ≤ f.cells.length) (hc : f.cells.length ≤ 1000000)
    (xv : Value) (x : Wd) (hx : WdAt S w xv x) (hS : ∀ z, S z → z < w.heap.size ∧ ¬ D z) (hDw : ∀ j, D j → j < w.heap.size) (hxc : x.code.length ≤ 1099511627776) :
    Calls Try.prog 21 #[.pointer (some ⟨b, 0, none⟩), .int .i64 k, .int .i64 n, xv] w (RetApp S D w b bc o (appendP f k n x) (wordsP (f.seg k n) ++ [x])) := by
  obtain ⟨cv, rfl, hxcv⟩ := hx
  obtain ⟨cw, hcw⟩ : ∃ cw, cw = cv := ⟨_, rfl⟩
  have hform : ∃ Ac cc, cv = .slice Ac x.code.length cc := by obtain ⟨Ac, cc, e, _⟩ := hxcv; exact ⟨Ac, cc, e⟩
  obtain ⟨Ac, cc, rfl⟩ := hform
  clear hcw cw
  obtain ⟨ws, hws⟩ : ∃ ws, ws = wordsP (f.seg k n) := ⟨_, rfl⟩
  obtain ⟨en, hen⟩ : ∃ en, en = wordsEnd (f.seg k n) := ⟨_, rfl⟩
  have henn : en ≤ n := by rw [hen]; have := wordsEnd_le (f.seg k n); rw [seg_length hkn] at this; exact this
  obtain ⟨res, hres⟩ : ∃ r, r = appendP f k n x := ⟨_, rfl⟩
  rw [← hres, ← hws]
  unfold appendP at hres
  rw [← hws, ← hen] at hres
  have Hres := Lib.hid hres
  have Hws := Lib.hid hws
  have Hen := Lib.hid hen
  have hok := wordsP_ok (f.seg k n)
  rw [← hws] at hok
  have HSd := Lib.hid hS
  have HDw := Lib.hid hDw
  clear hres hws hen hS hDw
  obtain ⟨name, flags, code⟩ := x
  simp only [wdV] at *
  have Hcell := Lib.hid (show wcells ((⟨name, flags, code⟩, .slice Ac code.length cc) : Wd × Value) = [str name, .int .u8 (b8 flags), .slice Ac code.length cc] from rfl)
  have Hval := Lib.hid (show wdV ⟨name, flags, code⟩ (.slice Ac code.length cc) = .agg #[str name, .int .u8 (b8 flags), .slice Ac code.length cc] from rfl)
  generalize hsv : str name = sv at *
  have hbx : Below w.heap.size w (w.alloc (.cells #[sv, .int .u8 (b8 flags), .slice Ac code.length cc] 25)) := (Below.refl _ w).alloc (Nat.le_refl _) _
  have hB0 := Blk.new w 25 #[sv, .int .u8 (b8 flags), .slice Ac code.length cc]
  have L := dict_load (w.alloc (.cells #[sv, .int .u8 (b8 flags), .slice Ac code.length cc] 25)) b bc o f (h.below hbx) k n (by omega) (by omega) hk4 hn4 hc
  have hs1 : (w.alloc (.cells #[sv, .int .u8 (b8 flags), .slice Ac code.length cc] 25)).heap.size = w.heap.size + 1 := by simp
  have Hx1 := Lib.hid (Sl.below hxcv hbx)
  have Hfl1 := Lib.hid (h.below hbx)
  have Hbx := Lib.hid hbx
  have HB0 := Lib.hid hB0
  clear h hxcv hk4 hn4 hbx hB0
  go_enter Try.func21, Try.ntmps21
  go_wp2_with fail
  generalize (w.alloc (.cells #[sv, .int .u8 (b8 flags), .slice Ac code.length cc] 25)) = w1 at *
  refine L.mono ?_
  have Hs1 := Lib.hid hs1
  clear L hs1
  rintro e w2 ⟨hb2, ⟨hd, rfl⟩ | ⟨hd, hs, rfl⟩ | ⟨hd, hs, v, rfl, hv⟩⟩
  · rw [hdn] at hd; cases hd
  · omega
  · rw [← Hws.out] at hv
    rw [← Hen.out]
    have hvf : ∃ A c, v = .slice A ws.length c := by obtain ⟨ps, _, ⟨A, c, e, _⟩, _⟩ := hv; exact ⟨A, c, e⟩
    obtain ⟨A, c, rfl⟩ := hvf
    have HB2 := Lib.hid (HB0.out.below hb2 HB0.out.lt)
    have Hx2 := Lib.hid (Sl.below Hx1.out hb2)
    have Hfl2 := Lib.hid (Hfl1.out.below hb2)
    have Hbe2 := Lib.hid (below_then Hbx.out Hbx.out.size hb2)
    have Hv := Lib.hid (show WordsAt (Or S w.heap.size) w2 (.slice A ws.length c) ws from hv.mono fun z hz => .inr (by have h1 := Hs1.out; unfold From at hz; omega))
    have WI := dict_with (S := Or S w.heap.size) (.slice A ws.length c) (.agg #[sv, .int .u8 (b8 flags), .slice Ac code.length cc]) ws ⟨name, flags, code⟩ w2 Hv.out ⟨_, Hval.out.symm, Sl.mono Hx2.out fun z hz => .inl hz⟩ (by omega) (fun y hy => by
      rcases List.mem_append.1 hy with h | h
      · have := hok.2 y h; omega
      · obtain rfl : y = _ := by simpa using h
        exact hxc)
    obtain ⟨ok, hokk⟩ : ∃ ok, ok = withP ws ⟨name, flags, code⟩ := ⟨_, rfl⟩
    rw [← hokk] at WI
    have Hok := Lib.hid hokk
    clear hokk hb2 hv
    have q0 := HB2.out.cellv (j := 0) rfl
    have q1 := HB2.out.cellv (j := 1) rfl
    have q2 := HB2.out.cellv (j := 2) rfl
    simp only [List.getElem_toArray, List.getElem_cons_zero, List.getElem_cons_succ] at q0 q1 q2
    go_wp2_with fail
    refine WI.mono ?_
    rintro e w3 ⟨⟨v3, rfl, hw3⟩, hb3⟩
    have hf3 : ∃ A3 c3, v3 = .slice A3 (ws.length + 1) c3 := by obtain ⟨ps, _, ⟨A, c, e, _⟩, _⟩ := hw3; exact ⟨A, c, by rw [e, List.length_append]; rfl⟩
    obtain ⟨A3, c3, rfl⟩ := hf3
    have Hfl3 := Lib.hid (Hfl2.out.below hb3)
    have Hbe3 := Lib.hid (below_then Hbe2.out Hbe2.out.size hb3)
    have HB3 := Lib.hid (HB2.out.below hb3 HB2.out.lt)
    have Hx3 := Lib.hid (Sl.below Hx2.out hb3)
    have Hw3 := Lib.hid (show WordsAt (Or S w.heap.size) w3 _ _ from hw3.mono fun z hz => by
      rcases hz with h | h
      · exact h
      · exact .inr (Nat.le_trans Hbe2.out.size h))
    clear hb3 hw3 q0 q1 q2 WI
    cases ok with
    | false =>
      have Hr := Lib.hid (show res = (f, 100) from by rw [Hres.out, ← Hok.out]; rfl)
      go_wp2_with fail
      go_ret2
      rw [Hr.out]
      exact ⟨Hfl3.out, Only.of_below Hbe3.out, rfl⟩
    | true =>
      have q0 := HB3.out.cellv (j := 0) rfl
      have q1 := HB3.out.cellv (j := 1) rfl
      have q2 := HB3.out.cellv (j := 2) rfl
      simp only [List.getElem_toArray, List.getElem_cons_zero, List.getElem_cons_succ] at q0 q1 q2
      have hb4 : Below w3.heap.size w3 (w3.alloc (.cells #[sv, .int .u8 (b8 flags), .slice Ac code.length cc] 25)) := (Below.refl _ w3).alloc (Nat.le_refl _) _
      have hlit : WordsAt (fun _ => True) (w3.alloc (.cells #[sv, .int .u8 (b8 flags), .slice Ac code.length cc] 25)) (.slice (some ⟨w3.heap.size, 0, none⟩) 1 1) [⟨name, flags, code⟩] := by
        refine ⟨[(⟨name, flags, code⟩, .slice Ac code.length cc)], rfl, ⟨_, 1, rfl, Nat.le_refl _, ?_⟩, fun p hp => ?_⟩
        · rw [List.flatMap_singleton, Hcell.out]
          exact Row.blk (Blk.new w3 _ _) trivial (n := 3) rfl
        · obtain rfl : p = _ := by simpa using hp
          exact Sl.mono (Sl.below Hx3.out hb4) fun _ _ => trivial
      have EN := image_encode _ _ _ hlit (by simp)
      obtain ⟨ep, hep⟩ : ∃ ep, ep = encode [(⟨name, flags, code⟩ : Wd)] := ⟨_, rfl⟩
      rw [← hep] at EN
      have Hep := Lib.hid hep
      have Hb4 := Lib.hid hb4
      clear hep hlit hb4
      go_wp2_with fail
      refine EN.mono ?_
      rintro e w5 ⟨hb5, hr5⟩
      have hb35 : Below w3.heap.size w3 w5 := below_next Hb4.out hb5
      have Hfl5 := Lib.hid (Hfl3.out.below hb35)
      have Hbe5 := Lib.hid (below_then Hbe3.out Hbe3.out.size hb35)
      have Hw5 := Lib.hid (Hw3.out.below hb35)
      clear hb35 q0 q1 q2
      cases ep with
      | none =>
        simp only at hr5
        subst hr5
        have Hr := Lib.hid (show res = (f, 100) from by rw [Hres.out, ← Hok.out, ← Hep.out]; rfl)
        clear hb5
        go_wp2_with fail
        go_ret2
        rw [Hr.out]
        exact ⟨Hfl5.out, Only.of_below Hbe5.out, rfl⟩
      | some p =>
        obtain ⟨v5, rfl, ho5⟩ := hr5
        obtain ⟨A5, c5, rfl, hc5, hr5⟩ := own_row ho5
        have hp : p.length ≤ 100000000 := by
          have h1 := Hep.out
          unfold encode at h1
          split at h1
          · rename_i hr
            have hb := right_bounds (show (Wd.mk name flags code).right = true by simpa using hr)
            simp only [Option.some.injEq, List.flatMap_singleton] at h1
            rw [h1]
            simp only at hb
            simp only [Wd.bytes, List.length_append, flat4_length, List.length_cons, List.length_nil]
            omega
          · cases h1
        have S1 := record_size p.length (by omega) w5
        obtain ⟨rz, hrz⟩ : ∃ rz, rz = recSize p.length := ⟨_, rfl⟩
        rw [← hrz] at S1
        have hrzb : rz ≤ 200000000 := by rw [hrz]; unfold recSize padN; split <;> omega
        have Hr := Lib.hid (show res = if rz = 0 ∨ n < rz + en then (f, 150) else f.write (k + en) p from by rw [Hres.out, ← Hok.out, ← Hep.out, hrz]; rfl)
        have hsl5 : Sl8 (fun z => (w3.alloc (.cells #[sv, .int .u8 (b8 flags), .slice Ac code.length cc] 25)).heap.size ≤ z) w5 (.slice A5 p.length c5) p := ⟨A5, c5, rfl, hc5, hr5⟩
        have Hsl5 := Lib.hid hsl5
        clear hsl5 hr5 ho5 hb5 hrz
        by_cases z0 : rz = 0
        · have Hr2 := Lib.hid (show res = (f, 150) from by rw [Hr.out, if_pos (.inl z0)])
          have z0i : ((rz : Int) == 0) = true := by simp; exact z0
          have z0j : (rz : Int) = 0 := by omega
          clear z0
          go_wp2_with fail
          refine S1.mono ?_
          rintro e w6 ⟨rfl, rfl⟩
          go_wp2_with fail
          go_ret2
          rw [Hr2.out]
          exact ⟨Hfl5.out, Only.of_below Hbe5.out, rfl⟩
        · have z0i : ((rz : Int) == 0) = false := by simp; exact z0
          have z0j : ¬ (rz : Int) = 0 := by omega
          by_cases z1 : n < rz + en
          · have Hr2 := Lib.hid (show res = (f, 150) from by rw [Hr.out, if_pos (.inr z1)])
            have z1i : (n : Int) - en < rz := by omega
            clear z0
            go_wp2_with fail
            refine S1.mono ?_
            rintro e w6 ⟨rfl, rfl⟩
            go_wp2_with fail
            refine S1.mono ?_
            rintro e w6 ⟨rfl, rfl⟩
            go_wp2_with fail
            go_ret2
            rw [Hr2.out]
            exact ⟨Hfl5.out, Only.of_below Hbe5.out, rfl⟩
          · have Hr2 := Lib.hid (show res = f.write (k + en) p from by rw [Hr.out, if_neg (by omega)])
            have z1i : ¬ (n : Int) - en < rz := by omega
            have WR := record_write w5 b bc o f Hfl5.out hpw (k + en) (.slice A5 p.length c5) p Hsl5.out (fun j hj => Nat.lt_of_lt_of_le (HDw.out j hj) Hbe5.out.size) (by omega) (by omega)
            rw [← Hr2.out] at WR
            obtain ⟨rf, rn⟩ := res
            simp only [Int.natCast_add] at WR
            clear z0
            go_wp2_with fail
            refine S1.mono ?_
            rintro e w6 ⟨rfl, rfl⟩
            go_wp2_with fail
            refine S1.mono ?_
            rintro e w6 ⟨rfl, rfl⟩
            go_wp2_with fail
            refine WR.mono ?_
            rintro e w7 ⟨rfl, hf7, ho7⟩
            have Hf7 := Lib.hid hf7
            have Ho7 := Lib.hid (show Only D w w7 from (Only.of_below Hbe5.out).trans ho7)
            have Hw7 := Lib.hid (show WordsAt (Or S w.heap.size) w7 _ _ from Hw5.out.keep fun z h1 h2 => ho7.block z h1 (by
              rcases h2 with h | h
              · exact (HSd.out z h).2
              · intro hD
                have := HDw.out z hD
                omega))
            clear hf7 ho7
            simp only
            by_cases hrn : rn = 0
            · subst hrn
              go_wp2_with fail
              go_ret2
              exact ⟨Hf7.out, Ho7.out, by rw [if_pos rfl]; exact ⟨_, rfl, Hw7.out⟩⟩
            · have hrni : ((rn : Int) != 0) = true := by simp; exact hrn
              have hrnj : ¬ (rn : Int) = 0 := by omega
              have Hrn := Lib.hid hrn
              clear hrn
              go_wp2_with fail
              go_ret2
              exact ⟨Hf7.out, Ho7.out, by rw [if_neg Hrn.out]; rfl⟩
end Go.Proofs.Ytmejngojpffcgaa

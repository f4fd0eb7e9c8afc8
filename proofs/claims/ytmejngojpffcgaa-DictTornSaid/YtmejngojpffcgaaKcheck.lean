/- Contract of prim.Check. No condition beyond those each theorem names. -/
import Derived.Test.YtmejngojpffcgaaKprim
import Derived.Test.YtmejngojpffcgaaKword
import Derived.Lib.QuietBelow
section
namespace Go.Proofs.Ytmejngojpffcgaa
open Go.RowKit Go.Ls Go.Sort
attribute [local irreducible] wpQuiet wpList Code.wp
theorem u32_of_nat (n : Nat) : IntKind.u32.wrap (n : Int) = w32 (UInt32.ofNat n) := by
  rw [IntKind.wrap_u32]; unfold w32; simp
theorem below_map {w : World} {P : List (Pl × Int)} {W : World} {b : Nat} (h : MapAt w b P) (hb : Below w.heap.size w W) : MapAt W b P :=
  (hb.block b (Array.getElem?_eq_some_iff.1 h).1).trans h
set_option maxRecDepth 100000 in
set_option maxHeartbeats 8000000 in
theorem prim_check {S : Nat → Prop} (v : Value) (l : List Wd) (w : World) (hl : WordsAt S w v l) (hn : l.length ≤ 1000000) (hcl : ∀ x ∈ l, x.code.length ≤ 1099511627776) :
    Calls Try.prog 23 #[v] w fun e w' => e = .returned (.int .i64 (checkZ l)) ∧ Below w.heap.size w w' := by
  have Hl := Lib.hid hl.bound
  have hform : ∃ A c, v = .slice A l.length c := by obtain ⟨ps, _, ⟨A, c, e, _⟩, _⟩ := hl; exact ⟨A, c, e⟩
  clear hl
  obtain ⟨A, c, rfl⟩ := hform
  have Hb0 := Lib.hid (show Below w.heap.size w (w.alloc (.map #[] 0)) from (Below.refl _ w).alloc (Nat.le_refl _) _)
  have Hm0 := Lib.hid (show MapAt (w.alloc (.map #[] 0)) w.heap.size [] from World.alloc_heap_new w _)
  have hmk : (Instr.makeMap 100 none).run Try.prog w = .ok (.map (some w.heap.size)) (w.alloc (.map #[] 0)) := run_makeMap _ _
  obtain ⟨res, hres⟩ : ∃ r, r = checkZ l := ⟨_, rfl⟩
  rw [← hres]
  have Hres := Lib.hid (show res = match checkFrom [] 0 (l.drop 0) with | none => -1 | some i => (i : Int) from hres)
  have Hcl := Lib.hid hcl
  clear hres hcl
  go_enter Try.func23, Try.ntmps23
  go_wp2_with fail
  go_loopw [18] (fun i wr => ∃ (k : Nat) (P : List Pl), k ≤ l.length ∧ i = .int .i64 k ∧ Hid (MapAt wr w.heap.size (ones P)) ∧ Hid (∀ q ∈ P, q.1.toNat < k) ∧ Hid (res = match checkFrom P k (l.drop k) with | none => -1 | some i => (i : Int)) ∧ Hid (Below w.heap.size w wr))
    (fun i _ => l.length - (intOf i).toNat)
  case atStart => exact ⟨0, [], Nat.zero_le _, rfl, Hm0, (fun q hq => by cases hq), Hres, Hb0⟩
  case round =>
    rename World => wo
    obtain ⟨k, P, hk, rfl, hmap, hPk, hst, hbe⟩ := hrel
    by_cases hlt : k < l.length
    · have hx : l[k]? = some l[k] := List.getElem?_eq_getElem hlt
      have Hlw := Lib.hid (Hl.out.keep (w' := wo) fun b _ hs => hbe.out.block b hs.2)
      obtain ⟨_, b, o, cv, rfl, hs, h0, h1, h2, h3⟩ := Hlw.out.word hx
      have hdr : l.drop k = l[k] :: l.drop (k + 1) := List.drop_eq_getElem_cons hlt
      rw [hdr] at hst
      have hclx := Hcl.out l[k] (List.getElem_mem hlt)
      clear hx hdr
      generalize l[k] = x at *
      obtain ⟨name, flags, code⟩ := x
      simp only at h0 h1 h2 h3 hclx
      obtain ⟨Ac, cc, rfl, hcc, hrc⟩ := h3
      have Hrc := Lib.hid hrc; clear hrc
      have hall : (#[str name, .int .u8 (b8 flags), .slice Ac code.length cc] : Array Value).all (·.oneCell') = true := by simp [str, Value.oneCell']
      have hbe1 : Below wo.heap.size wo _ := below_setRow ((Below.refl _ wo).alloc (Nat.le_refl _) (.cells #[.string ⟨#[]⟩, .int .u8 0, .slice none 0 0] 25)) (Nat.le_refl _) #[str name, .int .u8 (b8 flags), .slice Ac code.length cc]
      have hZ := Blk.new wo 25 #[.string ⟨#[]⟩, .int .u8 0, .slice none 0 0]
      have hB := hZ.row #[str name, .int .u8 (b8 flags), .slice Ac code.length cc]
      have HZ := Lib.hid hZ; clear hZ
      generalize hsv : str name = sv at *
      have Hwd := Lib.hid zeroWord
      go_wp2_with (refine wpList_store_row rfl 25 _ _ rfl wo.heap.size #[sv, .int .u8 (b8 flags), .slice Ac code.length cc] rfl rfl 25 _ HZ.out Hwd.out rfl hall ?_; refine stop_here ?_)
      obtain ⟨w1, hw1⟩ : ∃ w1, ((wo.alloc (.cells #[.string ⟨#[]⟩, .int .u8 0, .slice none 0 0] 25)).setRow wo.heap.size #[sv, .int .u8 (b8 flags), .slice Ac code.length cc]) = w1 := ⟨_, rfl⟩
      rw [hw1] at hbe1 hB ⊢
      clear hw1
      have g0 := hB.cellv (j := 0) rfl
      have g1 := hB.cellv (j := 1) rfl
      have g2 := hB.cellv (j := 2) rfl
      simp only [List.getElem_toArray, List.getElem_cons_zero, List.getElem_cons_succ] at g0 g1 g2
      have HW1 := Lib.hid (show WdAt (fun b => S b ∧ b < w.heap.size) w1 (.agg #[sv, .int .u8 (b8 flags), .slice Ac code.length cc]) ⟨name, flags, code⟩ from ⟨_, by rw [← hsv]; rfl, _, _, rfl, hcc, Hrc.out.below hbe1⟩)
      have HB := Lib.hid hB; clear hB
      have Hbe1 := Lib.hid (below_then hbe.out hbe.out.size hbe1)
      have Hmap1 := Lib.hid (below_map hmap.out hbe1)
      have Hrc1 := Lib.hid (Hrc.out.below hbe1)
      have hsz1 := hbe1.size
      clear h0 h1 h2 hbe1
      refine go_on ?_
      have ST := prim_starts (S := fun b => S b ∧ b < w.heap.size) (.slice Ac code.length cc) code w1 ⟨Ac, cc, rfl, hcc, Hrc1.out⟩ hclx
      go_wp2_with fail
      refine ST.mono ?_
      rintro e w2 ⟨hb2, hr2⟩
      cases hsp : startsP code with
      | none =>
        rw [hsp] at hr2
        simp only at hr2
        subst hr2
        have G2 := HB.out.below hb2 HB.out.lt
        have q2 := G2.cellv (j := 2) rfl
        have RI := fun d os => Calls.regrown_of (image_right _ _ (grow (redrawn w2 d) os) (⟨_, rfl, _, _, rfl, hcc, (Hrc1.out.below hb2).below (below_regrown w2 d os)⟩ : WdAt (fun b => S b ∧ b < w.heap.size) (grow (redrawn w2 d) os) (wdV ⟨name, flags, code⟩ (.slice Ac code.length cc)) ⟨name, flags, code⟩))
        have q0 := G2.cellv (j := 0) rfl
        have q1 := G2.cellv (j := 1) rfl
        simp only [List.getElem_toArray, List.getElem_cons_zero, List.getElem_cons_succ] at q0 q1 q2
        have Hst0 := Lib.hid (show res = k by rw [hst.out]; simp [checkFrom, wordStarts, hsp])
        have Hb2 := Lib.hid (below_then Hbe1.out Hbe1.out.size hb2)
        simp only [wdV] at RI
        rw [hsv] at RI
        clear G2 hb2 g0 g1 g2 hst ST
        generalize (Wd.mk name flags code).right = rr at RI
        have k0 := cell_regrown q0
        have k1 := cell_regrown q1
        have k2 := cell_regrown q2
        clear q0 q1 q2
        have Hfin := Lib.hid (fun d os => below_then Hb2.out Hb2.out.size (below_regrown w2 d os))
        cases rr with
        | false =>
          go_wp2_with fail
          refine wp_region_quiet_below (by kernel_rfl) (by kernel_rfl) ?_
          repeat (quiet_step (exact RI _ _))
          refine wpQuiet_nil ?_
          rintro _ ⟨⟨dq, osq⟩, rfl⟩
          go_wp2_with fail
          go_ret
          exact ⟨ret_int Hst0.out.symm, Hfin.out _ _⟩
        | true =>
          go_wp2_with fail
          refine wp_region_quiet_below (by kernel_rfl) (by kernel_rfl) ?_
          repeat (quiet_step (exact RI _ _))
          refine wpQuiet_nil ?_
          rintro _ ⟨⟨dq, osq⟩, rfl⟩
          go_wp2_with fail
          go_ret
          exact ⟨ret_int Hst0.out.symm, Hfin.out _ _⟩
      | some st =>
        rw [hsp] at hr2
        obtain ⟨vst, rfl, hown⟩ := hr2
        obtain ⟨A2, c2, rfl, hc2⟩ := own_form hown
        have HO2 := Lib.hid hown
        have G2 := HB.out.below hb2 HB.out.lt
        have q2 := G2.cellv (j := 2) rfl
        have RI := fun d os => Calls.regrown_of (image_right _ _ (grow (redrawn w2 d) os) (⟨_, rfl, _, _, rfl, hcc, (Hrc1.out.below hb2).below (below_regrown w2 d os)⟩ : WdAt (fun b => S b ∧ b < w.heap.size) (grow (redrawn w2 d) os) (wdV ⟨name, flags, code⟩ (.slice Ac code.length cc)) ⟨name, flags, code⟩))
        have q0 := G2.cellv (j := 0) rfl
        have q1 := G2.cellv (j := 1) rfl
        simp only [List.getElem_toArray, List.getElem_cons_zero, List.getElem_cons_succ] at q0 q1 q2
        have Hb2 := Lib.hid (below_then Hbe1.out Hbe1.out.size hb2)
        have Hmap2 := Lib.hid (below_map Hmap1.out hb2)
        have Hrc2 := Lib.hid (Hrc1.out.below hb2)
        have HB2 := Lib.hid G2
        have hsz2 := hb2.size
        simp only [wdV] at RI
        rw [hsv] at RI
        have hsl := startsP_mem hsp
        have hsn : st.length ≤ code.length := startsFrom_len code _ _ st hsp
        obtain ⟨rr, hrr⟩ : ∃ r, r = (Wd.mk name flags code).right := ⟨_, rfl⟩
        rw [← hrr] at RI
        clear G2 hb2 g0 g1 g2 ST hown
        have k0 := cell_regrown q0
        have k1 := cell_regrown q1
        have k2 := cell_regrown q2
        clear q0 q1 q2
        have Hfin := Lib.hid (fun d os => below_then Hb2.out Hb2.out.size (below_regrown w2 d os))
        obtain ⟨n, hnn⟩ : ∃ n, n = st.length := ⟨_, rfl⟩
        rw [← hnn] at hc2 hsn ⊢
        cases rr with
        | false =>
          have Hst0 := Lib.hid (show res = k by rw [hst.out]; simp [checkFrom, wordStarts, ← hrr])
          have Hnn := Lib.hid hnn; clear hnn
          have Hrr := Lib.hid hrr; clear hrr
          have Hsl := Lib.hid hsl; clear hsl
          go_wp2_with fail
          refine wp_region_quiet_below (by kernel_rfl) (by kernel_rfl) ?_
          repeat (quiet_step (exact RI _ _))
          refine wpQuiet_nil ?_
          rintro _ ⟨⟨dq, osq⟩, rfl⟩
          go_wp2_with fail
          go_ret
          exact ⟨ret_int Hst0.out.symm, Hfin.out _ _⟩
        | true =>
          by_cases hn0 : n = 0
          · have hst0 : st = [] := List.eq_nil_of_length_eq_zero (by omega)
            have Hst0 := Lib.hid (show res = k by rw [hst.out]; simp [checkFrom, wordStarts, ← hrr, hsp, hst0])
            have Hrr := Lib.hid hrr; clear hrr
            have Hsl := Lib.hid hsl; clear hsl
            clear hst0
            have Hnn := Lib.hid hnn; clear hnn
            have hn0i : ((n : Int) == 0) = true := by simp; exact hn0
            have hn0j : (n : Int) = 0 := by omega
            clear hn0
            go_wp2_with fail
            refine wp_region_quiet_below (by kernel_rfl) (by kernel_rfl) ?_
            repeat (quiet_step (exact RI _ _))
            refine wpQuiet_nil ?_
            rintro _ ⟨⟨dq, osq⟩, rfl⟩
            go_wp2_with fail
            go_ret
            exact ⟨ret_int Hst0.out.symm, Hfin.out _ _⟩
          · obtain ⟨m, hm⟩ : ∃ m, n = m + 1 := ⟨n - 1, by omega⟩
            have hml : m < st.length := by omega
            obtain ⟨jl, hjm⟩ : ∃ jl, st[m]? = some jl := ⟨_, List.getElem?_eq_getElem hml⟩
            have hlast : st.getLast? = some jl := by rw [List.getLast?_eq_getElem?, ← hnn, hm]; exact hjm
            have hjl1 := (hsl jl (List.mem_of_getElem? hjm)).1
            obtain ⟨y, hyg⟩ : ∃ y, code[jl]? = some y := ⟨_, List.getElem?_eq_getElem hjl1⟩
            have hOwn := (Own.of_row HO2.out).sl
            obtain ⟨A3, c3, e3, _, hr3⟩ := hOwn
            cases e3
            obtain ⟨b2, o2, rfl, hb2f, hcl2⟩ := hr3.at_ (v := .int .i64 jl) (j := m) (by simp [nats, hjm])
            obtain ⟨bc, oc, rfl, _, hcy⟩ := Hrc2.out.at_ (v := .int .u32 (w32 y)) (j := jl) (by simp [u32s, hyg])
            have k3 := cell_regrown hcl2
            have k4 := cell_regrown hcy
            have hws : wordStarts ⟨name, flags, code⟩ = if y = 101 then some st else none := by
              simp only [wordStarts, ← hrr, hsp, hlast, hyg]
              simp
            have hw1 : IntKind.i64.wrap ((n : Int) - 1) = (m : Int) := by rw [IntKind.wrap_i64]; omega
            have hn0i : ((n : Int) == 0) = false := by simp; exact hn0
            have hn0j : ¬ (n : Int) = 0 := by omega
            have hmn : (m : Int) < n := by omega
            have hmn2 : m < n := by omega
            clear hcl2 hcy hr3
            have Hsl := Lib.hid hsl; clear hsl hlast hyg hjm hml
            have Hnn := Lib.hid hnn; clear hnn
            have Hrr := Lib.hid hrr; clear hrr
            have Hws := Lib.hid hws; clear hws
            have Hm := Lib.hid hm; clear hm hn0
            by_cases hy : y = 101
            · subst hy
              have Hst1 := Lib.hid (show res = match (if st.all (instrOk (P ++ placesOf k st) (UInt32.ofNat k) code) then checkFrom (P ++ placesOf k st) (k + 1) (l.drop (k + 1)) else some k) with | none => -1 | some i => (i : Int) from by rw [hst.out]; simp only [checkFrom, Hws.out, if_pos])
              have hyi : (w32 101 != 101) = false := rfl
              have hyj : w32 101 = 101 := rfl
              have hu := u32_of_nat k
              go_wp2_with fail
              refine wp_region_quiet_below (by kernel_rfl) (by kernel_rfl) ?_
              repeat (quiet_step (exact RI _ _))
              refine wpQuiet_nil ?_
              rintro _ ⟨⟨dq, osq⟩, rfl⟩
              have Hb3 := Lib.hid (below_regrown w2 dq osq)
              clear k0 k1 k2 k3 k4 RI hyi hyj
              generalize grow (redrawn w2 dq) osq = w3 at *
              have Hbe3 := Lib.hid (below_then Hb2.out Hb2.out.size Hb3.out)
              have Hmap3 := Lib.hid (below_map Hmap2.out Hb3.out)
              have HO3 := Lib.hid (own_below HO2.out Hb3.out)
              have Hrc3 := Lib.hid (Hrc2.out.below Hb3.out)
              have HB3 := Lib.hid (HB2.out.below Hb3.out HB2.out.lt)
              clear hw1 hn0i hn0j hmn hmn2 Hfin
              go_wp2_with fail
              have hk32 : k < 4294967295 := by omega
              have hrb := right_bounds Hrr.out.symm
              simp only at hrb
              have hs32 : ∀ a ∈ st, a < 4294967296 := fun a ha => by have := (Hsl.out a ha).1; omega
              have Hs32 := Lib.hid hs32; clear hs32
              obtain ⟨mb, hmb⟩ : ∃ mb, mb = w.heap.size := ⟨_, rfl⟩
              rw [← hmb] at Hmap3 ⊢
              have hmb3 : mb < w3.heap.size := (Array.getElem?_eq_some_iff.1 Hmap3.out).1
              have Hmb := Lib.hid hmb; clear hmb
              have Hgrow0 := Lib.hid (show w3.grownBy w3 (some mb) from ⟨rfl, rfl, rfl, Nat.le_refl _, fun _ _ _ => rfl⟩)
              have HOwn3 := Lib.hid (Own.of_row HO3.out).sl
              go_loopw [59] (fun i wr => ∃ (j : Nat), j ≤ n ∧ i = .int .i64 j ∧ Hid (MapAt wr mb (ones (P ++ placesOf k (st.take j)))) ∧ Hid (w3.grownBy wr (some mb)))
                (fun i _ => n - (intOf i).toNat)
              case atStart => exact ⟨0, Nat.zero_le _, rfl, (show MapAt _ _ _ from by rw [List.take_zero]; simpa [placesOf] using Hmap3.out), Hgrow0⟩
              case round =>
                obtain ⟨j, hj, rfl, hmj, hgj⟩ := hrel
                by_cases hjn : j < n
                · have hjs : j < st.length := by rw [← Hnn.out]; exact hjn
                  obtain ⟨a, ha⟩ : ∃ a, st[j]? = some a := ⟨_, List.getElem?_eq_getElem hjs⟩
                  have hb2ne : b2 ≠ mb := by
                    have h1 := hb2f
                    unfold From at h1
                    rw [Hmb.out]
                    have h2 := (Array.getElem?_eq_some_iff.1 hmap.out).1
                    have := hsz1
                    omega
                  have hblt : b2 < w3.heap.size := by
                    obtain ⟨A3, c3, e3, _, hr3⟩ := HOwn3.out
                    cases e3
                    obtain ⟨b', o', e', _, hcl⟩ := hr3.at_ (v := .int .i64 a) (j := j) (by simp [nats, ha])
                    cases e'
                    exact World.block_lt_of_cell? w3 _ hcl
                  have hca : wr.cell? ⟨b2, o2 + j, none⟩ = some (.int .i64 a) := by
                    obtain ⟨A3, c3, e3, _, hr3⟩ := HOwn3.out
                    cases e3
                    obtain ⟨b', o', e', _, hcl⟩ := hr3.at_ (v := .int .i64 a) (j := j) (by simp [nats, ha])
                    cases e'
                    exact (World.cell?_of_block (hgj.out.block b2 hblt (by simpa using hb2ne))).trans hcl
                  have hnew := places_new (P := P) (startsP_sorted hsp) Hs32.out ha (by omega) hPk.out
                  have hua := u32_of_nat a
                  obtain ⟨L, hL⟩ : ∃ L, L = ones (P ++ placesOf k (st.take j)) := ⟨_, rfl⟩
                  rw [← hL] at hnew
                  have hm1 : MapAt wr.drew mb L := by rw [hL]; exact hmj.out
                  have hl1 := map_lookup hm1 (UInt32.ofNat k, UInt32.ofNat a)
                  have hce : cnt L (UInt32.ofNat k, UInt32.ofNat a) = 0 := cnt_none _ _ (idx_none hnew)
                  have he1 := map_entry hm1 _ hnew
                  obtain ⟨W2, hW2⟩ : ∃ W2, W2 = wr.drew.putObj mb (mapObj (L ++ [((UInt32.ofNat k, UInt32.ofNat a), 0)])) := ⟨_, rfl⟩
                  rw [← hW2] at he1
                  have hmbr : mb < wr.heap.size := Nat.lt_of_lt_of_le hmb3 hgj.out.size
                  have hm2 : MapAt W2 mb (L ++ [((UInt32.ofNat k, UInt32.ofNat a), 0)]) := by rw [hW2]; exact World.putObj_heap_same hmbr
                  have hl2 := map_lookup hm2 (UInt32.ofNat k, UInt32.ofNat a)
                  rw [cnt_snoc hnew] at hl2
                  have hs1 := map_store (UInt32.ofNat k, UInt32.ofNat a) 1 hm2
                  obtain ⟨W3, hW3⟩ : ∃ W3, W3 = W2.putObj mb (mapObj (L ++ [((UInt32.ofNat k, UInt32.ofNat a), 1)])) := ⟨_, rfl⟩
                  rw [← hW3] at hs1
                  have Hm3 := Lib.hid (show MapAt W3 mb (ones (P ++ placesOf k (st.take (j + 1)))) from by
                    rw [places_take ha, ← List.append_assoc, ones_snoc, ← hL, hW3]
                    exact World.putObj_heap_same (by rw [hW2]; simpa [World.putObj] using hmbr))
                  have Hg3 := Lib.hid (show w3.grownBy W3 (some mb) from by
                    refine ⟨?_, ?_, ?_, ?_, ?_⟩
                    · rw [hW3, hW2]; exact hgj.out.os
                    · rw [hW3, hW2]; exact hgj.out.tape
                    · rw [hW3, hW2]; exact hgj.out.output
                    · rw [hW3, hW2]; simpa [World.putObj] using hgj.out.size
                    · intro i hi hne
                      have hne' : i ≠ mb := by simpa using hne
                      rw [hW3, World.putObj_heap_other hne', hW2, World.putObj_heap_other hne']
                      exact hgj.out.block i hi hne)
                  rw [hce] at hl1
                  simp only [plV] at hl1 he1 hl2
                  obtain ⟨lb, hlb⟩ : ∃ lb : Nat, lb = L.length := ⟨_, rfl⟩
                  rw [← hlb] at he1 hs1
                  clear hW2 hW3 hm1 hm2 hce hL hlb hnew ha
                  go_wp2_with fail
                  go_region
                  all_goals
                    go_wp2_with fail
                    go_roundw
                    case rel => exact ⟨j + 1, by omega, by go_num, Hm3, Hg3⟩
                    case measure => simp [intOf]; omega
                · have hjn' : j = n := by omega
                  subst hjn'
                  rename World => w4
                  have hmj' := hmj.out
                  rw [Hnn.out, List.take_length] at hmj'
                  have Hmap4 := Lib.hid hmj'; clear hmj'
                  have hb2ne : b2 ≠ mb := by
                    have h1 := hb2f
                    unfold From at h1
                    rw [Hmb.out]
                    have h2 := (Array.getElem?_eq_some_iff.1 hmap.out).1
                    have := hsz1
                    omega
                  have hwone : wo.heap.size ≠ mb := by
                    rw [Hmb.out]
                    have h2 := (Array.getElem?_eq_some_iff.1 hmap.out).1
                    omega
                  have Hkeep4 := Lib.hid (fun b' (h1 : b' < w3.heap.size) (h2 : b' ≠ mb) => hgj.out.block b' h1 (by simpa using h2))
                  have HB4 := Lib.hid (show Blk w4 wo.heap.size 25 _ from (Hkeep4.out _ HB3.out.lt hwone).trans HB3.out)
                  have HOwn4 := Lib.hid (show Sl (fun b' => (From w1.heap.size b') ∧ b' < w3.heap.size) w4 _ _ _ from Sl.keep (Sl.bound HOwn3.out) fun b' h1 h2 => Hkeep4.out b' h2.2 (by
                    have h3 := h2.1
                    unfold From at h3
                    rw [Hmb.out]
                    have h4 := (Array.getElem?_eq_some_iff.1 hmap.out).1
                    have := hsz1
                    omega))
                  have Hrc4 := Lib.hid (Hrc3.out.keep (w' := w4) fun b' h1 h2 => Hkeep4.out b' h1 (by rw [Hmb.out]; omega))
                  have Hbe4 := Lib.hid (show Below w.heap.size w w4 from below_grown Hbe3.out hgj.out Hbe3.out.size (fun z hz => by cases hz; rw [Hmb.out]; exact Nat.le_refl _))
                  clear hmj hgj hb2ne hwone hj hjn
                  obtain ⟨SS, hSS⟩ : ∃ SS, SS = P ++ placesOf k st := ⟨_, rfl⟩
                  rw [← hSS] at Hmap4 Hst1
                  have HSS := Lib.hid hSS; clear hSS
                  obtain ⟨me, hme⟩ : ∃ me, me = UInt32.ofNat k := ⟨_, rfl⟩
                  rw [← hme] at Hst1 ⊢
                  have Hme := Lib.hid hme; clear hme
                  have Hlook := Lib.hid (fun (W : World) (hW : MapAt W mb (ones SS)) (p : Pl) => by have := map_lookup hW p; rwa [cnt_ones] at this)
                  have Hsp := Lib.hid hsp; clear hsp
                  have HJ := Lib.hid (fun (y : UInt32) (W : World) => prim_jumps y W)
                  go_wp2_with fail
                  go_loopw [75] (fun i wr => ∃ (q : Nat), q ≤ j ∧ i = .int .i64 q ∧ Hid ((st.take q).all (instrOk SS me code) = true) ∧ Hid (Below w4.heap.size w4 wr))
                    (fun i _ => j - (intOf i).toNat)
                  case atStart => exact ⟨0, Nat.zero_le _, rfl, (show _ = _ from rfl), Below.refl _ _⟩
                  case round =>
                    rename World => wr
                    obtain ⟨q, hq, rfl, hall3, hb5⟩ := hrel
                    by_cases hqj : q < j
                    · have hqs : q < st.length := by rw [← Hnn.out]; exact hqj
                      obtain ⟨a, ha⟩ : ∃ a, st[q]? = some a := ⟨_, List.getElem?_eq_getElem hqs⟩
                      have hal := (Hsl.out a (List.mem_of_getElem? ha))
                      obtain ⟨x, hx⟩ : ∃ x, code[a]? = some x := ⟨_, List.getElem?_eq_getElem hal.1⟩
                      have hca : wr.cell? ⟨b2, o2 + q, none⟩ = some (.int .i64 a) := by
                        obtain ⟨A3, c3, e3, _, hr3⟩ := Sl.below HOwn4.out hb5.out
                        cases e3
                        obtain ⟨b', o', e', _, hcl⟩ := hr3.at_ (v := .int .i64 a) (j := q) (by simp [nats, ha])
                        cases e'
                        exact hcl
                      have Hrc5 := Lib.hid (Hrc4.out.below hb5.out)
                      have hcx : wr.cell? ⟨bc, oc + a, none⟩ = some (.int .u32 (w32 x)) := by
                        obtain ⟨b', o', e', _, hcl⟩ := Hrc5.out.at_ (v := .int .u32 (w32 x)) (j := a) (by simp [u32s, hx])
                        cases e'
                        exact hcl
                      have hbox := (HB4.out.below hb5.out HB4.out.lt).cellv (j := 2) rfl
                      simp only [List.getElem_toArray, List.getElem_cons_zero, List.getElem_cons_succ] at hbox
                      have Hmap5 := Lib.hid (below_map Hmap4.out hb5.out)
                      obtain ⟨A4, hA4⟩ : ∃ A4, A4 = (if cc = a + 1 then some (⟨bc, oc, none⟩ : Addr) else some ⟨bc, oc + (a + 1), none⟩) := ⟨_, rfl⟩
                      have ha1 : a + 1 ≤ code.length := hal.1
                      obtain ⟨ln, hln⟩ : ∃ ln, ln = code.length - (a + 1) := ⟨_, rfl⟩
                      have hsl : ∀ W, (Instr.slice 23 (.slice (some ⟨bc, oc, none⟩) code.length cc) (some (.int .i64 ((a : Int) + 1))) none none).run Try.prog W = .ok (.slice A4 ln (cc - (a + 1))) W := fun W => by
                        rw [hln]
                        rw [run_slice_l W 23 _ _ _ Try.underlying23 .i64 ((a : Int) + 1) (by omega) (by omega), hA4]
                        simp only [sliced, Result.andThen, Program.elem, Try.underlying23, Try.sizeOf51]
                        by_cases h1 : cc = a + 1
                        · simp [h1]
                        · simp [h1, addr_add]
                      have HA4 := Lib.hid hA4; clear hA4
                      have Hln := Lib.hid hln; clear hln
                      have ha0 := hal.1
                      have Hal := Lib.hid hal; clear hal
                      have Hok := Lib.hid (show (st.take (q + 1)).all (instrOk SS me code) = instrOk SS me code a from by rw [List.take_add_one, ha, List.all_append, hall3.out]; simp)
                      have Hbad := Lib.hid (fun (h : instrOk SS me code a = false) => (show res = k from by
                        have : st.all (instrOk SS me code) = false := by
                          rw [List.all_eq_false]
                          exact ⟨a, List.mem_of_getElem? ha, by rw [h]; simp⟩
                        rw [Hst1.out, this]
                        rfl))
                      have Hx := Lib.hid hx; clear hx ha
                      have hmr := w32_range me
                      have hxr := w32_range x
                      have Hb5 := Lib.hid (below_then Hbe4.out Hbe4.out.size hb5.out)
                      by_cases c1 : 256 ≤ w32 x
                      · have c1u : 256 ≤ x := by rw [UInt32.le_iff_toNat_le]; unfold w32 at c1; simp; omega
                        have hsub : w32 (x - 256) = w32 x - 256 := by
                          unfold w32 at c1 ⊢
                          rw [UInt32.toNat_sub_of_le _ _ c1u]
                          simp; omega
                        have hio : instrOk SS me code a = !(decide (w32 me < w32 x - 256)) := by
                          unfold instrOk
                          rw [Hx.out]
                          simp only
                          rw [if_pos c1u, ← hsub]
                          congr 1
                          exact decide_eq_decide.2 (by rw [UInt32.lt_iff_toNat_lt]; unfold w32; omega)
                        have hne : (w32 x == 139) = false := by simp; omega
                        have hne2 : ¬ w32 x = 139 := by omega
                        have c1' : ¬ w32 x < 256 := by omega
                        clear hsub
                        by_cases c2 : w32 me < w32 x - 256
                        · have Hres := Lib.hid (Hbad.out (by rw [hio]; simp [c2])); clear hio
                          go_wp2_with fail
                          go_ret
                          exact ⟨ret_int Hres.out.symm, Hb5.out⟩
                        · have Hall := Lib.hid (show (st.take (q + 1)).all (instrOk SS me code) = true from by rw [Hok.out, hio]; simp [c2]); clear hio
                          go_wp2_with fail
                          go_quiet (fail)
                          go_wp2_with fail
                          go_roundw
                          case rel => exact ⟨q + 1, by omega, by go_num, Hall, Lib.hid (Go.Ls.below_drewN hb5.out nq)⟩
                          case measure => simp [intOf]; omega
                      · have c1u : ¬ 256 ≤ x := fun h => c1 (by have := UInt32.le_iff_toNat_le.1 h; unfold w32; simp at this; omega)
                        have c1' : w32 x < 256 := by omega
                        have J := HJ.out x wr
                        cases hj : jumpsP x with
                        | true =>
                          rw [hj] at J
                          obtain ⟨hn1, hn139⟩ := jumps_next Hx.out Hal.out.2 c1u hj
                          obtain ⟨y, hy⟩ : ∃ y, code[a + 1]? = some y := ⟨_, List.getElem?_eq_getElem hn1⟩
                          obtain rfl : A4 = some ⟨bc, oc + (a + 1), none⟩ := by rw [HA4.out, if_neg (by omega)]
                          have hne : (w32 x == 139) = false := by simp; exact fun e => hn139 (w32_inj (e.trans rfl))
                          have hne2 : ¬ w32 x = 139 := by simpa using hne
                          have hio : instrOk SS me code a = SS.contains (me, y) := by
                            unfold instrOk
                            rw [Hx.out, hy]
                            simp only
                            rw [if_neg c1u, hj]
                            have : (x == 139) = false := by simpa using hn139
                            rw [this]
                            simp only [Option.getD_some, Bool.true_and, Bool.false_eq_true, if_false]
                            cases SS.contains (me, y) <;> rfl
                          have Hy := Lib.hid hy; clear hy hj hn139 c1u
                          have hpos : 0 < ln := by have := Hln.out; omega
                          have hposi : (0 : Int) < (ln : Int) := by omega
                          cases hct : SS.contains (me, y) with
                          | false =>
                            have Hres := Lib.hid (Hbad.out (by rw [hio]; exact hct)); clear hio
                            go_wp2_with fail
                            refine J.mono ?_
                            rintro e w5 ⟨rfl, hb6⟩
                            have hcy : w5.cell? ⟨bc, oc + (a + 1), none⟩ = some (.int .u32 (w32 y)) := by
                              obtain ⟨b', o', e', _, hcl⟩ := (Hrc5.out.below hb6).at_ (v := .int .u32 (w32 y)) (j := a + 1) (by simp [u32s, Hy.out])
                              cases e'
                              exact hcl
                            have hlk := Hlook.out w5 (below_map Hmap5.out hb6) (me, y)
                            rw [hct] at hlk
                            simp only [plV] at hlk
                            have Hb6 := Lib.hid (below_then Hb5.out Hb5.out.size hb6); clear hb6
                            go_wp2_with fail
                            go_ret
                            exact ⟨ret_int Hres.out.symm, Hb6.out⟩
                          | true =>
                            have Hall := Lib.hid (show (st.take (q + 1)).all (instrOk SS me code) = true from by rw [Hok.out, hio]; exact hct); clear hio
                            go_wp2_with fail
                            refine J.mono ?_
                            rintro e w5 ⟨rfl, hb6⟩
                            have hcy : w5.cell? ⟨bc, oc + (a + 1), none⟩ = some (.int .u32 (w32 y)) := by
                              obtain ⟨b', o', e', _, hcl⟩ := (Hrc5.out.below hb6).at_ (v := .int .u32 (w32 y)) (j := a + 1) (by simp [u32s, Hy.out])
                              cases e'
                              exact hcl
                            have hlk := Hlook.out w5 (below_map Hmap5.out hb6) (me, y)
                            rw [hct] at hlk
                            simp only [plV] at hlk
                            have Hb6 := Lib.hid (below_then hb5.out hb5.out.size hb6); clear hb6
                            go_wp2_with fail
                            go_quiet (fail)
                            go_wp2_with fail
                            go_roundw
                            case rel => exact ⟨q + 1, by omega, by go_num, Hall, Lib.hid (Go.Ls.below_drewN Hb6.out nq)⟩
                            case measure => simp [intOf]; omega
                        | false =>
                          rw [hj] at J
                          by_cases c3 : x = 139
                          · subst c3
                            have hn2 := away_next Hx.out Hal.out.2
                            obtain ⟨y, hy⟩ : ∃ y, code[a + 1]? = some y := ⟨_, List.getElem?_eq_getElem (by omega)⟩
                            obtain ⟨z, hz⟩ : ∃ z, code[a + 2]? = some z := ⟨_, List.getElem?_eq_getElem hn2⟩
                            obtain rfl : A4 = some ⟨bc, oc + (a + 1), none⟩ := by rw [HA4.out, if_neg (by omega)]
                            have hne : (w32 139 == 139) = true := rfl
                            have hne2 : w32 139 = 139 := rfl
                            have hio : instrOk SS me code a = !(decide (w32 me ≤ w32 y) || !SS.contains (y, z)) := by
                              unfold instrOk
                              rw [Hx.out, hy, hz]
                              simp only
                              rw [if_neg c1u, hj]
                              simp only [Bool.false_and, Bool.false_eq_true, if_false, beq_self_eq_true, if_true, Option.getD_some]
                              congr 2
                              exact decide_eq_decide.2 (by rw [UInt32.le_iff_toNat_le]; unfold w32; omega)
                            have Hy := Lib.hid hy
                            have Hz := Lib.hid hz
                            clear hy hz hj c1u
                            have hpos : 0 < ln := by have := Hln.out; omega
                            have hposi : (0 : Int) < (ln : Int) := by omega
                            have hpos1 : 1 < ln := by have := Hln.out; omega
                            have hpos1i : (1 : Int) < (ln : Int) := by omega
                            have hcys : ∀ w5, Below wr.heap.size wr w5 → w5.cell? ⟨bc, oc + (a + 1), none⟩ = some (.int .u32 (w32 y)) ∧ w5.cell? ⟨bc, oc + (a + 1) + 1, none⟩ = some (.int .u32 (w32 z)) := fun w5 hb6 => by
                              obtain ⟨b', o', e', _, hcl⟩ := (Hrc5.out.below hb6).at_ (v := .int .u32 (w32 y)) (j := a + 1) (by simp [u32s, Hy.out])
                              cases e'
                              obtain ⟨b', o', e', _, hcl2⟩ := (Hrc5.out.below hb6).at_ (v := .int .u32 (w32 z)) (j := a + 2) (by simp [u32s, Hz.out])
                              cases e'
                              exact ⟨hcl, hcl2⟩
                            have Hcys := Lib.hid hcys; clear hcys
                            by_cases c4 : w32 me ≤ w32 y
                            · have Hres := Lib.hid (Hbad.out (by rw [hio]; simp [c4])); clear hio
                              go_wp2_with fail
                              refine J.mono ?_
                              rintro e w5 ⟨rfl, hb6⟩
                              obtain ⟨hcy, hcz⟩ := Hcys.out w5 hb6
                              have Hb6 := Lib.hid (below_then Hb5.out Hb5.out.size hb6); clear hb6
                              go_wp2_with fail
                              go_quiet (fail)
                              go_wp2_with fail
                              go_ret
                              exact ⟨ret_int Hres.out.symm, Go.Ls.below_drewN Hb6.out _⟩
                            · cases hct : SS.contains (y, z) with
                              | false =>
                                have Hres := Lib.hid (Hbad.out (by rw [hio, hct]; simp)); clear hio
                                go_wp2_with fail
                                refine J.mono ?_
                                rintro e w5 ⟨rfl, hb6⟩
                                obtain ⟨hcy, hcz⟩ := Hcys.out w5 hb6
                                have hlk := fun m => Hlook.out (w5.drewN m) (below_map Hmap5.out (Go.Ls.below_drewN hb6 m)) (y, z)
                                rw [hct] at hlk
                                simp only [plV] at hlk
                                have Hb6 := Lib.hid (below_then Hb5.out Hb5.out.size hb6); clear hb6
                                go_wp2_with fail
                                go_quiet (fail)
                                go_wp2_with fail
                                go_ret
                                exact ⟨ret_int Hres.out.symm, Go.Ls.below_drewN Hb6.out _⟩
                              | true =>
                                have Hall := Lib.hid (show (st.take (q + 1)).all (instrOk SS me code) = true from by rw [Hok.out, hio, hct]; simp [c4]); clear hio
                                go_wp2_with fail
                                refine J.mono ?_
                                rintro e w5 ⟨rfl, hb6⟩
                                obtain ⟨hcy, hcz⟩ := Hcys.out w5 hb6
                                have hlk := fun m => Hlook.out (w5.drewN m) (below_map Hmap5.out (Go.Ls.below_drewN hb6 m)) (y, z)
                                rw [hct] at hlk
                                simp only [plV] at hlk
                                have Hb6 := Lib.hid (below_then hb5.out hb5.out.size hb6); clear hb6
                                go_wp2_with fail
                                go_quiet (fail)
                                go_wp2_with fail
                                go_roundw
                                case rel => exact ⟨q + 1, by omega, by go_num, Hall, Lib.hid (Go.Ls.below_drewN Hb6.out nq)⟩
                                case measure => simp [intOf]; omega
                          · have hne : (w32 x == 139) = false := by simp; exact fun e => c3 (w32_inj (e.trans rfl))
                            have hne2 : ¬ w32 x = 139 := by simpa using hne
                            have Hall := Lib.hid (show (st.take (q + 1)).all (instrOk SS me code) = true from by
                              rw [Hok.out]
                              unfold instrOk
                              rw [Hx.out]
                              simp only
                              rw [if_neg c1u, hj]
                              have : (x == 139) = false := by simpa using c3
                              rw [this]
                              rfl)
                            clear c3 hj c1u
                            go_wp2_with fail
                            refine J.mono ?_
                            rintro e w5 ⟨rfl, hb6⟩
                            have Hb6 := Lib.hid (below_then hb5.out hb5.out.size hb6); clear hb6
                            go_wp2_with fail
                            go_quiet (fail)
                            go_wp2_with fail
                            go_roundw
                            case rel => exact ⟨q + 1, by omega, by go_num, Hall, Lib.hid (Go.Ls.below_drewN Hb6.out nq)⟩
                            case measure => simp [intOf]; omega
                    · have hqj' : q = j := by omega
                      subst hqj'
                      have hal := hall3.out
                      rw [Hnn.out, List.take_length] at hal
                      have Hst2 := Lib.hid (show res = match checkFrom SS (k + 1) (l.drop (k + 1)) with | none => -1 | some i => (i : Int) from by rw [Hst1.out, hal]; rfl)
                      have Hpl := Lib.hid (show ∀ q ∈ SS, q.1.toNat < k + 1 from by rw [HSS.out]; exact places_lt hk32 hPk.out)
                      have Hmap6 := Lib.hid (below_map Hmap4.out hb5.out)
                      have hmb := Hmb.out
                      subst hmb
                      have Hb6 := Lib.hid (below_then Hbe4.out Hbe4.out.size hb5.out)
                      clear hal
                      go_wp2_with fail
                      go_roundw
                      case rel => exact ⟨k + 1, SS, by omega, by go_num, Hmap6, Hpl, Hst2, Hb6⟩
                      case measure => simp [intOf]; omega
            · have Hst0 := Lib.hid (show res = k by rw [hst.out]; simp [checkFrom, Hws.out, hy])
              have hyi : (w32 y != 101) = true := by simp; exact fun e => hy (w32_inj (e.trans rfl))
              have hyj : ¬ w32 y = 101 := by simpa using hyi
              clear hy
              go_wp2_with fail
              refine wp_region_quiet_below (by kernel_rfl) (by kernel_rfl) ?_
              repeat (quiet_step (exact RI _ _))
              refine wpQuiet_nil ?_
              rintro _ ⟨⟨dq, osq⟩, rfl⟩
              go_wp2_with fail
              go_ret
              exact ⟨ret_int Hst0.out.symm, Hfin.out _ _⟩
    · have hk' : k = l.length := by omega
      have Hr := Lib.hid (show res = -1 from by rw [hst.out, hk', List.drop_length]; rfl)
      have Hbf := Lib.hid hbe.out
      subst hk'
      go_wp2_with fail
      go_ret
      exact ⟨ret_int Hr.out.symm, Hbf.out⟩
end Go.Proofs.Ytmejngojpffcgaa
end

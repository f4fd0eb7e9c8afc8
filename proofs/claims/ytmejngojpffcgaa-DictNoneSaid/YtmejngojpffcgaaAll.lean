import Derived.Test.YtmejngojpffcgaaSame
import Derived.Lib.QuietBelow
namespace Go.Ls
def allW (l m : List Wd) : Bool := l.length == m.length && (l.zip m).all fun p => sameW p.1 p.2
theorem sameW_iff (x y : Wd) : sameW x y = true ↔ x = y := by
  obtain ⟨a, b, c⟩ := x
  obtain ⟨d, e, f⟩ := y
  simp [sameW, and_assoc]
theorem allW_iff (l m : List Wd) : allW l m = true ↔ l = m := by
  unfold allW
  simp only [Bool.and_eq_true, beq_iff_eq, List.all_eq_true]
  constructor
  · rintro ⟨h1, h2⟩
    apply List.ext_getElem h1
    intro i hi hi'
    exact (sameW_iff _ _).1 (h2 (l[i], m[i]) (by rw [List.mem_iff_getElem]; exact ⟨i, by simp; omega, by simp⟩))
  · rintro rfl
    refine ⟨rfl, fun p hp => (sameW_iff _ _).2 ?_⟩
    obtain ⟨i, hi, rfl⟩ := List.mem_iff_getElem.1 hp
    simp
end Go.Ls
namespace Go.Proofs.Ytmejngojpffcgaa
open Go.RowKit Go.Ls Go.Sort
attribute [local irreducible] wpQuiet wpList Code.wp
set_option maxRecDepth 100000 in
set_option maxHeartbeats 1000000 in
theorem law_all {S S' : Nat → Prop} (v v' : Value) (l m : List Wd) (w : World) (hl : WordsAt S w v l) (hm : WordsAt S' w v' m) (hn : l.length ≤ 1099511627776) (hc : ∀ y ∈ m, y.code.length ≤ 140737488355328) :
    Calls Try.prog 16 #[v, v'] w fun e w' => e = .returned (.bool (allW l m)) ∧ Below w.heap.size w w' := by
  have Hl := Lib.hid hl
  have Hm := Lib.hid hm
  have hform : ∃ A c, v = .slice A l.length c := by obtain ⟨ps, _, ⟨A, c, e, _⟩, _⟩ := hl; exact ⟨A, c, e⟩
  have hform' : ∃ A c, v' = .slice A m.length c := by obtain ⟨ps, _, ⟨A, c, e, _⟩, _⟩ := hm; exact ⟨A, c, e⟩
  clear hl hm
  obtain ⟨A, c, rfl⟩ := hform
  obtain ⟨A', c', rfl⟩ := hform'
  by_cases c1 : l.length = m.length
  · have c1i : ((l.length : Int) != (m.length : Int)) = false := by rw [c1]; simp
    obtain ⟨n, hn'⟩ : ∃ n, n = m.length := ⟨_, rfl⟩
    rw [c1, ← hn'] at c1i
    rw [c1, ← hn'] at hn
    have e1 : (Value.slice A l.length c) = .slice A n c := by rw [c1, hn']
    have e2 : (Value.slice A' m.length c') = .slice A' n c' := by rw [hn']
    rw [e1] at Hl ⊢
    rw [e2] at Hm ⊢
    clear e1 e2
    have hres : allW l m = (l.zip m).all fun p => sameW p.1 p.2 := by simp [allW, c1]
    rw [hres]
    have hzl : (l.zip m).length = n := by simp [c1, hn']
    have Hnm := Lib.hid hn'; clear hn'
    have Hc1 := Lib.hid c1; clear c1
    have Hzl := Lib.hid hzl; clear hzl
    clear hres
    have Hc := Lib.hid hc; clear hc
    go_enter Try.func16, Try.ntmps16
    go_wp2_with fail
    go_loopw [13] (fun i wr => ∃ (k : Nat), k ≤ n ∧ i = .int .i64 k ∧ Hid (((l.zip m).take k).all (fun p => sameW p.1 p.2) = true) ∧ Hid (Below w.heap.size w wr)) (fun i _ => n - (intOf i).toNat)
    case atStart => exact ⟨0, Nat.zero_le _, rfl, (show _ = _ from rfl), Below.refl _ _⟩
    case round =>
      obtain ⟨k, hk, rfl, hal, hbe⟩ := hrel
      by_cases hlt : k < n
      · have hkl : k < l.length := by have := Hc1.out; have := Hnm.out; omega
        have hkm : k < m.length := by have := Hnm.out; omega
        obtain ⟨x, hx⟩ : ∃ x, l[k]? = some x := ⟨_, List.getElem?_eq_getElem hkl⟩
        obtain ⟨y, hy⟩ : ∃ y, m[k]? = some y := ⟨_, List.getElem?_eq_getElem hkm⟩
        have hlw := Hl.out.below hbe.out
        have hmw := Hm.out.below hbe.out
        obtain ⟨hz1, b, o, cv, rfl, _, h0, h1, h2, h3⟩ := hlw.word hx
        obtain ⟨hz2, b', o', cv', rfl, _, h0', h1', h2', h3'⟩ := hmw.word hy
        clear hz1 hz2
        have hzk : (l.zip m)[k]? = some (x, y) := by rw [List.getElem?_zip_eq_some]; exact ⟨hx, hy⟩
        have Hnext := Lib.hid (show ((l.zip m).take (k + 1)).all (fun p => sameW p.1 p.2) = sameW x y from by rw [List.take_add_one, hzk, List.all_append, hal.out]; simp)
        have Hbad := Lib.hid (fun (h : sameW x y = false) => (show (l.zip m).all (fun p => sameW p.1 p.2) = false from by
          rw [List.all_eq_false]; exact ⟨(x, y), List.mem_of_getElem? hzk, by simp [h]⟩))
        have LS := fun d os => Calls.regrown_of (law_same (S := S) (S' := S') _ _ x y (grow (redrawn wr d) os) ⟨cv, rfl, Sl.below h3 (below_regrown wr d os)⟩ ⟨cv', rfl, Sl.below h3' (below_regrown wr d os)⟩ (Hc.out y (List.mem_of_getElem? hy)))
        obtain ⟨r, hr⟩ : ∃ r, r = sameW x y := ⟨_, rfl⟩
        rw [← hr] at LS Hnext Hbad
        obtain ⟨xn, xf, xc⟩ := x
        obtain ⟨yn, yf, yc⟩ := y
        simp only [wdV] at LS h0 h1 h2 h0' h1' h2'
        generalize str xn = sx at *
        generalize str yn = sy at *
        have k0 := cell_regrown h0
        have k1 := cell_regrown h1
        have k2 := cell_regrown h2
        have k0' := cell_regrown h0'
        have k1' := cell_regrown h1'
        have k2' := cell_regrown h2'
        have Hfin := Lib.hid (fun d os => below_then hbe.out hbe.out.size (below_regrown wr d os))
        clear h0 h1 h2 h0' h1' h2' h3 h3' hlw hmw hr hx hy hzk
        cases r with
        | false =>
          go_wp2_with fail
          refine wp_region_quiet_below (by kernel_rfl) (by kernel_rfl) ?_
          repeat (quiet_step (exact LS _ _))
          refine wpQuiet_nil ?_
          rintro _ ⟨⟨dq, osq⟩, rfl⟩
          go_wp2_with fail
          go_ret
          exact ⟨ret_bool (by first | exact (Hbad.out rfl).symm | exact (Hbad.out trivial).symm), Hfin.out _ _⟩
        | true =>
          go_wp2_with fail
          refine wp_region_quiet_below (by kernel_rfl) (by kernel_rfl) ?_
          repeat (quiet_step (exact LS _ _))
          refine wpQuiet_nil ?_
          rintro _ ⟨⟨dq, osq⟩, rfl⟩
          go_wp2_with fail
          go_roundw
          case rel => exact ⟨k + 1, by omega, by go_num, Hnext, Lib.hid (Hfin.out _ _)⟩
          case measure => simp [intOf]; omega
      · have hk' : k = n := by omega
        subst hk'
        have Hr := Lib.hid (show (l.zip m).all (fun p => sameW p.1 p.2) = true from by have := hal.out; rwa [← Hzl.out, List.take_length] at this)
        go_wp2_with fail
        go_ret
        exact ⟨ret_bool Hr.out.symm, hbe.out⟩
  · have c1i : ((l.length : Int) != (m.length : Int)) = true := by simp; omega
    have hres : allW l m = false := by simp [allW, c1]
    rw [hres]
    go_enter Try.func16, Try.ntmps16
    go_wp2_with fail
    go_ret
    exact ⟨rfl, Below.refl _ _⟩
end Go.Proofs.Ytmejngojpffcgaa

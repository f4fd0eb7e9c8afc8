import Derived.Test.YtmejngojpffcgaaWords
import Derived.Test.YtmejngojpffcgaaEnc
namespace Go.Ls
def sameW (x y : Wd) : Bool := x.name == y.name && x.flags == y.flags && x.code == y.code
end Go.Ls
namespace Go.Proofs.Ytmejngojpffcgaa
open Go.RowKit Go.Ls
theorem str_ne (a b : List UInt8) : ((⟨a.toArray⟩ : ByteArray) = ⟨b.toArray⟩) ↔ a = b :=
  ⟨fun e => by injection e with e2; simpa using e2, fun e => by rw [e]⟩
theorem neq_guard (a b : List UInt8) (p q : Operand) (W : World) : (eqGuard .neq 9 p q (str a) (str b)).run Try.prog W = .ok () W := by
  simp [str, eqGuard]
theorem neq_str (a b : List UInt8) (W : World) : (binOp .neq 9 (str a) (str b)).run Try.prog W = .ok (.bool (a != b)) W := by
  simp [str, binOp, go_sem]
  simp [Op.stringOp]
  cases h : a == b <;> simp [bne, h]
set_option maxRecDepth 100000 in
set_option maxHeartbeats 400000 in
theorem law_same {S S' : Nat → Prop} (v v' : Value) (x y : Wd) (w : World) (hx : WdAt S w v x) (hy : WdAt S' w v' y) (hn : y.code.length ≤ 140737488355328) :
    Calls Try.prog 48 #[v, v'] w fun e w' => e = .returned (.bool (sameW x y)) ∧ Below w.heap.size w w' := by
  obtain ⟨cv, rfl, A, c, rfl, hc, hr⟩ := hx
  obtain ⟨cv', rfl, A', c', rfl, hc', hr'⟩ := hy
  obtain ⟨name, flags, code⟩ := x
  obtain ⟨name', flags', code'⟩ := y
  simp only [wdV] at *
  have hg := fun p q W => neq_guard name name' p q W
  have hq := fun W => neq_str name name' W
  have hbe : Below w.heap.size w ((w.alloc (.cells #[str name, .int .u8 (b8 flags), .slice A code.length c] 25)).alloc (.cells #[str name', .int .u8 (b8 flags'), .slice A' code'.length c'] 25)) := ((Below.refl _ w).alloc (Nat.le_refl _) _).alloc (by simp) _
  have hb := (Blk.new w 25 #[str name, .int .u8 (b8 flags), .slice A code.length c]).alloc (.cells #[str name', .int .u8 (b8 flags'), .slice A' code'.length c'] 25)
  have hb' := Blk.new (w.alloc (.cells #[str name, .int .u8 (b8 flags), .slice A code.length c] 25)) 25 #[str name', .int .u8 (b8 flags'), .slice A' code'.length c']
  rw [World.size_alloc] at hb'
  generalize hs : str name = sv at *
  generalize hs' : str name' = sv' at *
  by_cases c1 : name = name'
  · have c1' : (name != name') = false := by simpa using c1
    rw [c1'] at hq
    by_cases c2 : flags = flags'
    · by_cases c3 : code.length = code'.length
      · have c3' : ((code.length : Int) != (code'.length : Int)) = false := by rw [c3]; simp
        have c2' : (b8 flags != b8 flags') = false := by rw [c2]; simp
        have hres : sameW ⟨name, flags, code⟩ ⟨name', flags', code'⟩ = (code == code') := by simp [sameW, c1, c2]
        rw [hres]
        have Hr := Lib.hid hr; clear hr
        have Hr' := Lib.hid hr'; clear hr'
        clear hres c1 hs hs'
        subst c2
        have hrl := hb.lt
        obtain ⟨w1, hw1⟩ : ∃ w1, ((w.alloc (.cells #[sv, .int .u8 (b8 flags), .slice A code.length c] 25)).alloc (.cells #[sv', .int .u8 (b8 flags), .slice A' code'.length c'] 25)) = w1 := ⟨_, rfl⟩
        have Hb : Hid (Blk w1 w.heap.size 25 #[sv, .int .u8 (b8 flags), .slice A code'.length c]) := Lib.hid (by rw [← hw1, show (Value.slice A code'.length c) = .slice A code.length c by rw [c3]]; exact hb)
        have Hb' : Hid (Blk w1 (w.heap.size + 1) 25 #[sv', .int .u8 (b8 flags), .slice A' code'.length c']) := Lib.hid (by rw [← hw1]; exact hb')
        have Hbe : Hid (Below w.heap.size w w1) := Lib.hid (by rw [← hw1]; exact hbe)
        have Hw1 := Lib.hid hw1
        clear hb hb' hbe hrl hw1
        have Hcl := Lib.hid c3
        go_enter Try.func48, Try.ntmps48
        go_wp2_with fail
        rw [c3] at Hw1
        rw [Hw1.out]
        clear c3 hq hg c2' c3'
        go_loopw [30] (fun i wr => ∃ (k m : Nat), k ≤ code'.length ∧ i = .int .i64 k ∧ Hid (wr = w1.drewN m) ∧ Hid (∀ j, j < k → code[j]? = code'[j]?)) (fun i _ => code'.length - (intOf i).toNat)
        case atStart => exact ⟨0, 0, Nat.zero_le _, rfl, rfl, fun j h => by omega⟩
        case round =>
          obtain ⟨k, m, hk, rfl, hwr, heq⟩ := hrel
          have hB : Blk wr w.heap.size 25 #[sv, .int .u8 (b8 flags), .slice A code'.length c] := by rw [hwr.out]; exact Hb.out.drewN m
          have hB' : Blk wr (w.heap.size + 1) 25 #[sv', .int .u8 (b8 flags), .slice A' code'.length c'] := by rw [hwr.out]; exact Hb'.out.drewN m
          have g2 := hB.cellv (j := 2) rfl
          have g2' := hB'.cellv (j := 2) rfl
          simp only [List.getElem_toArray, List.getElem_cons_zero, List.getElem_cons_succ] at g2 g2'
          have Hwb : Hid (Below w.heap.size w wr) := Lib.hid (by rw [hwr.out]; exact below_drewN Hbe.out m)
          by_cases hlt : k < code'.length
          · have hr1 := Hr.out.below Hwb.out
            have hr2 := Hr'.out.below Hwb.out
            have hcl := Hcl.out
            obtain ⟨b1, o1, rfl, _, hc1⟩ := hr1.at_ (u32s_get (show k < code.length by omega))
            obtain ⟨b2, o2, rfl, _, hc2⟩ := hr2.at_ (u32s_get hlt)
            have Hx := Lib.hid (List.getElem?_eq_getElem (show k < code.length by omega))
            have Hy := Lib.hid (List.getElem?_eq_getElem hlt)
            generalize code[k]'(by omega) = x at *
            generalize code'[k] = y at *
            clear hr1 hr2 hB hB'
            by_cases hxy : x = y
            · subst hxy
              clear hcl
              go_wp2_with fail
              go_quiet (fail)
              go_wp2_with fail
              go_roundw
              case rel => exact ⟨k + 1, m + nq, by omega, by go_num, Lib.hid (by rw [hwr.out]; exact World.drewN_drewN ..), fun j hj => by
                rcases Nat.lt_or_ge j k with h | h
                · exact heq.out j h
                · have : j = k := by omega
                  subst this
                  rw [Hx.out, Hy.out]⟩
              case measure => simp [intOf]; omega
            · have hne : (w32 x != w32 y) = true := by simp; exact fun e => hxy (w32_inj e)
              have Hxy := Lib.hid hxy; clear hxy
              clear hcl
              go_wp2_with fail
              go_quiet (fail)
              go_wp2_with fail
              go_ret
              refine ⟨ret_bool ?_, below_drewN Hwb.out _⟩
              symm
              rw [beq_eq_false_iff_ne]
              intro e
              rw [e] at Hx
              have := Hx.out.symm.trans Hy.out
              exact Hxy.out (by cases this; rfl)
          · obtain rfl : k = code'.length := by omega
            have hall : (code == code') = true := by
              rw [beq_iff_eq]
              apply List.ext_getElem?
              intro j
              by_cases hj : j < code'.length
              · exact heq.out j hj
              · rw [List.getElem?_eq_none (by have := Hcl.out; omega), List.getElem?_eq_none (by omega)]
            have Hall := Lib.hid hall; clear hall
            go_wp2_with fail
            go_ret
            exact ⟨ret_bool Hall.out.symm, Hwb.out⟩
      · have c3' : ((code.length : Int) != (code'.length : Int)) = true := by simp; omega
        have hres : sameW ⟨name, flags, code⟩ ⟨name', flags', code'⟩ = false := by
          have : (code == code') = false := by simp; intro e; rw [e] at c3; exact c3 rfl
          simp only [sameW, this, Bool.and_false]
        rw [hres]
        subst c2
        go_enter Try.func48, Try.ntmps48
        go_wp2_with fail
        go_ret
        exact ⟨rfl, hbe⟩
    · have hres : sameW ⟨name, flags, code⟩ ⟨name', flags', code'⟩ = false := by simp [sameW, c2]
      rw [hres]
      have c2' : (b8 flags != b8 flags') = true := by simp; exact fun e => c2 (b8_inj e)
      go_enter Try.func48, Try.ntmps48
      go_wp2_with fail
      go_ret
      exact ⟨rfl, hbe⟩
  · have hres : sameW ⟨name, flags, code⟩ ⟨name', flags', code'⟩ = false := by simp [sameW, c1]
    rw [hres]
    have c1' : (name != name') = true := by simpa using c1
    rw [c1'] at hq
    go_enter Try.func48, Try.ntmps48
    go_wp2_with fail
    go_ret
    exact ⟨rfl, hbe⟩
end Go.Proofs.Ytmejngojpffcgaa

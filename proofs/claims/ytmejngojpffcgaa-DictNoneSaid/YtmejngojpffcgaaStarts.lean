import Derived.Test.YtmejngojpffcgaaLong
namespace Go.Ls
def nats (l : List Nat) : List Value := l.map fun n : Nat => Value.int .i64 (n : Int)
theorem nats_append (l m : List Nat) : nats (l ++ m) = nats l ++ nats m := List.map_append ..
theorem nats_length (l : List Nat) : (nats l).length = l.length := List.length_map ..
theorem nats_get {l : List Nat} {j : Nat} (h : j < l.length) : (nats l)[j]? = some (.int .i64 l[j]) := by simp [nats, h]
theorem oneNats (l : List Nat) : ∀ u ∈ nats l, u.oneCell' = true := fun u hu => by
  simp only [nats, List.mem_map] at hu; obtain ⟨x, _, rfl⟩ := hu; rfl
end Go.Ls
namespace Go.Proofs.Ytmejngojpffcgaa
open Go.RowKit Go.Ls
theorem elemInt : ElemOK Try.prog 53 3 (.int .i64 0) 1 8 := ⟨Try.underlying53, by kernel_rfl, rfl, by omega⟩
def RetStarts (w : World) (r : Option (List Nat)) (e : Ending) (w' : World) : Prop :=
  Below w.heap.size w w' ∧ match r with
  | none => e = .returned (.tuple #[.slice none 0 0, .bool false])
  | some l => ∃ v, e = .returned (.tuple #[v, .bool true]) ∧ w'.ownsRow w.heap.size 3 1 v l.length (nats l)
set_option maxRecDepth 100000 in
set_option maxHeartbeats 1000000 in
theorem prim_starts {S : Nat → Prop} (v : Value) (code : List UInt32) (w : World) (hv : Sl32 S w v code) (hn : code.length ≤ 1099511627776) :
    Calls Try.prog 60 #[v] w (RetStarts w (startsP code)) := by
  have Hv := Lib.hid (Sl.bound hv)
  obtain ⟨A, c, rfl, hc, hr⟩ := hv
  obtain ⟨res, hres⟩ : ∃ r, r = startsP code := ⟨_, rfl⟩
  rw [← hres]
  have Hres := Lib.hid hres
  clear hres hr
  go_enter Try.func60, Try.ntmps60
  go_wp2_with fail
  go_loopw [4, 5] (fun out i wr => ∃ (k m : Nat) (acc : List Nat) (A' : Option Addr) (c' : Nat), k ≤ code.length ∧ i = .int .i64 k ∧ out = .slice A' m c' ∧ m ≤ k ∧ Hid (m = acc.length) ∧
      Hid (wr.ownsRow w.heap.size 3 1 (.slice A' m c') m (nats acc)) ∧ Hid (res = (startsAt code k).map (acc ++ ·)) ∧ Hid (Below w.heap.size w wr))
    (fun _ i _ => code.length - (intOf i).toNat)
  case atStart => exact ⟨0, 0, [], none, 0, Nat.zero_le _, rfl, rfl, Nat.zero_le _, rfl, World.ownsRow_nil _ _ _ _, (show _ = _ from by rw [Hres.out]; show startsAt code 0 = _; cases startsAt code 0 <;> rfl), Below.refl _ _⟩
  case round =>
    obtain ⟨k, m, acc, A', c', hk, rfl, rfl, hm, hml, hown, hst, hbe⟩ := hrel
    by_cases hlt : k < code.length
    · have Hl := Lib.hid (show Sl32 (fun b => S b ∧ b < w.heap.size) wr (.slice A code.length c) code from Sl.keep Hv.out fun b _ hs => hbe.out.block b hs.2)
      have L := prim_long _ code k wr Hl.out (by omega) hk
      obtain ⟨q, hq⟩ : ∃ q, q = longP code k := ⟨_, rfl⟩
      rw [← hq] at L
      have hqb := longP_le code k hlt
      rw [← hq] at hqb
      have Hq := Lib.hid hq; clear hq
      by_cases h0 : q = 0
      · have h0' : ((q : Int) == 0) = true := by simp; exact h0
        have h0i : (q : Int) = 0 := by omega
        have Hq0 := Lib.hid h0; clear h0
        go_wp2_with fail
        refine L.mono ?_
        rintro e w2 ⟨rfl, hb2⟩
        have HB2 := Lib.hid (below_then hbe.out hbe.out.size hb2); clear hb2
        go_wp2_with fail
        go_ret2
        refine ⟨HB2.out, ?_⟩
        rw [show res = none by rw [hst.out, startsAt_bad hlt (by rw [← Hq.out]; exact Hq0.out)]; rfl]
        rfl
      · have h0' : ((q : Int) == 0) = false := by simp; exact h0
        have h0i : ¬ (q : Int) = 0 := by omega
        go_wp2_with fail
        refine L.mono ?_
        rintro e w2 ⟨rfl, hb2⟩
        have HB2 := Lib.hid (below_then hbe.out hbe.out.size hb2)
        have HO2 := Lib.hid (own_below hown.out hb2); clear hb2
        have hsz2 := HB2.out.size
        go_wp2_with (at_builtin; go_must (refine wpList_app elemInt rfl _ _ rfl w.heap.size (.slice A' m c') m (nats acc) rfl (own_below HO2.out ((Below.refl _ _).alloc (Nat.le_refl _) _)) _ 1 1 (nats [k]) rfl (Row.blk (S := fun _ => True) (t := 3) (cs := (nats [k]).toArray) (heap_alloc_new _ _) trivial (n := 1) rfl) rfl (oneNats _) (m + 1) rfl (nats (acc ++ [k])) (nats_append _ _) (by omega) (by omega) (by simp; omega) ?_); intro A3 c3 w3 ho3 hg3 _; refine stop_here ?_)
        have hlt3 : ∀ z, (Value.slice A' m c').ownBlock = some z → w.heap.size ≤ z := fun z hz => (HO2.out.lt z hz).1
        have HB3 := Lib.hid (show Below w.heap.size w w3 from below_grown (HB2.out.alloc hsz2 _) hg3.out (by simp; omega) hlt3)
        have Hml := Lib.hid (show m + 1 = (acc ++ [k]).length by rw [List.length_append, ← hml.out]; rfl)
        have Hst := Lib.hid (show res = (startsAt code (k + q)).map (acc ++ [k] ++ ·) by rw [hst.out, startsAt_more hlt (by rw [← Hq.out]; exact h0), ← Hq.out]; cases startsAt code (k + q) <;> simp)
        clear hg3
        refine go_on ?_
        go_wp2_with fail
        go_roundw
        case rel => exact ⟨k + q, m + 1, acc ++ [k], A3, c3, by omega, by go_num, rfl, by omega, Hml, ho3, Hst, HB3⟩
        case measure => simp [intOf]; omega
    · obtain rfl : k = code.length := by omega
      go_wp2_with fail
      go_ret2
      refine ⟨hbe.out, ?_⟩
      rw [show res = some acc by rw [hst.out, startsAt_end (Nat.le_refl _)]; simp]
      refine ⟨_, rfl, ?_⟩
      rw [← hml.out]
      exact hown.out
end Go.Proofs.Ytmejngojpffcgaa

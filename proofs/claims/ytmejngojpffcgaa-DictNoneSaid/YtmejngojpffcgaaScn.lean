import Derived.Test.YtmejngojpffcgaaColl
namespace Go.Proofs.Ytmejngojpffcgaa
open Go.RowKit Go.Ls
attribute [local go_sem] Oper.semAt_some

theorem record_each (A : Option Addr) (n c : Nat) (w : World) :
    Calls Try.prog 79 #[.slice A n c] w fun e w' => e = .returned (.func (.func 100) #[] #[.pointer (some ⟨w.heap.size, 0, none⟩)]) ∧ w' = w.alloc (.cells #[.slice A n c] 27) := by
  go_enter Try.func79, Try.ntmps79
  go_wp2_with fail
  go_ret
  exact ⟨rfl, rfl⟩
theorem collect_recs {Sb : Nat → Prop} (Bs : Nat) (v : Value) (b : List UInt8) (w : World) (hl : Sl8 Sb w v b) (hSb : ∀ k, Sb k → k < w.heap.size) (hn : b.length ≤ 1000000)
    (hbox : Blk w Bs 27 #[v]) :
    Calls Try.prog 78 #[.func (.func 100) #[] #[.pointer (some ⟨Bs, 0, none⟩)]] w (RetRecs b w) := by
  have H := append_seq Bs v b w hl hSb hn hbox
  go_enter Try.func78, Try.ntmps78
  go_wp2_with fail
  refine H.mono ?_
  rintro e w' ⟨v', xs, rfl, h⟩
  go_wp2_with fail
  go_ret
  exact ⟨_, xs, rfl, h⟩
theorem record_scan {Sb : Nat → Prop} (v : Value) (b : List UInt8) (w : World) (hl : Sl8 Sb w v b) (hn : b.length ≤ 1000000) :
    Calls Try.prog 41 #[v] w (RetRecs b w) := by
  have Hl := Lib.hid (Sl.bound hl)
  obtain ⟨A, c, rfl, hc, hr⟩ := hl
  have HB := Lib.hid ((Below.refl w.heap.size w).alloc (Nat.le_refl _) (.cells #[.slice A b.length c] 27))
  go_enter Try.func41, Try.ntmps41
  go_wp2_with fail
  refine (record_each A b.length c w).mono ?_
  rintro e w' ⟨rfl, rfl⟩
  go_wp2_with fail
  refine (collect_recs (Sb := fun k => Sb k ∧ k < w.heap.size) w.heap.size _ b _ (Sl.below Hl.out HB.out) (fun k h => by simp; omega) hn (Blk.new _ _ _)).mono ?_
  rintro e w' ⟨v', xs, rfl, h1, h2, h3⟩
  go_wp2_with fail
  go_ret
  refine ⟨_, xs, rfl, own_lower h1 (by simp), ⟨h2.1, fun x hx => (h2.2 x hx).mono fun j hj => ?_⟩, below_then HB.out (by simp) h3⟩
  unfold From at *
  simp at hj
  omega
end Go.Proofs.Ytmejngojpffcgaa

import Derived.Test.YtmejngojpffcgaaAppd
import Derived.Test.YtmejngojpffcgaaAll
import Derived.Test.YtmejngojpffcgaaNew
/- What the examples of the chapter's statements come to: no Go in this text. -/
namespace Go.Ls
def x0 : Wd := ⟨[120], 0, [101]⟩
def y0 : Wd := ⟨[121], 0, [258, 101]⟩
def p0 : List UInt8 := [1, 0, 1, 0, 120, 101, 0, 0, 0]
def l0 : List UInt8 := recBytes p0 ++ List.replicate 16 255
def f1 : Fl := { Fl.new 8 with cells := patch (Fl.new 8).cells 256 (recBytes p0) }
theorem aw_seg0 : (Fl.new 8).seg 256 40 = List.replicate 40 255 := by kernel_rfl
theorem aw_blank : (recOf (List.replicate 40 255) 0).kind = 0 := by kernel_rfl
theorem aw_scan0 : recScan (List.replicate 40 255) = [] := scanAt_blank aw_blank
theorem aw_with0 : withP [] x0 = true := by kernel_rfl
theorem aw_enc : encode [x0] = some p0 := by kernel_rfl
theorem aw_size : recSize p0.length = 24 := by kernel_rfl
theorem aw_write : (Fl.new 8).write 256 p0 = (f1, 0) := by kernel_rfl
theorem aw_seg1 : f1.seg 256 40 = l0 := by kernel_rfl
theorem aw_rec : recOf l0 0 = ⟨0, 24, 1, p0⟩ := by kernel_rfl
theorem aw_rest : (recOf l0 24).kind = 0 := by kernel_rfl
theorem aw_dec : decP p0 = some [x0] := by kernel_rfl
theorem aw_bad : withP [x0] y0 = false := by kernel_rfl
theorem aw_with1 : withP [x0] x0 = true := by kernel_rfl
theorem aw_scan1 : recScan l0 = [⟨0, 24, 1, p0⟩] := by
  unfold recScan
  rw [scanAt_more (by simp [l0]) (by rw [aw_rec]; decide), aw_rec]
  show _ :: scanAt l0 24 = _
  rw [scanAt_blank aw_rest]
theorem aw_words0 : wordsP (List.replicate 40 255) = [] := by unfold wordsP; rw [aw_scan0]; rfl
theorem aw_end0 : wordsEnd (List.replicate 40 255) = 0 := by unfold wordsEnd recEnd; rw [aw_scan0]; rfl
theorem aw_words1 : wordsP l0 = [x0] := by
  unfold wordsP
  rw [aw_scan1]
  simp [takeRec, aw_dec, aw_with0]
theorem aw_end1 : wordsEnd l0 = 24 := by
  unfold wordsEnd recEnd
  rw [aw_scan1]
  rfl
theorem aw_app0 : appendP (Fl.new 8) 256 40 x0 = (f1, 0) := by
  unfold appendP
  rw [aw_seg0, aw_words0, aw_with0, aw_enc, aw_end0]
  simp only [if_true, aw_size]
  rw [if_neg (by omega)]
  exact aw_write
theorem aw_app1 : appendP f1 256 40 y0 = (f1, 100) := by
  unfold appendP
  rw [aw_seg1, aw_words1, aw_bad]
  rfl
theorem aw_app2 : appendP f1 256 40 x0 = (f1, 150) := by
  unfold appendP
  rw [aw_seg1, aw_words1, aw_with1, aw_enc, aw_end1]
  simp only [if_true, aw_size]
  rw [if_pos (.inr (by omega))]
end Go.Ls

/-
  Decode by the code: what bytes are a letter, and which; the example of the chapter.
  Conditions: strings within the form's reach.
-/
import Derived.Test.YteifehienpeaiaaDec
set_option linter.unusedVariables false
set_option linter.unusedSimpArgs false
set_option maxRecDepth 100000
namespace Go.Proofs.Yteifehienpeaiaa
open Go.RowKit

/-- The bytes of a letter. -/
structure DecOk (s : ByteArray) : Prop where
  long : 20 ≤ s.size
  size : (s.size : Int) - 20 = numAt s 14 2
  shape : letterB (numAt s 0 1) (numAt s 1 4) (numAt s 5 1) (numAt s 6 4) (numAt s 10 4) (s.extract 16 (s.size - 4)) = true
  whole : letBytes (numAt s 0 1) (numAt s 1 4) (numAt s 5 1) (numAt s 6 4) (numAt s 10 4) (s.extract 16 (s.size - 4)) = s

def letterV (s : ByteArray) : Value := .tuple #[.agg #[.int .i64 (numAt s 0 1), .int .i64 (numAt s 1 4), .int .i64 (numAt s 5 1), .int .i64 (numAt s 6 4), .int .i64 (numAt s 10 4), .string (s.extract 16 (s.size - 4))], .int .i64 0]

theorem toList_beq (s t : ByteArray) : (s.toList == t.toList) = decide (s = t) := by
  rw [Bool.eq_iff_iff]
  simp only [beq_iff_eq, decide_eq_true_eq]
  constructor
  · intro h
    exact ByteArray.ext (Array.toList_inj.1 (by simpa [ByteArray.toList_eq] using h))
  · rintro rfl; rfl

theorem decode_ok (s : ByteArray) (w : World) (hs : s.size ≤ 140737488355328) (h : DecOk s) : Calls Try.prog 13 #[.string s] w fun e w' => e = .returned (letterV s) ∧ Only (fun _ => False) w w' := by
  unfold letterV
  exact dec_good s w h.long hs (by rw [bne_eq_false_iff_eq]; have := h.size; omega) h.shape (by rw [toList_beq]; exact decide_eq_true h.whole)

theorem decode_none (s : ByteArray) (w : World) (hs : s.size ≤ 140737488355328) (h : ¬ DecOk s) : Calls Try.prog 13 #[.string s] w fun e w' => e = .returned noLetter ∧ Only (fun _ => False) w w' := by
  by_cases h1 : 20 ≤ s.size
  · by_cases h2 : (s.size : Int) - 20 = numAt s 14 2
    · have hb : ((s.size : Int) - 16 - 4 != numAt s 14 2) = false := by rw [bne_eq_false_iff_eq]; omega
      cases h3 : letterB (numAt s 0 1) (numAt s 1 4) (numAt s 5 1) (numAt s 6 4) (numAt s 10 4) (s.extract 16 (s.size - 4)) with
      | false => exact dec_shape s w h1 hs hb h3
      | true => exact dec_other s w h1 hs hb h3 (by rw [toList_beq]; exact decide_eq_false (fun h4 => h ⟨h1, h2, h3, h4⟩))
    · exact dec_long s w h1 hs (by rw [bne_iff_ne]; omega)
  · exact dec_short s w (by omega)

theorem crc_nine : crcV ⟨#[49, 50, 51, 52, 53, 54, 55, 56, 57]⟩ = 3421780262 := by decide +kernel

theorem works24 (w : World) : Calls Try.prog 10 #[] w fun e w' => e = .returned (.bool true) ∧ Only (fun _ => False) w w' := by
  have hc := Lib.hid crc_nine
  go_enter Try.func10, Try.ntmps10
  go_wp2_with fail
  refine (crc_any ⟨#[49, 50, 51, 52, 53, 54, 55, 56, 57]⟩ _ (by decide)).mono ?_
  rintro e w1 ⟨rfl, hk⟩
  rw [hc.out]
  go_wp2_with fail
  go_ret
  exact ⟨rfl, hk⟩

end Go.Proofs.Yteifehienpeaiaa

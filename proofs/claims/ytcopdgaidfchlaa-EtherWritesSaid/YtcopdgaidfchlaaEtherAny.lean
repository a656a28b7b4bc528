/-
  The contracts of package ether for every input, each told by one function of the input.
  Conditions: strings within the form's reach.
-/
import Derived.Test.YtcopdgaidfchlaaEtherCode
set_option linter.unusedVariables false
set_option linter.unusedSimpArgs false
namespace Go.Proofs.Ytcopdgaidfchlaa
open Go.RowKit

open Classical in
noncomputable def frCode (t f k : Int) (d : ByteArray) : Int := if FrameOk t f k d then 0 else 30
open Classical in
noncomputable def encS (t f k : Int) (d : ByteArray) : ByteArray := if FrameOk t f k d then frameText t f k d else ⟨#[]⟩
open Classical in
noncomputable def decT (s : ByteArray) : Int := if ReadOk s then frTo s else 0
open Classical in
noncomputable def decF (s : ByteArray) : Int := if ReadOk s then frFrom s else 0
open Classical in
noncomputable def decK (s : ByteArray) : Int := if ReadOk s then frType s else 0
open Classical in
noncomputable def decD (s : ByteArray) : ByteArray := if ReadOk s then frData s else ⟨#[]⟩
open Classical in
noncomputable def decC (s : ByteArray) : Int := if ReadOk s then 0 else 30
open Classical in
noncomputable def grpB (a : Int) : Bool := if MacOk a then groupB a else false
open Classical in
noncomputable def grpC (a : Int) : Int := if MacOk a then 0 else 1

theorem echeck_any (t f k : Int) (d : ByteArray) (w : World) :
    Calls Try.prog 9 #[.agg #[.int .i64 t, .int .i64 f, .int .i64 k, .string d]] w fun e w' => e = .returned (.int .i64 (frCode t f k d)) ∧ Only (fun _ => False) w w' := by
  unfold frCode
  split
  · exact echeck_ok t f k d w (by assumption)
  · exact echeck_bad t f k d w (by assumption)

theorem group_any (a : Int) (w : World) : Calls Try.prog 17 #[.int .i64 a] w fun e w' => e = .returned (.tuple #[.bool (grpB a), .int .i64 (grpC a)]) ∧ w = w' := by
  unfold grpB grpC
  by_cases h : MacOk a
  · rw [if_pos h, if_pos h]; exact group_ok a w h
  · rw [if_neg h, if_neg h]; exact group_bad a w h

theorem eencode_any (t f k : Int) (d : ByteArray) (w : World) :
    Calls Try.prog 6 #[.agg #[.int .i64 t, .int .i64 f, .int .i64 k, .string d]] w fun e w' => e = .returned (.tuple #[.string (encS t f k d), .int .i64 (frCode t f k d)]) ∧ Only (fun _ => False) w w' := by
  unfold encS frCode
  by_cases h : FrameOk t f k d
  · rw [if_pos h, if_pos h]; exact eencode_ok t f k d w h
  · rw [if_neg h, if_neg h]; exact eencode_bad t f k d w h

theorem edecode_any (s : ByteArray) (w : World) (hs : s.size ≤ 140737488355328) :
    Calls Try.prog 15 #[.string s] w fun e w' => e = .returned (.tuple #[.agg #[.int .i64 (decT s), .int .i64 (decF s), .int .i64 (decK s), .string (decD s)], .int .i64 (decC s)]) ∧ Only (fun _ => False) w w' := by
  unfold decT decF decK decD decC
  by_cases h : ReadOk s
  · rw [if_pos h, if_pos h, if_pos h, if_pos h, if_pos h]; exact edecode_ok s w h.1 hs h.2
  · rw [if_neg h, if_neg h, if_neg h, if_neg h, if_neg h]
    by_cases h14 : 14 ≤ s.size
    · exact edecode_bad s w h14 hs (fun x => h ⟨h14, x⟩)
    · exact edecode_short s w (by omega)

end Go.Proofs.Ytcopdgaidfchlaa

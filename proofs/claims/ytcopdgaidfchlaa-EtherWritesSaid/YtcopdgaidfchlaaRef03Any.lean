/-
  The contracts of the reference for layer 3 for every input: they tell what package ether tells.
  Conditions: strings within the form's reach.
-/
import Derived.Test.YtcopdgaidfchlaaEtherAny
import Derived.Test.YtcopdgaidfchlaaRef03
set_option linter.unusedVariables false
set_option linter.unusedSimpArgs false
namespace Go.Proofs.Ytcopdgaidfchlaa
open Go.RowKit

theorem rcheck_any (t f k : Int) (d : ByteArray) (w : World) :
    Calls Try.prog 10 #[.agg #[.int .i64 t, .int .i64 f, .int .i64 k, .string d]] w fun e w' => e = .returned (.int .i64 (frCode t f k d)) ∧ Only (fun _ => False) w w' := by
  unfold frCode
  split
  · exact rcheck_ok t f k d w (by assumption)
  · exact rcheck_bad t f k d w (by assumption)

theorem rGroup_any (a : Int) (w : World) : Calls Try.prog 18 #[.int .i64 a] w fun e w' => e = .returned (.tuple #[.bool (grpB a), .int .i64 (grpC a)]) ∧ w = w' := by
  unfold grpB grpC
  by_cases h : MacOk a
  · rw [if_pos h, if_pos h]; exact rGroup_ok a w h
  · rw [if_neg h, if_neg h]; exact rGroup_bad a w h

theorem rencode_any (t f k : Int) (d : ByteArray) (w : World) :
    Calls Try.prog 7 #[.agg #[.int .i64 t, .int .i64 f, .int .i64 k, .string d]] w fun e w' => e = .returned (.tuple #[.string (encS t f k d), .int .i64 (frCode t f k d)]) ∧ Only (fun _ => False) w w' := by
  unfold encS frCode
  by_cases h : FrameOk t f k d
  · rw [if_pos h, if_pos h]; exact rencode_ok t f k d w h
  · rw [if_neg h, if_neg h]; exact rencode_bad t f k d w h

theorem rdecode_any (s : ByteArray) (w : World) (hs : s.size ≤ 140737488355328) :
    Calls Try.prog 16 #[.string s] w fun e w' => e = .returned (.tuple #[.agg #[.int .i64 (decT s), .int .i64 (decF s), .int .i64 (decK s), .string (decD s)], .int .i64 (decC s)]) ∧ Only (fun _ => False) w w' := by
  unfold decT decF decK decD decC
  by_cases h : ReadOk s
  · rw [if_pos h, if_pos h, if_pos h, if_pos h, if_pos h]; exact rdecode_ok s w h.1 hs h.2
  · rw [if_neg h, if_neg h, if_neg h, if_neg h, if_neg h]
    by_cases h14 : 14 ≤ s.size
    · exact rdecode_bad s w h14 hs (fun x => h ⟨h14, x⟩)
    · exact rdecode_short s w (by omega)

end Go.Proofs.Ytcopdgaidfchlaa

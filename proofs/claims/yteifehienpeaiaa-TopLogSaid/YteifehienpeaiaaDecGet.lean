/-
  The closure of channel.Decode that reads numbers.
  Conditions: strings within the form's reach.
-/
import Derived.Test.YteifehienpeaiaaEnc
set_option linter.unusedVariables false
set_option linter.unusedSimpArgs false
set_option maxRecDepth 100000
namespace Go.Proofs.Yteifehienpeaiaa
open Go.RowKit

theorem dget1 (s : ByteArray) (off : Int) (b : Nat) (w : World) (hb : w.cell? ⟨b, 0, none⟩ = some (.string s)) (h0 : 0 ≤ off) (h1 : off + 1 ≤ s.size) (hs : s.size ≤ 140737488355328) :
    Calls Try.prog 42 #[.int .i64 off, .int .i64 1, .pointer (some ⟨b, 0, none⟩)] w fun e w' => e = .returned (.int .i64 (numAt s off.toNat 1)) ∧ Only (fun _ => False) w w' := by
  go_enter Try.func42, Try.ntmps42
  go_wp2_with fail
  refine (get1 s off _ h0 h1 hs).mono ?_
  rintro e w1 ⟨rfl, hk⟩
  go_wp2_with fail
  go_ret
  exact ⟨rfl, hk⟩
theorem dget2 (s : ByteArray) (off : Int) (b : Nat) (w : World) (hb : w.cell? ⟨b, 0, none⟩ = some (.string s)) (h0 : 0 ≤ off) (h1 : off + 2 ≤ s.size) (hs : s.size ≤ 140737488355328) :
    Calls Try.prog 42 #[.int .i64 off, .int .i64 2, .pointer (some ⟨b, 0, none⟩)] w fun e w' => e = .returned (.int .i64 (numAt s off.toNat 2)) ∧ Only (fun _ => False) w w' := by
  go_enter Try.func42, Try.ntmps42
  go_wp2_with fail
  refine (get2 s off _ h0 h1 hs).mono ?_
  rintro e w1 ⟨rfl, hk⟩
  go_wp2_with fail
  go_ret
  exact ⟨rfl, hk⟩
theorem dget4 (s : ByteArray) (off : Int) (b : Nat) (w : World) (hb : w.cell? ⟨b, 0, none⟩ = some (.string s)) (h0 : 0 ≤ off) (h1 : off + 4 ≤ s.size) (hs : s.size ≤ 140737488355328) :
    Calls Try.prog 42 #[.int .i64 off, .int .i64 4, .pointer (some ⟨b, 0, none⟩)] w fun e w' => e = .returned (.int .i64 (numAt s off.toNat 4)) ∧ Only (fun _ => False) w w' := by
  go_enter Try.func42, Try.ntmps42
  go_wp2_with fail
  refine (get4 s off _ h0 h1 hs).mono ?_
  rintro e w1 ⟨rfl, hk⟩
  go_wp2_with fail
  go_ret
  exact ⟨rfl, hk⟩
end Go.Proofs.Yteifehienpeaiaa

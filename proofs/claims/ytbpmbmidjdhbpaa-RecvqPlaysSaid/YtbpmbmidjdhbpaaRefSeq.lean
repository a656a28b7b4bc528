/-
  The contracts of sternpostref01's Check, Mod, Distance and Cut.
  Conditions: as stated.
-/
import Derived.Test.YtbpmbmidjdhbpaaAmong
import Derived.Test.YtbpmbmidjdhbpaaSeqC
set_option linter.unusedVariables false
set_option linter.unusedSimpArgs false
namespace Go.Proofs.Ytbpmbmidjdhbpaa
open Go.RowKit
attribute [local go_sem] max_ii min_ii

theorem rcheck_ok (a : Int) (w : World) (h0 : 0 ≤ a) (h1 : a < 4294967296) :
    Calls Try.prog 30 #[.int .i64 a] w fun e w' => e = .returned (.int .i64 0) ∧ w = w' := by
  have h2 : a ≤ 4294967295 := by omega
  have d1 : decide (a < 0) = false := decide_eq_false (by omega)
  go_enter Try.func30, Try.ntmps30
  go_wp2
  go_ret
  exact ⟨rfl, rfl⟩

theorem rcheck_bad (a : Int) (w : World) (h : ¬ (0 ≤ a ∧ a < 4294967296)) :
    Calls Try.prog 30 #[.int .i64 a] w fun e w' => e = .returned (.int .i64 1) ∧ w = w' := by
  by_cases h0 : 0 ≤ a
  · have h2 : ¬ a ≤ 4294967295 := by omega
    have d1 : decide (a < 0) = false := decide_eq_false (by omega)
    clear h
    go_enter Try.func30, Try.ntmps30
    go_wp2
    go_ret
    exact ⟨rfl, rfl⟩
  · clear h
    go_enter Try.func30, Try.ntmps30
    go_wp2
    go_ret
    exact ⟨rfl, rfl⟩

theorem rmod_any (a : Int) (w : World) (h0 : -4611686018427387904 ≤ a) (h1 : a ≤ 4611686018427387904) :
    Calls Try.prog 34 #[.int .i64 a] w fun e w' => e = .returned (.int .i64 (a % 4294967296)) ∧ w = w' := by
  have HW := Lib.hid (among_wrap a 4294967296 (by decide) (by decide))
  go_enter Try.func34, Try.ntmps34
  go_wp2
  go_ret
  exact ⟨congrArg (fun z => Ending.returned (.int .i64 z)) HW.out, rfl⟩

theorem rdistance_ok (a b : Int) (w : World) (h0 : 0 ≤ a) (h1 : a < 4294967296) (b0 : 0 ≤ b) (b1 : b < 4294967296) :
    Calls Try.prog 39 #[.int .i64 a, .int .i64 b] w fun e w' => e = .returned (.tuple #[.int .i64 ((b - a) % 4294967296), .int .i64 0]) ∧ w = w' := by
  go_enter Try.func39, Try.ntmps39
  go_wp2_with fail
  refine (rcheck_ok a _ h0 h1).mono ?_
  rintro e _ ⟨rfl, rfl⟩
  go_wp2_with fail
  refine (rcheck_ok b _ b0 b1).mono ?_
  rintro e _ ⟨rfl, rfl⟩
  go_wp2_with fail
  refine (rmod_any (b - a) _ (by omega) (by omega)).mono ?_
  rintro e _ ⟨rfl, rfl⟩
  go_wp2_with fail
  go_ret2
  exact ⟨rfl, rfl⟩

theorem rcut_ok (a long left size : Int) (w : World) (h0 : 0 ≤ a) (h1 : a < 4294967296) (b0 : 0 ≤ left) (b1 : left < 4294967296) (l0 : 0 ≤ long) (l1 : long ≤ 1073741824) (s0 : 0 ≤ size) (s1 : size ≤ 1073741824) :
    Calls Try.prog 38 #[.int .i64 a, .int .i64 long, .int .i64 left, .int .i64 size] w fun e w' =>
      e = .returned (.tuple #[.int .i64 (cutSkip a long left size), .int .i64 (cutKeep a long left size), .int .i64 0]) ∧ w = w' := by
  have d0 : 0 ≤ (left - a) % 4294967296 := by omega
  have d1 : (left - a) % 4294967296 < 4294967296 := by omega
  have m0 : 0 ≤ mn ((left - a) % 4294967296) long ∧ mn ((left - a) % 4294967296) long ≤ 1073741824 := by unfold mn; omega
  have g1 : decide (long < 0) = false := decide_eq_false (by omega)
  have g2 : decide (1073741824 < long) = false := decide_eq_false (by omega)
  have g3 : decide (size < 0) = false := decide_eq_false (by omega)
  have g4 : decide (1073741824 < size) = false := decide_eq_false (by omega)
  by_cases hd : 2147483648 ≤ (left - a) % 4294967296
  · have hd2 : ¬ (left - a) % 4294967296 < 2147483648 := by omega
    go_enter Try.func38, Try.ntmps38
    go_wp2_with fail
    refine (rdistance_ok a left _ h0 h1 b0 b1).mono ?_
    rintro e _ ⟨rfl, rfl⟩
    go_wp2
    go_ret3
    exact ⟨by unfold cutSkip cutKeep; rw [if_pos (by omega), if_pos (by omega)]; rfl, rfl⟩
  · have hd2 : (left - a) % 4294967296 < 2147483648 := by omega
    go_enter Try.func38, Try.ntmps38
    go_wp2_with fail
    refine (rdistance_ok a left _ h0 h1 b0 b1).mono ?_
    rintro e _ ⟨rfl, rfl⟩
    go_wp2
    go_ret3
    exact ⟨by unfold cutSkip cutKeep; rw [if_neg (by omega), if_neg (by omega)]; rfl, rfl⟩

end Go.Proofs.Ytbpmbmidjdhbpaa

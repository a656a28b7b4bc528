/-
  The contracts of seq.Distance and seq.Ahead, of numbers that may be.
  Conditions: numbers are of the kind int.
-/
import Derived.Test.YtdijimjcoollcaaProg
import Derived.Test.YtdijimjcoollcaaBase
set_option linter.unusedVariables false
set_option linter.unusedSimpArgs false
namespace Go.Proofs.Ytdijimjcoollcaa
open Go.RowKit
theorem mx_01 : mx 0 1 = 1 := rfl
theorem mx_10 : mx 1 0 = 1 := rfl
theorem mx_11 : mx 1 1 = 1 := rfl
theorem mx_00 : mx 0 0 = 0 := rfl
attribute [local go_sem] max_ii min_ii and_mask32 mx_01 mx_10 mx_11 mx_00

theorem check_ok (a : Int) (w : World) (h0 : 0 ≤ a) (h1 : a < 4294967296) :
    Calls Try.prog 23 #[.int .i64 a] w fun e w' => e = .returned (.int .i64 0) ∧ w = w' := by
  have hm : (a % 4294967296 != a) = false := by simp; omega
  go_enter Try.func23, Try.ntmps23
  go_wp2
  go_ret
  exact ⟨rfl, rfl⟩

theorem check_bad (a : Int) (w : World) (h : ¬ (0 ≤ a ∧ a < 4294967296)) :
    Calls Try.prog 23 #[.int .i64 a] w fun e w' => e = .returned (.int .i64 1) ∧ w = w' := by
  have hm : (a % 4294967296 != a) = true := by simp; omega
  clear h
  go_enter Try.func23, Try.ntmps23
  go_wp2
  go_ret
  exact ⟨rfl, rfl⟩

theorem distance_ok (a b : Int) (w : World) (h0 : 0 ≤ a) (h1 : a < 4294967296) (b0 : 0 ≤ b) (b1 : b < 4294967296) :
    Calls Try.prog 20 #[.int .i64 a, .int .i64 b] w fun e w' => e = .returned (.tuple #[.int .i64 ((b - a) % 4294967296), .int .i64 0]) ∧ w = w' := by
  have hm : (a % 4294967296 != a) = false := by simp; omega
  have hn : (b % 4294967296 != b) = false := by simp; omega
  go_enter Try.func20, Try.ntmps20
  go_wp2
  go_ret2
  exact ⟨rfl, rfl⟩

theorem distance_bad (a b : Int) (w : World) (h : ¬ ((0 ≤ a ∧ a < 4294967296) ∧ 0 ≤ b ∧ b < 4294967296)) :
    Calls Try.prog 20 #[.int .i64 a, .int .i64 b] w fun e w' => e = .returned (.tuple #[.int .i64 0, .int .i64 1]) ∧ w = w' := by
  by_cases ha : 0 ≤ a ∧ a < 4294967296
  · have hm : (a % 4294967296 != a) = false := by simp; omega
    have hn : (b % 4294967296 != b) = true := by simp; omega
    clear h ha
    go_enter Try.func20, Try.ntmps20
    go_wp2
    go_ret2
    exact ⟨rfl, rfl⟩
  · have hm : (a % 4294967296 != a) = true := by simp; omega
    by_cases hb : 0 ≤ b ∧ b < 4294967296
    · have hn : (b % 4294967296 != b) = false := by simp; omega
      clear h ha hb
      go_enter Try.func20, Try.ntmps20
      go_wp2
      go_ret2
      exact ⟨rfl, rfl⟩
    · have hn : (b % 4294967296 != b) = true := by simp; omega
      clear h ha hb
      go_enter Try.func20, Try.ntmps20
      go_wp2
      go_ret2
      exact ⟨rfl, rfl⟩

/-- Is b ahead of a? -/
def aheadB (a b : Int) : Bool := decide (1 ≤ (b - a) % 4294967296) && decide ((b - a) % 4294967296 ≤ 2147483647)

theorem ahead_ok (a b : Int) (w : World) (h0 : 0 ≤ a) (h1 : a < 4294967296) (b0 : 0 ≤ b) (b1 : b < 4294967296) :
    Calls Try.prog 19 #[.int .i64 a, .int .i64 b] w fun e w' => e = .returned (.tuple #[.bool (aheadB a b), .int .i64 0]) ∧ w = w' := by
  go_enter Try.func19, Try.ntmps19
  go_wp2_with fail
  refine (distance_ok a b _ h0 h1 b0 b1).mono ?_
  rintro e _ ⟨rfl, rfl⟩
  go_wp2
  · go_ret2
    exact ⟨by unfold aheadB; simp [*], rfl⟩
  · go_ret2
    exact ⟨by unfold aheadB; simp [*]; omega, rfl⟩

theorem ahead_bad (a b : Int) (w : World) (h : ¬ ((0 ≤ a ∧ a < 4294967296) ∧ 0 ≤ b ∧ b < 4294967296)) :
    Calls Try.prog 19 #[.int .i64 a, .int .i64 b] w fun e w' => e = .returned (.tuple #[.bool false, .int .i64 1]) ∧ w = w' := by
  have H := Lib.hid h
  clear h
  go_enter Try.func19, Try.ntmps19
  go_wp2_with fail
  refine (distance_bad a b _ H.out).mono ?_
  rintro e _ ⟨rfl, rfl⟩
  go_wp2
  go_ret2
  exact ⟨rfl, rfl⟩


end Go.Proofs.Ytdijimjcoollcaa

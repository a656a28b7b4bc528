/-
  The contracts of package seq: sums, distances and cuts, of numbers that may be; and that others are refused.
  Conditions: numbers are of the kind int.
-/
import Derived.Test.YtbpmbmidjdhbpaaProg
import Derived.Test.YtbpmbmidjdhbpaaBase
set_option linter.unusedVariables false
set_option linter.unusedSimpArgs false
namespace Go.Proofs.Ytbpmbmidjdhbpaa
open Go.RowKit
theorem mx_01 : mx 0 1 = 1 := rfl
theorem mx_10 : mx 1 0 = 1 := rfl
theorem mx_11 : mx 1 1 = 1 := rfl
theorem mx_00 : mx 0 0 = 0 := rfl
attribute [local go_sem] max_ii min_ii and_mask32 mx_01 mx_10 mx_11 mx_00

theorem check_ok (a : Int) (w : World) (h0 : 0 ≤ a) (h1 : a < 4294967296) :
    Calls Try.prog 25 #[.int .i64 a] w fun e w' => e = .returned (.int .i64 0) ∧ w = w' := by
  have hm : (a % 4294967296 != a) = false := by simp; omega
  go_enter Try.func25, Try.ntmps25
  go_wp2
  go_ret
  exact ⟨rfl, rfl⟩

theorem check_bad (a : Int) (w : World) (h : ¬ (0 ≤ a ∧ a < 4294967296)) :
    Calls Try.prog 25 #[.int .i64 a] w fun e w' => e = .returned (.int .i64 1) ∧ w = w' := by
  have hm : (a % 4294967296 != a) = true := by simp; omega
  clear h
  go_enter Try.func25, Try.ntmps25
  go_wp2
  go_ret
  exact ⟨rfl, rfl⟩

theorem add_ok (a n : Int) (w : World) (h0 : 0 ≤ a) (h1 : a < 4294967296) (n0 : -4294967296 ≤ n) (n1 : n ≤ 4294967296) :
    Calls Try.prog 9 #[.int .i64 a, .int .i64 n] w fun e w' => e = .returned (.tuple #[.int .i64 ((a + n) % 4294967296), .int .i64 0]) ∧ w = w' := by
  go_enter Try.func9, Try.ntmps9
  go_wp2_with (first | (go_at_call 25; refine (check_ok a _ h0 h1).mono ?_; rintro e _ ⟨rfl, rfl⟩) | go_in)
  go_ret2
  exact ⟨rfl, rfl⟩

theorem distance_ok (a b : Int) (w : World) (h0 : 0 ≤ a) (h1 : a < 4294967296) (b0 : 0 ≤ b) (b1 : b < 4294967296) :
    Calls Try.prog 13 #[.int .i64 a, .int .i64 b] w fun e w' => e = .returned (.tuple #[.int .i64 ((b - a) % 4294967296), .int .i64 0]) ∧ w = w' := by
  have hm : (a % 4294967296 != a) = false := by simp; omega
  have hn : (b % 4294967296 != b) = false := by simp; omega
  go_enter Try.func13, Try.ntmps13
  go_wp2
  go_ret2
  exact ⟨rfl, rfl⟩

theorem distance_bad (a b : Int) (w : World) (h : ¬ ((0 ≤ a ∧ a < 4294967296) ∧ 0 ≤ b ∧ b < 4294967296)) :
    Calls Try.prog 13 #[.int .i64 a, .int .i64 b] w fun e w' => e = .returned (.tuple #[.int .i64 0, .int .i64 1]) ∧ w = w' := by
  by_cases ha : 0 ≤ a ∧ a < 4294967296
  · have hm : (a % 4294967296 != a) = false := by simp; omega
    have hn : (b % 4294967296 != b) = true := by simp; omega
    clear h ha
    go_enter Try.func13, Try.ntmps13
    go_wp2
    go_ret2
    exact ⟨rfl, rfl⟩
  · have hm : (a % 4294967296 != a) = true := by simp; omega
    by_cases hb : 0 ≤ b ∧ b < 4294967296
    · have hn : (b % 4294967296 != b) = false := by simp; omega
      clear h ha hb
      go_enter Try.func13, Try.ntmps13
      go_wp2
      go_ret2
      exact ⟨rfl, rfl⟩
    · have hn : (b % 4294967296 != b) = true := by simp; omega
      clear h ha hb
      go_enter Try.func13, Try.ntmps13
      go_wp2
      go_ret2
      exact ⟨rfl, rfl⟩

theorem add_bad (a n : Int) (w : World) (h : ¬ ((0 ≤ a ∧ a < 4294967296) ∧ -4294967296 ≤ n ∧ n ≤ 4294967296)) :
    Calls Try.prog 9 #[.int .i64 a, .int .i64 n] w fun e w' => e = .returned (.tuple #[.int .i64 0, .int .i64 1]) ∧ w = w' := by
  by_cases ha : 0 ≤ a ∧ a < 4294967296
  · have hm : (a % 4294967296 != a) = false := by simp; omega
    have hn : ¬ (-4294967296 ≤ n ∧ n ≤ 4294967296) := fun x => h ⟨ha, x⟩
    clear h ha
    by_cases hn1 : -4294967296 ≤ n
    · have hn2 : ¬ n ≤ 4294967296 := fun x => hn ⟨hn1, x⟩
      clear hn
      go_enter Try.func9, Try.ntmps9
      go_wp2
      go_ret2
      exact ⟨rfl, rfl⟩
    · clear hn
      go_enter Try.func9, Try.ntmps9
      go_wp2
      go_ret2
      exact ⟨rfl, rfl⟩
  · have hm : (a % 4294967296 != a) = true := by simp; omega
    clear h ha
    go_enter Try.func9, Try.ntmps9
    go_wp2
    go_ret2
    exact ⟨rfl, rfl⟩

/-- What of so many bytes, the first of them so far behind the window's, is skipped, and what is kept. -/
def cutSkip (a long left size : Int) : Int := if 2147483648 ≤ (left - a) % 4294967296 then 0 else mn ((left - a) % 4294967296) long
def cutKeep (a long left size : Int) : Int :=
  if 2147483648 ≤ (left - a) % 4294967296 then mx 0 (mn long (size - (4294967296 - (left - a) % 4294967296))) else mn (long - mn ((left - a) % 4294967296) long) size

theorem cut_ok (a long left size : Int) (w : World) (h0 : 0 ≤ a) (h1 : a < 4294967296) (b0 : 0 ≤ left) (b1 : left < 4294967296) (l0 : 0 ≤ long) (l1 : long ≤ 1073741824) (s0 : 0 ≤ size) (s1 : size ≤ 1073741824) :
    Calls Try.prog 27 #[.int .i64 a, .int .i64 long, .int .i64 left, .int .i64 size] w fun e w' =>
      e = .returned (.tuple #[.int .i64 (cutSkip a long left size), .int .i64 (cutKeep a long left size), .int .i64 0]) ∧ w = w' := by
  have d0 : 0 ≤ (left - a) % 4294967296 := by omega
  have d1 : (left - a) % 4294967296 < 4294967296 := by omega
  have m0 : 0 ≤ mn ((left - a) % 4294967296) long ∧ mn ((left - a) % 4294967296) long ≤ 1073741824 := by unfold mn; omega
  by_cases hd : 2147483648 ≤ (left - a) % 4294967296
  · go_enter Try.func27, Try.ntmps27
    go_wp2_with fail
    refine (distance_ok a left _ h0 h1 b0 b1).mono ?_
    rintro e _ ⟨rfl, rfl⟩
    go_wp2
    go_ret3
    exact ⟨by unfold cutSkip cutKeep; rw [if_pos (by omega), if_pos (by omega)]; rfl, rfl⟩
  · go_enter Try.func27, Try.ntmps27
    go_wp2_with fail
    refine (distance_ok a left _ h0 h1 b0 b1).mono ?_
    rintro e _ ⟨rfl, rfl⟩
    go_wp2
    go_ret3
    exact ⟨by unfold cutSkip cutKeep; rw [if_neg (by omega), if_neg (by omega)]; rfl, rfl⟩

theorem cut_bad (a long left size : Int) (w : World) (h : ¬ (((0 ≤ a ∧ a < 4294967296) ∧ 0 ≤ left ∧ left < 4294967296) ∧ (0 ≤ long ∧ long ≤ 1073741824) ∧ 0 ≤ size ∧ size ≤ 1073741824)) :
    Calls Try.prog 27 #[.int .i64 a, .int .i64 long, .int .i64 left, .int .i64 size] w fun e w' => e = .returned (.tuple #[.int .i64 0, .int .i64 0, .int .i64 1]) ∧ w = w' := by
  have H := Lib.hid h
  clear h
  by_cases hd : (0 ≤ a ∧ a < 4294967296) ∧ 0 ≤ left ∧ left < 4294967296
  · have H2 : ¬ ((0 ≤ long ∧ long ≤ 1073741824) ∧ 0 ≤ size ∧ size ≤ 1073741824) := fun x => H.out ⟨hd, x⟩
    obtain ⟨⟨h0, h1⟩, b0, b1⟩ := hd
    go_enter Try.func27, Try.ntmps27
    go_wp2_with fail
    refine (distance_ok a left _ h0 h1 b0 b1).mono ?_
    rintro e _ ⟨rfl, rfl⟩
    have H2 := Lib.hid H2
    by_cases c1 : 0 ≤ long
    · by_cases c2 : long ≤ 1073741824
      · by_cases c3 : 0 ≤ size
        · have c4 : decide (size ≤ 1073741824) = false := decide_eq_false (fun x => H2.out ⟨⟨c1, c2⟩, c3, x⟩)
          go_wp2
          go_ret3
          exact ⟨rfl, rfl⟩
        · go_wp2
          go_ret3
          exact ⟨rfl, rfl⟩
      · go_wp2
        go_ret3
        exact ⟨rfl, rfl⟩
    · go_wp2
      go_ret3
      exact ⟨rfl, rfl⟩
  · go_enter Try.func27, Try.ntmps27
    go_wp2_with fail
    refine (distance_bad a left _ hd).mono ?_
    rintro e _ ⟨rfl, rfl⟩
    go_wp2
    go_ret3
    exact ⟨rfl, rfl⟩

end Go.Proofs.Ytbpmbmidjdhbpaa

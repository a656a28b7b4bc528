/-
  The walk of the law SeqRound.
  No conditions.
-/
import Derived.Test.YtafaalmbmmpgkaaLaw01
set_option linter.unusedVariables false
set_option linter.unusedSimpArgs false
namespace Go.Proofs.Ytafaalmbmmpgkaa
open Go.RowKit
attribute [local go_sem] max_ii min_ii and_mask32

section
variable {a b n : Int}
/-- Both moved alike. -/
theorem moved (a b n : Int) : ((b + n) % 4294967296 - (a + n) % 4294967296) % 4294967296 = (b - a) % 4294967296 := by omega
theorem aheadB_moved (a b n : Int) : aheadB ((a + n) % 4294967296) ((b + n) % 4294967296) = aheadB a b := by unfold aheadB; rw [moved]
theorem inB_moved (a b n l : Int) : inB ((b + n) % 4294967296) ((a + n) % 4294967296) l = inB b a l := by unfold inB; rw [moved]
theorem cutSkip_moved (a b n l s : Int) : cutSkip ((a + n) % 4294967296) l ((b + n) % 4294967296) s = cutSkip a l b s := by unfold cutSkip; rw [moved]
theorem cutKeep_moved (a b n l s : Int) : cutKeep ((a + n) % 4294967296) l ((b + n) % 4294967296) s = cutKeep a l b s := by unfold cutKeep; rw [moved]
theorem ahead_not_both (a b : Int) : aheadB a b = true → aheadB b a = false := by
  unfold aheadB; simp; omega
theorem ahead_one (a0 : 0 ≤ a) (a1 : a < 4294967296) (b0 : 0 ≤ b) (b1 : b < 4294967296) (h : a ≠ b) (h2 : (b - a) % 4294967296 ≠ 2147483648) : aheadB a b = true ∨ aheadB b a = true := by
  unfold aheadB; simp; omega
end

set_option maxHeartbeats 2000000 in
set_option maxRecDepth 100000 in
theorem seqRound_walk (W : World) (a : Int) (wa : (Lit.int .i64 a).wf = true) (b : Int) (wb : (Lit.int .i64 b).wf = true) (n : Int) (wn : (Lit.int .i64 n).wf = true) :
    Calls Try.prog 3 #[.int .i64 a, .int .i64 b, .int .i64 n] W fun e W' => e = .returned (.bool true) ∧ Below W.heap.size W W' := by
  go_enter Try.func3, Try.ntmps3
  go_wp2_with fail
  refine (works01 _).mono ?_
  rintro e _ ⟨rfl, rfl⟩
  go_wp2_with fail
  refine (fit_any a _ wa).mono ?_
  rintro e _ ⟨rfl, rfl⟩
  go_wp2_with fail
  refine (fit_any b _ wb).mono ?_
  rintro e _ ⟨rfl, rfl⟩
  go_wp2_with fail
  refine (fit_any n _ wn).mono ?_
  rintro e _ ⟨rfl, rfl⟩
  have a0 : 0 ≤ a % 4294967296 := by omega
  have a1 : a % 4294967296 < 4294967296 := by omega
  have b0 : 0 ≤ b % 4294967296 := by omega
  have b1 : b % 4294967296 < 4294967296 := by omega
  have n0 : 0 ≤ n % 4294967296 := by omega
  have n1 : n % 4294967296 < 4294967296 := by omega
  generalize a % 4294967296 = a at a0 a1 ⊢
  generalize b % 4294967296 = b at b0 b1 ⊢
  generalize n % 4294967296 = n at n0 n1 ⊢
  clear wa wb wn
  have c0 : 0 ≤ (a + n) % 4294967296 := by omega
  have c1 : (a + n) % 4294967296 < 4294967296 := by omega
  have d0 : 0 ≤ (b + n) % 4294967296 := by omega
  have d1 : (b + n) % 4294967296 < 4294967296 := by omega
  have x0 : 0 ≤ (b - a) % 4294967296 := by omega
  have x1 : (b - a) % 4294967296 < 4294967296 := by omega
  have z0 : 0 ≤ (a - b) % 4294967296 := by omega
  have z1 : (a - b) % 4294967296 < 4294967296 := by omega
  have hmv := Lib.hid (moved a b n)
  have hah := Lib.hid (aheadB_moved a b n)
  have hin := Lib.hid (inB_moved a b n n)
  have hcs := Lib.hid (cutSkip_moved a b n (n % 2000) 500)
  have hck := Lib.hid (cutKeep_moved a b n (n % 2000) 500)
  have hnb := Lib.hid (ahead_not_both a b)
  have hone := Lib.hid (ahead_one (a := a) (b := b) a0 a1 b0 b1)
  have hxz := Lib.hid (show ((b - a) % 4294967296 + (a - b) % 4294967296) % 4294967296 = 0 by omega)
  go_wp2_with fail
  refine (add_ok a n _ a0 a1 (by omega) (by omega)).mono ?_
  rintro e _ ⟨rfl, rfl⟩
  go_wp2_with fail
  refine (add_ok b n _ b0 b1 (by omega) (by omega)).mono ?_
  rintro e _ ⟨rfl, rfl⟩
  generalize (a + n) % 4294967296 = c at c0 c1 hmv hah hin hcs hck ⊢
  generalize (b + n) % 4294967296 = d at d0 d1 hmv hah hin hcs hck ⊢
  go_wp2_with fail
  refine (distance_ok a b _ a0 a1 b0 b1).mono ?_
  rintro e _ ⟨rfl, rfl⟩
  go_wp2_with fail
  refine (distance_ok c d _ c0 c1 d0 d1).mono ?_
  rintro e _ ⟨rfl, rfl⟩
  rw [hmv.out]
  go_wp2_with fail
  refine (distance_ok b a _ b0 b1 a0 a1).mono ?_
  rintro e _ ⟨rfl, rfl⟩
  generalize (b - a) % 4294967296 = x at x0 x1 hxz hone hmv ⊢
  generalize (a - b) % 4294967296 = z at z0 z1 hxz ⊢
  have hz : ((x + z) % 4294967296 != 0) = false := by simp [hxz.out]
  go_wp2_with fail
  refine (ahead_ok a b _ a0 a1 b0 b1).mono ?_
  rintro e _ ⟨rfl, rfl⟩
  go_wp2_with fail
  refine (ahead_ok c d _ c0 c1 d0 d1).mono ?_
  rintro e _ ⟨rfl, rfl⟩
  rw [hah.out]
  go_wp2_with fail
  refine (ahead_ok b a _ b0 b1 a0 a1).mono ?_
  rintro e _ ⟨rfl, rfl⟩
  generalize aheadB a b = p at hnb hone hah ⊢
  generalize aheadB b a = r at hnb hone ⊢
  have hcase : ((a != b) = false ∨ (x != 2147483648) = false ∨ p = true ∨ r = true) := by
    by_cases h1 : a = b
    · left; simp [h1]
    · by_cases h2 : x = 2147483648
      · right; left; simp [h2]
      · right; right; exact hone.out h1 h2
  have hcase := Lib.hid hcase
  have q0 : 0 ≤ n % 2000 := by omega
  have q1 : n % 2000 < 2000 := by omega
  clear hz hone hah hxz z0 z1
  rcases Bool.eq_false_or_eq_true p with rfl | rfl
  · obtain rfl : r = false := hnb.out rfl
    clear hnb hcase
    rcases Bool.eq_false_or_eq_true (a != b) with hab | hab <;> rcases Bool.eq_false_or_eq_true (x != 2147483648) with hxx | hxx
    all_goals
      go_wp2_with fail
      refine (in_ok b a n _ a0 a1 b0 b1 n0 (by omega)).mono ?_
      rintro e _ ⟨rfl, rfl⟩
      go_wp2_with fail
      refine (in_ok d c n _ c0 c1 d0 d1 n0 (by omega)).mono ?_
      rintro e _ ⟨rfl, rfl⟩
      rw [hin.out]
      go_wp2_with fail
      refine (cut_ok a (n % 2000) b 500 _ a0 a1 b0 b1 q0 (by omega) (by omega) (by omega)).mono ?_
      rintro e _ ⟨rfl, rfl⟩
      go_wp2_with fail
      refine (cut_ok c (n % 2000) d 500 _ c0 c1 d0 d1 q0 (by omega) (by omega) (by omega)).mono ?_
      rintro e _ ⟨rfl, rfl⟩
      rw [hcs.out, hck.out]
      go_wp2_with fail
      go_ret
      exact ⟨rfl, Below.refl _ _⟩
  · rcases Bool.eq_false_or_eq_true r with rfl | rfl
    · clear hnb hcase
      rcases Bool.eq_false_or_eq_true (a != b) with hab | hab <;> rcases Bool.eq_false_or_eq_true (x != 2147483648) with hxx | hxx
      all_goals
        go_wp2_with fail
        refine (in_ok b a n _ a0 a1 b0 b1 n0 (by omega)).mono ?_
        rintro e _ ⟨rfl, rfl⟩
        go_wp2_with fail
        refine (in_ok d c n _ c0 c1 d0 d1 n0 (by omega)).mono ?_
        rintro e _ ⟨rfl, rfl⟩
        rw [hin.out]
        go_wp2_with fail
        refine (cut_ok a (n % 2000) b 500 _ a0 a1 b0 b1 q0 (by omega) (by omega) (by omega)).mono ?_
        rintro e _ ⟨rfl, rfl⟩
        go_wp2_with fail
        refine (cut_ok c (n % 2000) d 500 _ c0 c1 d0 d1 q0 (by omega) (by omega) (by omega)).mono ?_
        rintro e _ ⟨rfl, rfl⟩
        rw [hcs.out, hck.out]
        go_wp2_with fail
        go_ret
        exact ⟨rfl, Below.refl _ _⟩
    · rcases hcase.out with hab | hab | hab | hab
      · clear hnb hcase
        go_wp2_with fail
        refine (in_ok b a n _ a0 a1 b0 b1 n0 (by omega)).mono ?_
        rintro e _ ⟨rfl, rfl⟩
        go_wp2_with fail
        refine (in_ok d c n _ c0 c1 d0 d1 n0 (by omega)).mono ?_
        rintro e _ ⟨rfl, rfl⟩
        rw [hin.out]
        go_wp2_with fail
        refine (cut_ok a (n % 2000) b 500 _ a0 a1 b0 b1 q0 (by omega) (by omega) (by omega)).mono ?_
        rintro e _ ⟨rfl, rfl⟩
        go_wp2_with fail
        refine (cut_ok c (n % 2000) d 500 _ c0 c1 d0 d1 q0 (by omega) (by omega) (by omega)).mono ?_
        rintro e _ ⟨rfl, rfl⟩
        rw [hcs.out, hck.out]
        go_wp2_with fail
        go_ret
        exact ⟨rfl, Below.refl _ _⟩
      · clear hnb hcase
        rcases Bool.eq_false_or_eq_true (a != b) with hac | hac
        all_goals
          go_wp2_with fail
          refine (in_ok b a n _ a0 a1 b0 b1 n0 (by omega)).mono ?_
          rintro e _ ⟨rfl, rfl⟩
          go_wp2_with fail
          refine (in_ok d c n _ c0 c1 d0 d1 n0 (by omega)).mono ?_
          rintro e _ ⟨rfl, rfl⟩
          rw [hin.out]
          go_wp2_with fail
          refine (cut_ok a (n % 2000) b 500 _ a0 a1 b0 b1 q0 (by omega) (by omega) (by omega)).mono ?_
          rintro e _ ⟨rfl, rfl⟩
          go_wp2_with fail
          refine (cut_ok c (n % 2000) d 500 _ c0 c1 d0 d1 q0 (by omega) (by omega) (by omega)).mono ?_
          rintro e _ ⟨rfl, rfl⟩
          rw [hcs.out, hck.out]
          go_wp2_with fail
          go_ret
          exact ⟨rfl, Below.refl _ _⟩
      · cases hab
      · cases hab
end Go.Proofs.Ytafaalmbmmpgkaa

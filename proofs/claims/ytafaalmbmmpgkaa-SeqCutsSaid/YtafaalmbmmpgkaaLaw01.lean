/-
  What the laws of layer 1 share: the chapter's example; a number made a sequence number.
  No conditions.
-/
import Derived.Test.YtafaalmbmmpgkaaSeq
import Derived.Test.YtafaalmbmmpgkaaAmong
set_option linter.unusedVariables false
set_option linter.unusedSimpArgs false
namespace Go.Proofs.Ytafaalmbmmpgkaa
open Go.RowKit
attribute [local go_sem] max_ii min_ii and_mask32

theorem works01 (w : World) : Calls Try.prog 5 #[] w fun e w' => e = .returned (.bool true) ∧ w = w' := by
  go_enter Try.func5, Try.ntmps5
  go_wp2_with fail
  refine (ahead_ok 4294967295 3 _ (by omega) (by omega) (by omega) (by omega)).mono ?_
  rintro e _ ⟨rfl, rfl⟩
  rw [show aheadB 4294967295 3 = true from by decide]
  go_wp2_with fail
  refine (cut_ok 8 5 10 2 _ (by omega) (by omega) (by omega) (by omega) (by omega) (by omega) (by omega) (by omega)).mono ?_
  rintro e _ ⟨rfl, rfl⟩
  rw [show cutSkip 8 5 10 2 = 2 from by decide, show cutKeep 8 5 10 2 = 2 from by decide]
  go_wp2_with fail
  go_ret
  exact ⟨rfl, rfl⟩

theorem fit_any (a : Int) (w : World) (h : (Lit.int .i64 a).wf = true) : Calls Try.prog 6 #[.int .i64 a] w fun e w' => e = .returned (.int .i64 (a % 4294967296)) ∧ w = w' := by
  go_enter Try.func6, Try.ntmps6
  go_wp2_with fail
  refine (among_any a 4294967296 _ h (by omega) (by omega)).mono ?_
  rintro e _ ⟨rfl, rfl⟩
  go_wp2_with fail
  go_ret
  exact ⟨rfl, rfl⟩

end Go.Proofs.Ytafaalmbmmpgkaa

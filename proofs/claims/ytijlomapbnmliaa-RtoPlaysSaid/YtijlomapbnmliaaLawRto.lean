/-
  What the laws of layer 13 share: the contract of the chapter's example.
  No conditions.
-/
import Derived.Test.YtijlomapbnmliaaRto
import Derived.Test.YtijlomapbnmliaaAmong
set_option linter.unusedVariables false
set_option linter.unusedSimpArgs false
namespace Go.Proofs.Ytijlomapbnmliaa
open Go.RowKit
attribute [local go_sem] max_ii min_ii

theorem works_any (w : World) :
    Calls Try.prog 7 #[] w fun e w' => e = .returned (.bool true) ∧ Only (fun _ => False) w w' := by
  go_enter Try.func7, Try.ntmps7
  go_wp2_with fail
  refine (new_good 100 10 1000 _ (by unfold badSetup; omega)).mono ?_
  rintro e w1 ⟨rfl, hr, hk⟩
  go_wp2_with fail
  refine (sample_good w.heap.size _ 40 _ hr (by omega) (by omega) (by decide) (by decide) (by decide) (by decide)).mono ?_
  rintro e w2 ⟨rfl, hr2, hk2⟩
  rw [show (RtoS.new 100 10 1000).sample 40 = ⟨10, 1000, 120, 320, 80, 0, true⟩ from rfl] at hr2
  go_wp2_with fail
  refine (state_any w.heap.size _ _ hr2).mono ?_
  rintro e w3 ⟨rfl, hk3⟩
  go_wp2_with fail
  refine (wait_any w.heap.size _ _ (hk3.at hr2 (fun h => h))).mono ?_
  rintro e w4 ⟨rfl, rfl⟩
  go_wp2_with fail
  go_ret
  exact ⟨rfl, ((hk.then hk2 (fun i hi e => by omega)).trans hk3)⟩

end Go.Proofs.Ytijlomapbnmliaa

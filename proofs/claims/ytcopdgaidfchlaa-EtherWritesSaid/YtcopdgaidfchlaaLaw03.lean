/-
  The chapter's example of layer 3.
  No conditions.
-/
import Derived.Test.YtcopdgaidfchlaaEtherAny
set_option linter.unusedVariables false
set_option linter.unusedSimpArgs false
namespace Go.Proofs.Ytcopdgaidfchlaa
open Go.RowKit

theorem works03 (w : World) : Calls Try.prog 14 #[] w fun e w' => e = .returned (.bool true) ∧ Only (fun _ => False) w w' := by
  have ht : ((frameText 281474976710655 2 2054 ⟨#[]⟩).toList == [255, 255, 255, 255, 255, 255, 0, 0, 0, 0, 0, 2, 8, 6]) = true := by decide +kernel
  have HT := Lib.hid ht
  clear ht
  go_enter Try.func14, Try.ntmps14
  go_wp2_with fail
  refine (eencode_ok 281474976710655 2 2054 ⟨#[]⟩ _ ⟨⟨by omega, by omega⟩, ⟨by omega, by omega⟩, by decide, by omega, by omega, by decide⟩).mono ?_
  rintro e w1 ⟨rfl, hk⟩
  have ht := HT.out
  generalize frameText 281474976710655 2 2054 ⟨#[]⟩ = s at ht ⊢
  go_wp2_with fail
  go_ret
  exact ⟨rfl, hk⟩

end Go.Proofs.Ytcopdgaidfchlaa

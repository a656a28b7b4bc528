/-
  The contract of sternpostbook.Among: a number from 0 to n - 1.
  Conditions: n from 1 to 2^62.
-/
import Derived.Test.YteifehienpeaiaaProg
import Derived.Test.YteifehienpeaiaaBase
set_option linter.unusedVariables false
set_option linter.unusedSimpArgs false
namespace Go.Proofs.Yteifehienpeaiaa
open Go.RowKit

theorem among_wrap (x n : Int) (hn : 0 < n) (h1 : n ≤ 4611686018427387904) : (wrap64 (x.tmod n + n)).tmod n = x % n := by
  have h2 : -n < x.tmod n := by
    have := Int.lt_tmod_of_pos x hn
    omega
  have h3 : x.tmod n < n := Int.tmod_lt_of_pos x hn
  rw [IntWalk.wrap64_in _ ⟨by omega, by omega⟩, among_eq x n hn]

theorem among_any (x n : Int) (w : World) (hx : (Lit.int .i64 x).wf = true) (h0 : 0 < n) (h1 : n ≤ 4611686018427387904) :
    Calls Try.prog 19 #[.int .i64 x, .int .i64 n] w fun e w' => e = .returned (.int .i64 (x % n)) ∧ w = w' := by
  have hb := wf_bounds hx
  have HW := Lib.hid (among_wrap x n h0 h1)
  have hn : ¬ n = 0 := by omega
  go_enter Try.func19, Try.ntmps19
  go_wp2
  go_ret
  exact ⟨congrArg (fun z => Ending.returned (.int .i64 z)) HW.out, rfl⟩

end Go.Proofs.Yteifehienpeaiaa

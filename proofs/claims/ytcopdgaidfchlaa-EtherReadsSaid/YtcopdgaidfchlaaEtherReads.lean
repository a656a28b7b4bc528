/-
  The walk of the law EtherReads.
  No conditions.
-/
import Derived.Test.YtcopdgaidfchlaaLaw03
import Derived.Test.YtcopdgaidfchlaaRef03Any
import Derived.Test.YtcopdgaidfchlaaOpen
set_option linter.unusedVariables false
set_option linter.unusedSimpArgs false
namespace Go.Proofs.Ytcopdgaidfchlaa
open Go.RowKit

set_option maxHeartbeats 1000000 in
theorem etherReads_walk (W : World) (s : ByteArray) (hs : s.size ≤ reachB) (a : Int) (wa : (Lit.int .i64 a).wf = true) :
    Calls Try.prog 4 #[.string s, .int .i64 a] W fun e W' => e = .returned (.bool true) ∧ Below W.heap.size W W' := by
  unfold reachB at hs
  clear wa
  go_enter Try.func4, Try.ntmps4
  go_wp2_with fail
  refine (edecode_any s _ (by omega)).mono ?_
  rintro e w1 ⟨rfl, hk1⟩
  go_wp2_with fail
  have hO1 := hk1.alloc (.cells #[.int .i64 (decT s), .int .i64 (decF s), .int .i64 (decK s), .string (decD s)] 23)
  have hb1 := blk_new w1 (.cells #[.int .i64 (decT s), .int .i64 (decF s), .int .i64 (decK s), .string (decD s)] 23)
  refine (rdecode_any s _ (by omega)).mono ?_
  rintro e w2 ⟨rfl, hk2⟩
  replace hb1 := hk2.at hb1 (fun h => h)
  have hO2 := hO1.trans hk2
  clear hk1 hk2 hO1
  generalize decT s = dt at *
  generalize decF s = df at *
  generalize decK s = dk at *
  generalize decD s = dd at *
  generalize decC s = dc at *
  generalize w1.heap.size = p at *
  have hp := heap_lt hb1
  have x0 := blk_cell hb1 0
  have x1 := blk_cell hb1 1
  have x2 := blk_cell hb1 2
  have x3 := blk_cell hb1 3
  simp only [List.getElem?_toArray, List.getElem?_cons_zero, List.getElem?_cons_succ] at x0 x1 x2 x3
  go_wp2_with fail
  refine (group_any a _).mono ?_
  rintro e _ ⟨rfl, rfl⟩
  go_wp2_with fail
  refine (rGroup_any a _).mono ?_
  rintro e _ ⟨rfl, rfl⟩
  generalize grpB a = gb at *
  generalize grpC a = gc at *
  go_wp2_with fail
  refine (works03 _).mono ?_
  rintro e w3 ⟨rfl, hk3⟩
  go_wp2_with fail
  go_ret
  exact ⟨rfl, ((hO2.alloc _).trans hk3).below (Nat.le_refl _) (fun _ _ h => h)⟩
end Go.Proofs.Ytcopdgaidfchlaa

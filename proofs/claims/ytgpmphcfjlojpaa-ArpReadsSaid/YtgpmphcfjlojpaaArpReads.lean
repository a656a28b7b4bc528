/-
  The walk of the law ArpReads.
  No conditions.
-/
import Derived.Test.YtgpmphcfjlojpaaArpBoth
import Derived.Test.YtgpmphcfjlojpaaArpMakes
set_option linter.unusedVariables false
set_option linter.unusedSimpArgs false
namespace Go.Proofs.Ytgpmphcfjlojpaa
open Go.RowKit

set_option maxHeartbeats 2000000 in
theorem arpReads_walk (W : World) (s : ByteArray) (hs : s.size ≤ reachB) :
    Calls Try.prog 7 #[.string s] W fun e W' => e = .returned (.bool true) ∧ Below W.heap.size W W' := by
  obtain ⟨a0, a1, a2, a3, a4, ac, ha, hra⟩ := decode_both s
  have HA := Lib.hid ha
  have HRA := Lib.hid hra
  clear ha hra hs
  go_enter Try.func7, Try.ntmps7
  go_wp2_with fail
  refine (HA.out _).mono ?_
  rintro e w1 ⟨rfl, hk⟩
  have hO := hk.alloc (.cells #[.int .i64 a0, .int .i64 a1, .int .i64 a2, .int .i64 a3, .int .i64 a4] 23)
  have kX := blk_new w1 (.cells #[.int .i64 a0, .int .i64 a1, .int .i64 a2, .int .i64 a3, .int .i64 a4] 23)
  clear hk
  go_wp2_with fail
  refine (HRA.out _).mono ?_
  rintro e w2 ⟨rfl, hk⟩
  replace hO := (hO.trans hk).alloc (.cells #[.int .i64 a0, .int .i64 a1, .int .i64 a2, .int .i64 a3, .int .i64 a4] 23)
  replace kX := blk_alloc (hk.at kX (fun h => h)) (.cells #[.int .i64 a0, .int .i64 a1, .int .i64 a2, .int .i64 a3, .int .i64 a4] 23)
  have kY := blk_new w2 (.cells #[.int .i64 a0, .int .i64 a1, .int .i64 a2, .int .i64 a3, .int .i64 a4] 23)
  clear hk
  have x0 := blk_cell kX 0
  have x1 := blk_cell kX 1
  have x2 := blk_cell kX 2
  have x3 := blk_cell kX 3
  have x4 := blk_cell kX 4
  simp only [List.getElem?_toArray, List.getElem?_cons_zero, List.getElem?_cons_succ] at x0 x1 x2 x3 x4
  have y0 := blk_cell kY 0
  have y1 := blk_cell kY 1
  have y2 := blk_cell kY 2
  have y3 := blk_cell kY 3
  have y4 := blk_cell kY 4
  simp only [List.getElem?_toArray, List.getElem?_cons_zero, List.getElem?_cons_succ] at y0 y1 y2 y3 y4
  have hlx := heap_lt kX
  have hly := heap_lt kY
  go_wp2_with fail
  refine (works04 _).mono ?_
  rintro e w3 ⟨rfl, hk⟩
  replace hO := hO.trans hk
  go_wp2_with fail
  go_ret
  exact ⟨rfl, hO.below (Nat.le_refl _) (fun _ _ h => h)⟩

end Go.Proofs.Ytgpmphcfjlojpaa

/-
  The bytes of ARP packets, of the reference for layer 4.
  Conditions: strings within the form's reach.
-/
import Derived.Test.YtgpmphcfjlojpaaArpRef
import Derived.Deep.RegionHeld3
set_option linter.unusedVariables false
set_option linter.unusedSimpArgs false
namespace Go.Proofs.Ytgpmphcfjlojpaa
open Go.RowKit


set_option maxHeartbeats 4000000 in
theorem rdecode_bad (s : ByteArray) (w : World) (h0 : 28 ≤ s.size) (h1 : s.size ≤ 46) (hp : s.extract 0 6 = ⟨#[0, 1, 8, 0, 6, 4]⟩) (hok : ¬ ArpOk (numAt s 6 2) (numAt s 8 6) (numAt s 14 4) (numAt s 18 6) (numAt s 24 4)) :
    Calls Try.prog 23 #[.string s] w fun e w' => e = .returned (.tuple #[.agg #[.int .i64 0, .int .i64 0, .int .i64 0, .int .i64 0, .int .i64 0], .int .i64 40]) ∧ Only (fun _ => False) w w' := by
  have HOK := Lib.hid hok
  have hp' : ((s.extract 0 6).toList == [0, 1, 8, 0, 6, 4]) = true := by rw [hp]; decide +kernel
  clear hok hp
  have s6 : (6 : Int) ≤ (s.size : Int) := by omega
  have s8 : (8 : Int) ≤ (s.size : Int) := by omega
  have s14 : (14 : Int) ≤ (s.size : Int) := by omega
  have s18 : (18 : Int) ≤ (s.size : Int) := by omega
  have s24 : (24 : Int) ≤ (s.size : Int) := by omega
  have s28 : (28 : Int) ≤ (s.size : Int) := by omega
  have d1 : decide ((s.size : Int) < 28) = false := decide_eq_false (by omega)
  have d2 : decide (46 < (s.size : Int)) = false := decide_eq_false (by omega)
  have s46 : ¬ 46 < (s.size : Int) := by omega
  have s27 : ¬ (s.size : Int) < 28 := by omega
  go_enter Try.func23, Try.ntmps23
  go_wp2_with fail
  have hO : Only (fun _ => False) w (w.alloc (.cells #[.int .i64 0, .int .i64 0, .int .i64 0, .int .i64 0, .int .i64 0] 23)) := (Only.refl _ _).alloc _
  go_region_held3 (fun w' => Only (fun _ => False) w w')
    (first | exact hO | exact hO.drew | assumption)
    (first | (go_at_call 36; refine (rhead _).mono ?_; rintro e _ ⟨rfl, rfl⟩))
  go_wp2_with fail
  have hz : (w.alloc (.cells #[.int .i64 0, .int .i64 0, .int .i64 0, .int .i64 0, .int .i64 0] 23)).drew.heap[w.heap.size]? = some (.cells #[.int .i64 0, .int .i64 0, .int .i64 0, .int .i64 0, .int .i64 0] 23) := blk_new _ _
  have hsz : w.heap.size ≤ (w.alloc (.cells #[.int .i64 0, .int .i64 0, .int .i64 0, .int .i64 0, .int .i64 0] 23)).drew.heap.size := hO.drew.size
  replace hO := hO.drew
  generalize (w.alloc (.cells #[.int .i64 0, .int .i64 0, .int .i64 0, .int .i64 0, .int .i64 0] 23)).drew = w0 at *
  have hlz := heap_lt hz
  go_region_held3 (fun w' => Only (fun _ => False) w w')
    (first | exact hO | exact hO.drew | assumption | exact hO.drew.alloc _ | exact (hO.alloc _).drew | exact ((hO.alloc _).drew).setCell _ _ (by simp) | exact ((hO.alloc _).setCell _ _ (by simp)).drew | exact ((hO.alloc _).drew).setCell _ _ (by simp; omega))
    (first | (go_at_call 37; refine (num_ext s _ _ _ (by omega)).mono ?_; rintro e _ ⟨rfl, rfl⟩))
  all_goals
    go_wp2_with fail
    have hA0 := blk_alloc hz (.cells #[.int .i64 (numAt s 6 2), .int .i64 (numAt s 8 6), .int .i64 (numAt s 14 4), .int .i64 (numAt s 18 6), .int .i64 (numAt s 24 4)] 23)
    have hB0 := blk_new w0 (.cells #[.int .i64 (numAt s 6 2), .int .i64 (numAt s 8 6), .int .i64 (numAt s 14 4), .int .i64 (numAt s 18 6), .int .i64 (numAt s 24 4)] 23)
    have hK0 : Only (fun _ => False) w (w0.alloc (.cells #[.int .i64 (numAt s 6 2), .int .i64 (numAt s 8 6), .int .i64 (numAt s 14 4), .int .i64 (numAt s 18 6), .int .i64 (numAt s 24 4)] 23)) := hO.alloc _
    refine (rcheck_not _ _ _ _ _ _ HOK.out).mono ?_
    rintro e w2 ⟨rfl, hk⟩
    have hne : w.heap.size ≠ w0.heap.size := by omega
    have hA1 := hk.undrew.at hA0 (fun h => h)
    have hB1 := hk.undrew.at hB0 (fun h => h)
    have hK1 := hK0.trans hk.undrew
    clear hk hA0 hB0 hK0
    have y0 := blk_cell hB1 0
    have y1 := blk_cell hB1 1
    have y2 := blk_cell hB1 2
    have y3 := blk_cell hB1 3
    have y4 := blk_cell hB1 4
    simp only [List.setIfInBounds_toArray, List.set_cons_zero, List.set_cons_succ, List.getElem?_toArray, List.getElem?_cons_zero, List.getElem?_cons_succ] at y0 y1 y2 y3 y4
    have z0 := blk_cell hA1 0
    have z1 := blk_cell hA1 1
    have z2 := blk_cell hA1 2
    have z3 := blk_cell hA1 3
    have z4 := blk_cell hA1 4
    simp only [List.setIfInBounds_toArray, List.set_cons_zero, List.set_cons_succ, List.getElem?_toArray, List.getElem?_cons_zero, List.getElem?_cons_succ] at z0 z1 z2 z3 z4
    have zf := blk_free hA1
    go_wp2_with fail
    refine bodyPost_ret (v := .tuple #[.agg #[.int .i64 0, .int .i64 0, .int .i64 0, .int .i64 0, .int .i64 0], .int .i64 40]) (by simp [results, Try.results23, go_sem, y0, y1, y2, y3, y4, z0, z1, z2, z3, z4]) rfl ⟨rfl, ?_⟩
    repeat (first | exact hK1 | apply Only.alloc | refine Only.setCell ?_ _ _ (by simp))

end Go.Proofs.Ytgpmphcfjlojpaa

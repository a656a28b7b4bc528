/-
  The walk of the law ArpWrites.
  No conditions.
-/
import Derived.Test.YtgpmphcfjlojpaaArpRef
import Derived.Test.YtgpmphcfjlojpaaArpIs
import Derived.Test.YtgpmphcfjlojpaaArpMakes
import Derived.Deep.RegionHeld3
set_option linter.unusedVariables false
set_option linter.unusedSimpArgs false
namespace Go.Proofs.Ytgpmphcfjlojpaa
open Go.RowKit

set_option maxHeartbeats 2000000 in
theorem arpWrites_walk (W : World) (cs : List Value) (hcs : CellsAre [.i, .i, .i, .i, .i] cs) :
    Calls Try.prog 6 #[.agg cs.toArray] W fun e W' => e = .returned (.bool true) ∧ Below W.heap.size W W' := by
  obtain ⟨op, fm, fi, tm, ti, rfl⟩ := arp_cells hcs
  clear hcs
  have HA := Lib.hid (fun w => aencode_any op fm fi tm ti w)
  have HB := Lib.hid (fun w => rencode_any op fm fi tm ti w)
  have HC := Lib.hid (fun w => acheck_any op fm fi tm ti w)
  have HD := Lib.hid (fun w => rcheck_any op fm fi tm ti w)
  have HE := Lib.hid (fun w => isclaim_any op fm fi tm ti w)
  have HF := Lib.hid (fun w => risclaim_any op fm fi tm ti w)
  have HW := Lib.hid (fun w => works04 w)
  generalize arpS op fm fi tm ti = tx at HA HB
  generalize arC op fm fi tm ti = ac at HA HB HC HD
  generalize aclaB op fm fi tm ti = ab at HE HF
  go_enter Try.func6, Try.ntmps6
  go_wp2_with fail
  have kP := blk_new W (.cells #[.int .i64 op, .int .i64 fm, .int .i64 fi, .int .i64 tm, .int .i64 ti] 23)
  have hO := (Only.refl (fun _ => False) W).alloc (.cells #[.int .i64 op, .int .i64 fm, .int .i64 fi, .int .i64 tm, .int .i64 ti] 23)
  have x0 := blk_cell kP 0
  have x1 := blk_cell kP 1
  have x2 := blk_cell kP 2
  have x3 := blk_cell kP 3
  have x4 := blk_cell kP 4
  simp only [List.getElem?_toArray, List.getElem?_cons_zero, List.getElem?_cons_succ] at x0 x1 x2 x3 x4
  refine (HA.out _).mono ?_
  rintro e wn ⟨rfl, hk⟩
  replace hO := hO.trans hk
  replace kP := hk.at kP (fun h => h)
  clear hk x0 x1 x2 x3 x4
  have x0 := blk_cell kP 0
  have x1 := blk_cell kP 1
  have x2 := blk_cell kP 2
  have x3 := blk_cell kP 3
  have x4 := blk_cell kP 4
  simp only [List.getElem?_toArray, List.getElem?_cons_zero, List.getElem?_cons_succ] at x0 x1 x2 x3 x4
  go_wp2_with fail
  refine (HB.out _).mono ?_
  rintro e wn ⟨rfl, hk⟩
  replace hO := hO.trans hk
  replace kP := hk.at kP (fun h => h)
  clear hk x0 x1 x2 x3 x4
  have x0 := blk_cell kP 0
  have x1 := blk_cell kP 1
  have x2 := blk_cell kP 2
  have x3 := blk_cell kP 3
  have x4 := blk_cell kP 4
  simp only [List.getElem?_toArray, List.getElem?_cons_zero, List.getElem?_cons_succ] at x0 x1 x2 x3 x4
  go_wp2_with fail
  clear kP
  generalize W.heap.size = p at *
  go_region_held3 (fun w' => (w'.cell? ⟨p, 0, none⟩ = some (.int .i64 op) ∧ w'.cell? ⟨p, 1, none⟩ = some (.int .i64 fm) ∧ w'.cell? ⟨p, 2, none⟩ = some (.int .i64 fi) ∧ w'.cell? ⟨p, 3, none⟩ = some (.int .i64 tm) ∧ w'.cell? ⟨p, 4, none⟩ = some (.int .i64 ti)) ∧ Only (fun _ => False) W w')
    (first | exact ⟨⟨x0, x1, x2, x3, x4⟩, hO⟩ | exact ⟨⟨x0, x1, x2, x3, x4⟩, hO.drew⟩ | assumption)
    (first | (go_at_call 19; refine (HC.out _).mono ?_; rintro e wn ⟨rfl, hk⟩; replace x0 := cell_only hk (fun h => h) x0; replace x1 := cell_only hk (fun h => h) x1; replace x2 := cell_only hk (fun h => h) x2; replace x3 := cell_only hk (fun h => h) x3; replace x4 := cell_only hk (fun h => h) x4; replace hO := hO.step hk ⟨rfl, rfl, rfl, rfl⟩ (fun _ _ h => h)) | (go_at_call 20; refine (HD.out _).mono ?_; rintro e wn ⟨rfl, hk⟩; replace x0 := cell_only hk (fun h => h) x0; replace x1 := cell_only hk (fun h => h) x1; replace x2 := cell_only hk (fun h => h) x2; replace x3 := cell_only hk (fun h => h) x3; replace x4 := cell_only hk (fun h => h) x4; replace hO := hO.step hk ⟨rfl, rfl, rfl, rfl⟩ (fun _ _ h => h)) | (go_at_call 16; refine (HE.out _).mono ?_; rintro e wn ⟨rfl, hk⟩; replace x0 := cell_only hk (fun h => h) x0; replace x1 := cell_only hk (fun h => h) x1; replace x2 := cell_only hk (fun h => h) x2; replace x3 := cell_only hk (fun h => h) x3; replace x4 := cell_only hk (fun h => h) x4; replace hO := hO.step hk ⟨rfl, rfl, rfl, rfl⟩ (fun _ _ h => h)) | (go_at_call 21; refine (HF.out _).mono ?_; rintro e wn ⟨rfl, hk⟩; replace x0 := cell_only hk (fun h => h) x0; replace x1 := cell_only hk (fun h => h) x1; replace x2 := cell_only hk (fun h => h) x2; replace x3 := cell_only hk (fun h => h) x3; replace x4 := cell_only hk (fun h => h) x4; replace hO := hO.step hk ⟨rfl, rfl, rfl, rfl⟩ (fun _ _ h => h)) | (go_at_call 13; refine (HW.out _).mono ?_; rintro e wn ⟨rfl, hk⟩; replace x0 := cell_only hk (fun h => h) x0; replace x1 := cell_only hk (fun h => h) x1; replace x2 := cell_only hk (fun h => h) x2; replace x3 := cell_only hk (fun h => h) x3; replace x4 := cell_only hk (fun h => h) x4; replace hO := hO.step hk ⟨rfl, rfl, rfl, rfl⟩ (fun _ _ h => h)))
  go_wp2_with fail
  go_ret
  exact ⟨rfl, hO.below (Nat.le_refl _) (fun _ _ h => h)⟩

end Go.Proofs.Ytgpmphcfjlojpaa

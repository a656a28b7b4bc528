/-
  slices.Reverse of four bytes.
  Conditions: the four cells lie in one block.
-/
import Derived.Test.YteifehienpeaiaaProg
import Derived.Test.YteifehienpeaiaaBase
set_option linter.unusedVariables false
set_option linter.unusedSimpArgs false
set_option maxRecDepth 100000
namespace Go.Proofs.Yteifehienpeaiaa
open Go.RowKit

theorem cell_setSame {w : World} {g i : Nat} {v x : Value} (h : w.cell? ⟨g, i, none⟩ = some v) : (w.setCell ⟨g, i, none⟩ x).cell? ⟨g, i, none⟩ = some x := by
  revert h
  unfold World.cell? World.setCell
  simp only [Array.getElem?_modify, if_true]
  cases w.heap[g]? with
  | none => simp
  | some o =>
    cases o <;> simp
    intro h
    have := (Array.getElem?_eq_some_iff.1 h).1
    simp [this]

theorem cell_setElse {w : World} {g i j : Nat} {v x : Value} (h : w.cell? ⟨g, i, none⟩ = some v) (hne : j ≠ i) : (w.setCell ⟨g, j, none⟩ x).cell? ⟨g, i, none⟩ = some v := by
  revert h
  unfold World.cell? World.setCell
  simp only [Array.getElem?_modify, if_true]
  cases w.heap[g]? with
  | none => simp
  | some o => cases o <;> simp [Array.getElem?_setIfInBounds, hne]

set_option maxHeartbeats 1000000 in
theorem reverse4 (p cap : Nat) (b0 b1 b2 b3 : Int) (w : World) (hc : 4 ≤ cap) (z0 : w.cell? ⟨p, 0, none⟩ = some (.int .u8 b0)) (z1 : w.cell? ⟨p, 1, none⟩ = some (.int .u8 b1)) (z2 : w.cell? ⟨p, 2, none⟩ = some (.int .u8 b2)) (z3 : w.cell? ⟨p, 3, none⟩ = some (.int .u8 b3))
    (f0 : w.frozen? ⟨p, 0, none⟩ = false) (f1 : w.frozen? ⟨p, 1, none⟩ = false) (f2 : w.frozen? ⟨p, 2, none⟩ = false) (f3 : w.frozen? ⟨p, 3, none⟩ = false) :
    Calls Try.prog 69 #[.slice (some ⟨p, 0, none⟩) 4 cap] w fun e' w' => e' = .returned (.tuple #[]) ∧ (w'.cell? ⟨p, 0, none⟩ = some (.int .u8 b3) ∧ w'.cell? ⟨p, 1, none⟩ = some (.int .u8 b2) ∧ w'.cell? ⟨p, 2, none⟩ = some (.int .u8 b1) ∧ w'.cell? ⟨p, 3, none⟩ = some (.int .u8 b0)) ∧ Only (fun k => k = p) w w' := by
  go_enter Try.func69, Try.ntmps69
  go_wp2_with fail
  refine wp_loop_rounds 3 ?_
  rw [rounds_succ]
  go_wp2_with fail
  go_region
  have hO1 := ((Only.refl (fun k => k = p) w).setCell ⟨p, 0, none⟩ (.int .u8 b3) (fun _ => rfl)).setCell ⟨p, 3, none⟩ (.int .u8 b0) (fun _ => rfl)
  have c0 := cell_setElse (j := 3) (x := .int .u8 b0) (cell_setSame (x := .int .u8 b3) z0) (by decide)
  have c1 := cell_setElse (j := 3) (x := .int .u8 b0) (cell_setElse (j := 0) (x := .int .u8 b3) z1 (by decide)) (by decide)
  have c2 := cell_setElse (j := 3) (x := .int .u8 b0) (cell_setElse (j := 0) (x := .int .u8 b3) z2 (by decide)) (by decide)
  have c3 := cell_setSame (x := .int .u8 b0) (cell_setElse (j := 0) (x := .int .u8 b3) z3 (by decide))
  have g1 : ((w.setCell ⟨p, 0, none⟩ (.int .u8 b3)).setCell ⟨p, 3, none⟩ (.int .u8 b0)).drew.frozen? ⟨p, 1, none⟩ = false := by
    show ((w.setCell ⟨p, 0, none⟩ (.int .u8 b3)).setCell ⟨p, 3, none⟩ (.int .u8 b0)).frozen? ⟨p, 1, none⟩ = false
    rw [World.frozen?_setCell, World.frozen?_setCell]; exact f1
  have g2 : ((w.setCell ⟨p, 0, none⟩ (.int .u8 b3)).setCell ⟨p, 3, none⟩ (.int .u8 b0)).drew.frozen? ⟨p, 2, none⟩ = false := by
    show ((w.setCell ⟨p, 0, none⟩ (.int .u8 b3)).setCell ⟨p, 3, none⟩ (.int .u8 b0)).frozen? ⟨p, 2, none⟩ = false
    rw [World.frozen?_setCell, World.frozen?_setCell]; exact f2
  replace hO1 : Only (fun k => k = p) w ((w.setCell ⟨p, 0, none⟩ (.int .u8 b3)).setCell ⟨p, 3, none⟩ (.int .u8 b0)).drew := hO1.drew
  replace c0 : ((w.setCell ⟨p, 0, none⟩ (.int .u8 b3)).setCell ⟨p, 3, none⟩ (.int .u8 b0)).drew.cell? ⟨p, 0, none⟩ = some (.int .u8 b3) := c0
  replace c1 : ((w.setCell ⟨p, 0, none⟩ (.int .u8 b3)).setCell ⟨p, 3, none⟩ (.int .u8 b0)).drew.cell? ⟨p, 1, none⟩ = some (.int .u8 b1) := c1
  replace c2 : ((w.setCell ⟨p, 0, none⟩ (.int .u8 b3)).setCell ⟨p, 3, none⟩ (.int .u8 b0)).drew.cell? ⟨p, 2, none⟩ = some (.int .u8 b2) := c2
  replace c3 : ((w.setCell ⟨p, 0, none⟩ (.int .u8 b3)).setCell ⟨p, 3, none⟩ (.int .u8 b0)).drew.cell? ⟨p, 3, none⟩ = some (.int .u8 b0) := c3
  clear z0 z1 z2 z3 f0 f1 f2 f3
  generalize ((w.setCell ⟨p, 0, none⟩ (.int .u8 b3)).setCell ⟨p, 3, none⟩ (.int .u8 b0)).drew = w1 at c0 c1 c2 c3 g1 g2 hO1 ⊢
  go_wp2_with fail
  rw [rounds_succ]
  go_wp2_with fail
  go_region
  have hO2 := ((hO1.setCell ⟨p, 1, none⟩ (.int .u8 b2) (fun _ => rfl)).setCell ⟨p, 2, none⟩ (.int .u8 b1) (fun _ => rfl)).drew
  have d0 := cell_setElse (j := 2) (x := .int .u8 b1) (cell_setElse (j := 1) (x := .int .u8 b2) c0 (by decide)) (by decide)
  have d1 := cell_setElse (j := 2) (x := .int .u8 b1) (cell_setSame (x := .int .u8 b2) c1) (by decide)
  have d2 := cell_setSame (x := .int .u8 b1) (cell_setElse (j := 1) (x := .int .u8 b2) c2 (by decide))
  have d3 := cell_setElse (j := 2) (x := .int .u8 b1) (cell_setElse (j := 1) (x := .int .u8 b2) c3 (by decide)) (by decide)
  go_wp2_with fail
  rw [rounds_succ]
  go_wp2_with fail
  go_end0
  exact ⟨rfl, ⟨d0, d1, d2, d3⟩, hO2⟩

end Go.Proofs.Yteifehienpeaiaa

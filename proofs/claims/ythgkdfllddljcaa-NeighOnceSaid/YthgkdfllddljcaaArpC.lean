/-
  The contracts of package arp (no bytes) and of the reference for layer 4.
  Conditions: numbers are of the kind int.
-/
import Derived.Test.YthgkdfllddljcaaArpCheckC
set_option linter.unusedVariables false
set_option linter.unusedSimpArgs false
namespace Go.Proofs.Ythgkdfllddljcaa
open Go.RowKit

/-- What a packet becomes that is made; answered. -/
structure A where
  op : Int
  fm : Int
  fi : Int
  tm : Int
  ti : Int
open Classical in
noncomputable def amade (op fm fi tm ti : Int) : A := if ArpOk op fm fi tm ti then ⟨op, fm, fi, tm, ti⟩ else ⟨0, 0, 0, 0, 0⟩
open Classical in
noncomputable def atold (op fm fi tm ti mac : Int) : A := if ArpOk op fm fi tm ti ∧ op = 1 then amade 2 mac ti fm fi else ⟨0, 0, 0, 0, 0⟩
open Classical in
noncomputable def atolC (op fm fi tm ti mac : Int) : Int := if ArpOk op fm fi tm ti ∧ op = 1 then arC 2 mac ti fm fi else 40
open Classical in
noncomputable def aclaB (op fm fi tm ti : Int) : Bool := if ArpOk op fm fi tm ti ∧ fi = ti then true else false


theorem acheck_ok' (op fm fi tm ti : Int) (w : World) (h : ArpOk op fm fi tm ti) :
    Calls Try.prog 21 #[.agg #[.int .i64 op, .int .i64 fm, .int .i64 fi, .int .i64 tm, .int .i64 ti]] w fun e w' => e = .returned (.int .i64 0) ∧ Only (fun _ => False) w w' := by
  have := acheck_any op fm fi tm ti w
  rwa [show arC op fm fi tm ti = 0 from if_pos h] at this

theorem acheck_bad' (op fm fi tm ti : Int) (w : World) (h : ¬ ArpOk op fm fi tm ti) :
    Calls Try.prog 21 #[.agg #[.int .i64 op, .int .i64 fm, .int .i64 fi, .int .i64 tm, .int .i64 ti]] w fun e w' => e = .returned (.int .i64 40) ∧ Only (fun _ => False) w w' := by
  have := acheck_any op fm fi tm ti w
  rwa [show arC op fm fi tm ti = 40 from if_neg h] at this

theorem made_ok (op fm fi tm ti : Int) (w : World) (h : ArpOk op fm fi tm ti) :
    Calls Try.prog 26 #[.agg #[.int .i64 op, .int .i64 fm, .int .i64 fi, .int .i64 tm, .int .i64 ti]] w fun e w' => e = .returned (.tuple #[.agg #[.int .i64 op, .int .i64 fm, .int .i64 fi, .int .i64 tm, .int .i64 ti], .int .i64 0]) ∧ Only (fun _ => False) w w' := by
  have H := Lib.hid h
  clear h
  go_enter Try.func26, Try.ntmps26
  go_wp2_with fail
  have hb := blk_new w (.cells #[.int .i64 op, .int .i64 fm, .int .i64 fi, .int .i64 tm, .int .i64 ti] 31)
  have hz := blk_new2 w (.cells #[.int .i64 op, .int .i64 fm, .int .i64 fi, .int .i64 tm, .int .i64 ti] 31) (.cells #[.int .i64 0, .int .i64 0, .int .i64 0, .int .i64 0, .int .i64 0] 31)
  refine (acheck_ok' op fm fi tm ti _ H.out).mono ?_
  rintro e w1 ⟨rfl, hk⟩
  have hK := (((Only.refl (fun _ => False) w).alloc _).alloc _).then hk (fun _ _ h => h)
  replace hb := hk.at (blk_alloc hb _) (fun h => h)
  replace hz := hk.at hz (fun h => h)
  clear hk H
  have hl := heap_lt hz
  have z0 := blk_cell hz 0
  have z1 := blk_cell hz 1
  have z2 := blk_cell hz 2
  have z3 := blk_cell hz 3
  have z4 := blk_cell hz 4
  have q0 := blk_free hz 0
  have q1 := blk_free hz 1
  have q2 := blk_free hz 2
  have q3 := blk_free hz 3
  have q4 := blk_free hz 4
  have x0 := blk_cell hb 0
  have x1 := blk_cell hb 1
  have x2 := blk_cell hb 2
  have x3 := blk_cell hb 3
  have x4 := blk_cell hb 4
  simp only [List.getElem?_toArray, List.getElem?_cons_zero, List.getElem?_cons_succ] at x0 x1 x2 x3 x4 z0 z1 z2 z3 z4
  go_wp2_with fail
  have hs := (blk_set (blk_set (blk_set (blk_set (blk_set hz 0 (.int .i64 op)) 1 (.int .i64 fm)) 2 (.int .i64 fi)) 3 (.int .i64 tm)) 4 (.int .i64 ti))
  have hO : Only (fun _ => False) w (World.setCell (World.setCell (World.setCell (World.setCell (World.setCell w1 ⟨w.heap.size + 1, 0, none⟩ (.int .i64 op)) ⟨w.heap.size + 1, 1, none⟩ (.int .i64 fm)) ⟨w.heap.size + 1, 2, none⟩ (.int .i64 fi)) ⟨w.heap.size + 1, 3, none⟩ (.int .i64 tm)) ⟨w.heap.size + 1, 4, none⟩ (.int .i64 ti)) := by
    repeat (first | exact hK | refine Only.setCell ?_ _ _ (by simp))
  generalize (World.setCell (World.setCell (World.setCell (World.setCell (World.setCell w1 ⟨w.heap.size + 1, 0, none⟩ (.int .i64 op)) ⟨w.heap.size + 1, 1, none⟩ (.int .i64 fm)) ⟨w.heap.size + 1, 2, none⟩ (.int .i64 fi)) ⟨w.heap.size + 1, 3, none⟩ (.int .i64 tm)) ⟨w.heap.size + 1, 4, none⟩ (.int .i64 ti)) = wz at hs hO ⊢
  clear hz hb hK x0 x1 x2 x3 x4 z0 z1 z2 z3 z4 q0 q1 q2 q3 q4
  have y0 := blk_cell hs 0
  have y1 := blk_cell hs 1
  have y2 := blk_cell hs 2
  have y3 := blk_cell hs 3
  have y4 := blk_cell hs 4
  simp only [List.setIfInBounds_toArray, List.set_cons_zero, List.set_cons_succ, List.getElem?_toArray, List.getElem?_cons_zero, List.getElem?_cons_succ] at y0 y1 y2 y3 y4
  refine bodyPost_ret (v := .tuple #[.agg #[.int .i64 op, .int .i64 fm, .int .i64 fi, .int .i64 tm, .int .i64 ti], .int .i64 0]) (by simp [results, Try.results26, go_sem, y0, y1, y2, y3, y4]) rfl ⟨rfl, hO⟩

theorem made_bad (op fm fi tm ti : Int) (w : World) (h : ¬ ArpOk op fm fi tm ti) :
    Calls Try.prog 26 #[.agg #[.int .i64 op, .int .i64 fm, .int .i64 fi, .int .i64 tm, .int .i64 ti]] w fun e w' => e = .returned (.tuple #[.agg #[.int .i64 0, .int .i64 0, .int .i64 0, .int .i64 0, .int .i64 0], .int .i64 40]) ∧ Only (fun _ => False) w w' := by
  have H := Lib.hid h
  clear h
  go_enter Try.func26, Try.ntmps26
  go_wp2_with fail
  have hb := blk_new w (.cells #[.int .i64 op, .int .i64 fm, .int .i64 fi, .int .i64 tm, .int .i64 ti] 31)
  have hz := blk_new2 w (.cells #[.int .i64 op, .int .i64 fm, .int .i64 fi, .int .i64 tm, .int .i64 ti] 31) (.cells #[.int .i64 0, .int .i64 0, .int .i64 0, .int .i64 0, .int .i64 0] 31)
  refine (acheck_bad' op fm fi tm ti _ H.out).mono ?_
  rintro e w1 ⟨rfl, hk⟩
  have hK := (((Only.refl (fun _ => False) w).alloc _).alloc _).then hk (fun _ _ h => h)
  replace hb := hk.at (blk_alloc hb _) (fun h => h)
  replace hz := hk.at hz (fun h => h)
  clear hk H
  have hl := heap_lt hz
  have z0 := blk_cell hz 0
  have z1 := blk_cell hz 1
  have z2 := blk_cell hz 2
  have z3 := blk_cell hz 3
  have z4 := blk_cell hz 4
  have q0 := blk_free hz 0
  have q1 := blk_free hz 1
  have q2 := blk_free hz 2
  have q3 := blk_free hz 3
  have q4 := blk_free hz 4
  have x0 := blk_cell hb 0
  have x1 := blk_cell hb 1
  have x2 := blk_cell hb 2
  have x3 := blk_cell hb 3
  have x4 := blk_cell hb 4
  simp only [List.getElem?_toArray, List.getElem?_cons_zero, List.getElem?_cons_succ] at x0 x1 x2 x3 x4 z0 z1 z2 z3 z4
  go_wp2_with fail
  have hs := (blk_set (blk_set (blk_set (blk_set (blk_set hz 0 (.int .i64 0)) 1 (.int .i64 0)) 2 (.int .i64 0)) 3 (.int .i64 0)) 4 (.int .i64 0))
  have hO : Only (fun _ => False) w (World.setCell (World.setCell (World.setCell (World.setCell (World.setCell w1 ⟨w.heap.size + 1, 0, none⟩ (.int .i64 0)) ⟨w.heap.size + 1, 1, none⟩ (.int .i64 0)) ⟨w.heap.size + 1, 2, none⟩ (.int .i64 0)) ⟨w.heap.size + 1, 3, none⟩ (.int .i64 0)) ⟨w.heap.size + 1, 4, none⟩ (.int .i64 0)) := by
    repeat (first | exact hK | refine Only.setCell ?_ _ _ (by simp))
  generalize (World.setCell (World.setCell (World.setCell (World.setCell (World.setCell w1 ⟨w.heap.size + 1, 0, none⟩ (.int .i64 0)) ⟨w.heap.size + 1, 1, none⟩ (.int .i64 0)) ⟨w.heap.size + 1, 2, none⟩ (.int .i64 0)) ⟨w.heap.size + 1, 3, none⟩ (.int .i64 0)) ⟨w.heap.size + 1, 4, none⟩ (.int .i64 0)) = wz at hs hO ⊢
  clear hz hb hK x0 x1 x2 x3 x4 z0 z1 z2 z3 z4 q0 q1 q2 q3 q4
  have y0 := blk_cell hs 0
  have y1 := blk_cell hs 1
  have y2 := blk_cell hs 2
  have y3 := blk_cell hs 3
  have y4 := blk_cell hs 4
  simp only [List.setIfInBounds_toArray, List.set_cons_zero, List.set_cons_succ, List.getElem?_toArray, List.getElem?_cons_zero, List.getElem?_cons_succ] at y0 y1 y2 y3 y4
  refine bodyPost_ret (v := .tuple #[.agg #[.int .i64 0, .int .i64 0, .int .i64 0, .int .i64 0, .int .i64 0], .int .i64 40]) (by simp [results, Try.results26, go_sem, y0, y1, y2, y3, y4]) rfl ⟨rfl, hO⟩

theorem made_any (op fm fi tm ti : Int) (w : World) :
    Calls Try.prog 26 #[.agg #[.int .i64 op, .int .i64 fm, .int .i64 fi, .int .i64 tm, .int .i64 ti]] w fun e w' => e = .returned (.tuple #[.agg #[.int .i64 (amade op fm fi tm ti).op, .int .i64 (amade op fm fi tm ti).fm, .int .i64 (amade op fm fi tm ti).fi, .int .i64 (amade op fm fi tm ti).tm, .int .i64 (amade op fm fi tm ti).ti], .int .i64 (arC op fm fi tm ti)]) ∧ Only (fun _ => False) w w' := by
  unfold amade arC
  by_cases h : ArpOk op fm fi tm ti
  · rw [if_pos h, if_pos h]; exact made_ok op fm fi tm ti w h
  · rw [if_neg h, if_neg h]; exact made_bad op fm fi tm ti w h

end Go.Proofs.Ythgkdfllddljcaa

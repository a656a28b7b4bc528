/-
  The contracts of package arp (no bytes) and of the reference for layer 4.
  Conditions: numbers are of the kind int.
-/
import Derived.Test.YthgkdfllddljcaaArpC
set_option linter.unusedVariables false
set_option linter.unusedSimpArgs false
namespace Go.Proofs.Ythgkdfllddljcaa
open Go.RowKit


attribute [local irreducible] amade arC
set_option maxHeartbeats 2000000

theorem ask_any (mac ip want : Int) (w : World) :
    Calls Try.prog 12 #[.int .i64 mac, .int .i64 ip, .int .i64 want] w fun e w' => e = .returned (.tuple #[.agg #[.int .i64 (amade 1 mac ip 0 want).op, .int .i64 (amade 1 mac ip 0 want).fm, .int .i64 (amade 1 mac ip 0 want).fi, .int .i64 (amade 1 mac ip 0 want).tm, .int .i64 (amade 1 mac ip 0 want).ti], .int .i64 (arC 1 mac ip 0 want)]) ∧ Only (fun _ => False) w w' := by
  go_enter Try.func12, Try.ntmps12
  go_wp2_with fail
  have hz := blk_new w (.cells #[.int .i64 0, .int .i64 0, .int .i64 0, .int .i64 0, .int .i64 0] 31)
  refine (made_any 1 mac ip 0 want _).mono ?_
  rintro e w1 ⟨rfl, hk⟩
  replace hz := hk.at hz (fun h => h)
  have hK := ((Only.refl (fun _ => False) w).alloc _).then hk (fun _ _ h => h)
  clear hk
  have hl := heap_lt hz
  have z0 := blk_cell hz 0
  have q0 := blk_free hz 0
  have z1 := blk_cell hz 1
  have q1 := blk_free hz 1
  have z2 := blk_cell hz 2
  have q2 := blk_free hz 2
  have z3 := blk_cell hz 3
  have q3 := blk_free hz 3
  have z4 := blk_cell hz 4
  have q4 := blk_free hz 4
  simp only [List.getElem?_toArray, List.getElem?_cons_zero, List.getElem?_cons_succ] at z0 z1 z2 z3 z4
  go_wp2_with fail
  have hs := (blk_set (blk_set (blk_set (blk_set (blk_set hz 0 (.int .i64 (amade 1 mac ip 0 want).op)) 1 (.int .i64 (amade 1 mac ip 0 want).fm)) 2 (.int .i64 (amade 1 mac ip 0 want).fi)) 3 (.int .i64 (amade 1 mac ip 0 want).tm)) 4 (.int .i64 (amade 1 mac ip 0 want).ti))
  have hO : Only (fun _ => False) w (World.setCell (World.setCell (World.setCell (World.setCell (World.setCell w1 ⟨w.heap.size, 0, none⟩ (.int .i64 (amade 1 mac ip 0 want).op)) ⟨w.heap.size, 1, none⟩ (.int .i64 (amade 1 mac ip 0 want).fm)) ⟨w.heap.size, 2, none⟩ (.int .i64 (amade 1 mac ip 0 want).fi)) ⟨w.heap.size, 3, none⟩ (.int .i64 (amade 1 mac ip 0 want).tm)) ⟨w.heap.size, 4, none⟩ (.int .i64 (amade 1 mac ip 0 want).ti)) := by
    repeat (first | exact hK | refine Only.setCell ?_ _ _ (by simp))
  generalize (World.setCell (World.setCell (World.setCell (World.setCell (World.setCell w1 ⟨w.heap.size, 0, none⟩ (.int .i64 (amade 1 mac ip 0 want).op)) ⟨w.heap.size, 1, none⟩ (.int .i64 (amade 1 mac ip 0 want).fm)) ⟨w.heap.size, 2, none⟩ (.int .i64 (amade 1 mac ip 0 want).fi)) ⟨w.heap.size, 3, none⟩ (.int .i64 (amade 1 mac ip 0 want).tm)) ⟨w.heap.size, 4, none⟩ (.int .i64 (amade 1 mac ip 0 want).ti)) = wz at hs hO ⊢
  have y0 := blk_cell hs 0
  have y1 := blk_cell hs 1
  have y2 := blk_cell hs 2
  have y3 := blk_cell hs 3
  have y4 := blk_cell hs 4
  simp only [List.setIfInBounds_toArray, List.set_cons_zero, List.set_cons_succ, List.getElem?_toArray, List.getElem?_cons_zero, List.getElem?_cons_succ] at y0 y1 y2 y3 y4
  clear hs
  refine bodyPost_ret (v := .tuple #[.agg #[.int .i64 (amade 1 mac ip 0 want).op, .int .i64 (amade 1 mac ip 0 want).fm, .int .i64 (amade 1 mac ip 0 want).fi, .int .i64 (amade 1 mac ip 0 want).tm, .int .i64 (amade 1 mac ip 0 want).ti], .int .i64 (arC 1 mac ip 0 want)]) (by simp [results, Try.results12, go_sem, y0, y1, y2, y3, y4]) rfl ⟨rfl, hO⟩

theorem claim_any (mac ip : Int) (w : World) :
    Calls Try.prog 13 #[.int .i64 mac, .int .i64 ip] w fun e w' => e = .returned (.tuple #[.agg #[.int .i64 (amade 1 mac ip 0 ip).op, .int .i64 (amade 1 mac ip 0 ip).fm, .int .i64 (amade 1 mac ip 0 ip).fi, .int .i64 (amade 1 mac ip 0 ip).tm, .int .i64 (amade 1 mac ip 0 ip).ti], .int .i64 (arC 1 mac ip 0 ip)]) ∧ Only (fun _ => False) w w' := by
  go_enter Try.func13, Try.ntmps13
  go_wp2_with fail
  have hz := blk_new w (.cells #[.int .i64 0, .int .i64 0, .int .i64 0, .int .i64 0, .int .i64 0] 31)
  refine (ask_any mac ip ip _).mono ?_
  rintro e w1 ⟨rfl, hk⟩
  replace hz := hk.at hz (fun h => h)
  have hK := ((Only.refl (fun _ => False) w).alloc _).then hk (fun _ _ h => h)
  clear hk
  have hl := heap_lt hz
  have z0 := blk_cell hz 0
  have q0 := blk_free hz 0
  have z1 := blk_cell hz 1
  have q1 := blk_free hz 1
  have z2 := blk_cell hz 2
  have q2 := blk_free hz 2
  have z3 := blk_cell hz 3
  have q3 := blk_free hz 3
  have z4 := blk_cell hz 4
  have q4 := blk_free hz 4
  simp only [List.getElem?_toArray, List.getElem?_cons_zero, List.getElem?_cons_succ] at z0 z1 z2 z3 z4
  go_wp2_with fail
  have hs := (blk_set (blk_set (blk_set (blk_set (blk_set hz 0 (.int .i64 (amade 1 mac ip 0 ip).op)) 1 (.int .i64 (amade 1 mac ip 0 ip).fm)) 2 (.int .i64 (amade 1 mac ip 0 ip).fi)) 3 (.int .i64 (amade 1 mac ip 0 ip).tm)) 4 (.int .i64 (amade 1 mac ip 0 ip).ti))
  have hO : Only (fun _ => False) w (World.setCell (World.setCell (World.setCell (World.setCell (World.setCell w1 ⟨w.heap.size, 0, none⟩ (.int .i64 (amade 1 mac ip 0 ip).op)) ⟨w.heap.size, 1, none⟩ (.int .i64 (amade 1 mac ip 0 ip).fm)) ⟨w.heap.size, 2, none⟩ (.int .i64 (amade 1 mac ip 0 ip).fi)) ⟨w.heap.size, 3, none⟩ (.int .i64 (amade 1 mac ip 0 ip).tm)) ⟨w.heap.size, 4, none⟩ (.int .i64 (amade 1 mac ip 0 ip).ti)) := by
    repeat (first | exact hK | refine Only.setCell ?_ _ _ (by simp))
  generalize (World.setCell (World.setCell (World.setCell (World.setCell (World.setCell w1 ⟨w.heap.size, 0, none⟩ (.int .i64 (amade 1 mac ip 0 ip).op)) ⟨w.heap.size, 1, none⟩ (.int .i64 (amade 1 mac ip 0 ip).fm)) ⟨w.heap.size, 2, none⟩ (.int .i64 (amade 1 mac ip 0 ip).fi)) ⟨w.heap.size, 3, none⟩ (.int .i64 (amade 1 mac ip 0 ip).tm)) ⟨w.heap.size, 4, none⟩ (.int .i64 (amade 1 mac ip 0 ip).ti)) = wz at hs hO ⊢
  have y0 := blk_cell hs 0
  have y1 := blk_cell hs 1
  have y2 := blk_cell hs 2
  have y3 := blk_cell hs 3
  have y4 := blk_cell hs 4
  simp only [List.setIfInBounds_toArray, List.set_cons_zero, List.set_cons_succ, List.getElem?_toArray, List.getElem?_cons_zero, List.getElem?_cons_succ] at y0 y1 y2 y3 y4
  clear hs
  refine bodyPost_ret (v := .tuple #[.agg #[.int .i64 (amade 1 mac ip 0 ip).op, .int .i64 (amade 1 mac ip 0 ip).fm, .int .i64 (amade 1 mac ip 0 ip).fi, .int .i64 (amade 1 mac ip 0 ip).tm, .int .i64 (amade 1 mac ip 0 ip).ti], .int .i64 (arC 1 mac ip 0 ip)]) (by simp [results, Try.results13, go_sem, y0, y1, y2, y3, y4]) rfl ⟨rfl, hO⟩

theorem tell_yes (fm fi tm ti mac : Int) (w : World) (h : ArpOk 1 fm fi tm ti) :
    Calls Try.prog 19 #[.agg #[.int .i64 1, .int .i64 fm, .int .i64 fi, .int .i64 tm, .int .i64 ti], .int .i64 mac] w fun e w' => e = .returned (.tuple #[.agg #[.int .i64 (amade 2 mac ti fm fi).op, .int .i64 (amade 2 mac ti fm fi).fm, .int .i64 (amade 2 mac ti fm fi).fi, .int .i64 (amade 2 mac ti fm fi).tm, .int .i64 (amade 2 mac ti fm fi).ti], .int .i64 (arC 2 mac ti fm fi)]) ∧ Only (fun _ => False) w w' := by
  have H := Lib.hid h
  clear h
  go_enter Try.func19, Try.ntmps19
  go_wp2_with fail
  have hb := blk_new w (.cells #[.int .i64 1, .int .i64 fm, .int .i64 fi, .int .i64 tm, .int .i64 ti] 31)
  have hz := blk_new2 w (.cells #[.int .i64 1, .int .i64 fm, .int .i64 fi, .int .i64 tm, .int .i64 ti] 31) (.cells #[.int .i64 0, .int .i64 0, .int .i64 0, .int .i64 0, .int .i64 0] 31)
  refine (acheck_ok' 1 fm fi tm ti _ H.out).mono ?_
  rintro e w1 ⟨rfl, hk⟩
  replace hb := hk.at (blk_alloc hb _) (fun h => h)
  replace hz := hk.at hz (fun h => h)
  have hK := (((Only.refl (fun _ => False) w).alloc _).alloc _).then hk (fun _ _ h => h)
  clear hk
  have x0 := blk_cell hb 0
  have x1 := blk_cell hb 1
  have x2 := blk_cell hb 2
  have x3 := blk_cell hb 3
  have x4 := blk_cell hb 4
  simp only [List.getElem?_toArray, List.getElem?_cons_zero, List.getElem?_cons_succ] at x0 x1 x2 x3 x4
  clear hb
  go_wp2_with fail
  refine (made_any 2 mac ti fm fi _).mono ?_
  rintro e w2 ⟨rfl, hk⟩
  replace hz := hk.at hz (fun h => h)
  replace hK := hK.trans hk
  clear hk x0 x1 x2 x3 x4
  have hl := heap_lt hz
  have z0 := blk_cell hz 0
  have q0 := blk_free hz 0
  have z1 := blk_cell hz 1
  have q1 := blk_free hz 1
  have z2 := blk_cell hz 2
  have q2 := blk_free hz 2
  have z3 := blk_cell hz 3
  have q3 := blk_free hz 3
  have z4 := blk_cell hz 4
  have q4 := blk_free hz 4
  simp only [List.getElem?_toArray, List.getElem?_cons_zero, List.getElem?_cons_succ] at z0 z1 z2 z3 z4
  go_wp2_with fail
  have hs := (blk_set (blk_set (blk_set (blk_set (blk_set hz 0 (.int .i64 (amade 2 mac ti fm fi).op)) 1 (.int .i64 (amade 2 mac ti fm fi).fm)) 2 (.int .i64 (amade 2 mac ti fm fi).fi)) 3 (.int .i64 (amade 2 mac ti fm fi).tm)) 4 (.int .i64 (amade 2 mac ti fm fi).ti))
  have hO : Only (fun _ => False) w (World.setCell (World.setCell (World.setCell (World.setCell (World.setCell w2 ⟨w.heap.size + 1, 0, none⟩ (.int .i64 (amade 2 mac ti fm fi).op)) ⟨w.heap.size + 1, 1, none⟩ (.int .i64 (amade 2 mac ti fm fi).fm)) ⟨w.heap.size + 1, 2, none⟩ (.int .i64 (amade 2 mac ti fm fi).fi)) ⟨w.heap.size + 1, 3, none⟩ (.int .i64 (amade 2 mac ti fm fi).tm)) ⟨w.heap.size + 1, 4, none⟩ (.int .i64 (amade 2 mac ti fm fi).ti)) := by
    repeat (first | exact hK | refine Only.setCell ?_ _ _ (by simp))
  generalize (World.setCell (World.setCell (World.setCell (World.setCell (World.setCell w2 ⟨w.heap.size + 1, 0, none⟩ (.int .i64 (amade 2 mac ti fm fi).op)) ⟨w.heap.size + 1, 1, none⟩ (.int .i64 (amade 2 mac ti fm fi).fm)) ⟨w.heap.size + 1, 2, none⟩ (.int .i64 (amade 2 mac ti fm fi).fi)) ⟨w.heap.size + 1, 3, none⟩ (.int .i64 (amade 2 mac ti fm fi).tm)) ⟨w.heap.size + 1, 4, none⟩ (.int .i64 (amade 2 mac ti fm fi).ti)) = wz at hs hO ⊢
  have y0 := blk_cell hs 0
  have y1 := blk_cell hs 1
  have y2 := blk_cell hs 2
  have y3 := blk_cell hs 3
  have y4 := blk_cell hs 4
  simp only [List.setIfInBounds_toArray, List.set_cons_zero, List.set_cons_succ, List.getElem?_toArray, List.getElem?_cons_zero, List.getElem?_cons_succ] at y0 y1 y2 y3 y4
  clear hs
  refine bodyPost_ret (v := .tuple #[.agg #[.int .i64 (amade 2 mac ti fm fi).op, .int .i64 (amade 2 mac ti fm fi).fm, .int .i64 (amade 2 mac ti fm fi).fi, .int .i64 (amade 2 mac ti fm fi).tm, .int .i64 (amade 2 mac ti fm fi).ti], .int .i64 (arC 2 mac ti fm fi)]) (by simp [results, Try.results19, go_sem, y0, y1, y2, y3, y4]) rfl ⟨rfl, hO⟩

theorem tell_other (op fm fi tm ti mac : Int) (w : World) (h : ArpOk op fm fi tm ti) (ho : ¬ op = 1) :
    Calls Try.prog 19 #[.agg #[.int .i64 op, .int .i64 fm, .int .i64 fi, .int .i64 tm, .int .i64 ti], .int .i64 mac] w fun e w' => e = .returned (.tuple #[.agg #[.int .i64 0, .int .i64 0, .int .i64 0, .int .i64 0, .int .i64 0], .int .i64 40]) ∧ Only (fun _ => False) w w' := by
  have H := Lib.hid h
  clear h
  go_enter Try.func19, Try.ntmps19
  go_wp2_with fail
  have hb := blk_new w (.cells #[.int .i64 op, .int .i64 fm, .int .i64 fi, .int .i64 tm, .int .i64 ti] 31)
  have hz := blk_new2 w (.cells #[.int .i64 op, .int .i64 fm, .int .i64 fi, .int .i64 tm, .int .i64 ti] 31) (.cells #[.int .i64 0, .int .i64 0, .int .i64 0, .int .i64 0, .int .i64 0] 31)
  refine (acheck_ok' op fm fi tm ti _ H.out).mono ?_
  rintro e w1 ⟨rfl, hk⟩
  replace hb := hk.at (blk_alloc hb _) (fun h => h)
  replace hz := hk.at hz (fun h => h)
  have hK := (((Only.refl (fun _ => False) w).alloc _).alloc _).then hk (fun _ _ h => h)
  clear hk
  have x0 := blk_cell hb 0
  have x1 := blk_cell hb 1
  have x2 := blk_cell hb 2
  have x3 := blk_cell hb 3
  have x4 := blk_cell hb 4
  simp only [List.getElem?_toArray, List.getElem?_cons_zero, List.getElem?_cons_succ] at x0 x1 x2 x3 x4
  clear hb
  have hl := heap_lt hz
  have z0 := blk_cell hz 0
  have q0 := blk_free hz 0
  have z1 := blk_cell hz 1
  have q1 := blk_free hz 1
  have z2 := blk_cell hz 2
  have q2 := blk_free hz 2
  have z3 := blk_cell hz 3
  have q3 := blk_free hz 3
  have z4 := blk_cell hz 4
  have q4 := blk_free hz 4
  simp only [List.getElem?_toArray, List.getElem?_cons_zero, List.getElem?_cons_succ] at z0 z1 z2 z3 z4
  go_wp2_with fail
  have hs := (blk_set (blk_set (blk_set (blk_set (blk_set hz 0 (.int .i64 0)) 1 (.int .i64 0)) 2 (.int .i64 0)) 3 (.int .i64 0)) 4 (.int .i64 0))
  have hO : Only (fun _ => False) w (World.setCell (World.setCell (World.setCell (World.setCell (World.setCell w1 ⟨w.heap.size + 1, 0, none⟩ (.int .i64 0)) ⟨w.heap.size + 1, 1, none⟩ (.int .i64 0)) ⟨w.heap.size + 1, 2, none⟩ (.int .i64 0)) ⟨w.heap.size + 1, 3, none⟩ (.int .i64 0)) ⟨w.heap.size + 1, 4, none⟩ (.int .i64 0)) := by
    repeat (first | exact hK | refine Only.setCell ?_ _ _ (by simp))
  generalize (World.setCell (World.setCell (World.setCell (World.setCell (World.setCell w1 ⟨w.heap.size + 1, 0, none⟩ (.int .i64 0)) ⟨w.heap.size + 1, 1, none⟩ (.int .i64 0)) ⟨w.heap.size + 1, 2, none⟩ (.int .i64 0)) ⟨w.heap.size + 1, 3, none⟩ (.int .i64 0)) ⟨w.heap.size + 1, 4, none⟩ (.int .i64 0)) = wz at hs hO ⊢
  have y0 := blk_cell hs 0
  have y1 := blk_cell hs 1
  have y2 := blk_cell hs 2
  have y3 := blk_cell hs 3
  have y4 := blk_cell hs 4
  simp only [List.setIfInBounds_toArray, List.set_cons_zero, List.set_cons_succ, List.getElem?_toArray, List.getElem?_cons_zero, List.getElem?_cons_succ] at y0 y1 y2 y3 y4
  clear hs
  refine bodyPost_ret (v := .tuple #[.agg #[.int .i64 0, .int .i64 0, .int .i64 0, .int .i64 0, .int .i64 0], .int .i64 (40)]) (by simp [results, Try.results19, go_sem, y0, y1, y2, y3, y4]) rfl ⟨rfl, hO⟩

theorem tell_bad (op fm fi tm ti mac : Int) (w : World) (h : ¬ ArpOk op fm fi tm ti) :
    Calls Try.prog 19 #[.agg #[.int .i64 op, .int .i64 fm, .int .i64 fi, .int .i64 tm, .int .i64 ti], .int .i64 mac] w fun e w' => e = .returned (.tuple #[.agg #[.int .i64 0, .int .i64 0, .int .i64 0, .int .i64 0, .int .i64 0], .int .i64 40]) ∧ Only (fun _ => False) w w' := by
  have H := Lib.hid h
  clear h
  go_enter Try.func19, Try.ntmps19
  go_wp2_with fail
  have hb := blk_new w (.cells #[.int .i64 op, .int .i64 fm, .int .i64 fi, .int .i64 tm, .int .i64 ti] 31)
  have hz := blk_new2 w (.cells #[.int .i64 op, .int .i64 fm, .int .i64 fi, .int .i64 tm, .int .i64 ti] 31) (.cells #[.int .i64 0, .int .i64 0, .int .i64 0, .int .i64 0, .int .i64 0] 31)
  refine (acheck_bad' op fm fi tm ti _ H.out).mono ?_
  rintro e w1 ⟨rfl, hk⟩
  replace hb := hk.at (blk_alloc hb _) (fun h => h)
  replace hz := hk.at hz (fun h => h)
  have hK := (((Only.refl (fun _ => False) w).alloc _).alloc _).then hk (fun _ _ h => h)
  clear hk
  have x0 := blk_cell hb 0
  have x1 := blk_cell hb 1
  have x2 := blk_cell hb 2
  have x3 := blk_cell hb 3
  have x4 := blk_cell hb 4
  simp only [List.getElem?_toArray, List.getElem?_cons_zero, List.getElem?_cons_succ] at x0 x1 x2 x3 x4
  clear hb x0 x1 x2 x3 x4
  have hl := heap_lt hz
  have z0 := blk_cell hz 0
  have q0 := blk_free hz 0
  have z1 := blk_cell hz 1
  have q1 := blk_free hz 1
  have z2 := blk_cell hz 2
  have q2 := blk_free hz 2
  have z3 := blk_cell hz 3
  have q3 := blk_free hz 3
  have z4 := blk_cell hz 4
  have q4 := blk_free hz 4
  simp only [List.getElem?_toArray, List.getElem?_cons_zero, List.getElem?_cons_succ] at z0 z1 z2 z3 z4
  go_wp2_with fail
  have hs := (blk_set (blk_set (blk_set (blk_set (blk_set hz 0 (.int .i64 0)) 1 (.int .i64 0)) 2 (.int .i64 0)) 3 (.int .i64 0)) 4 (.int .i64 0))
  have hO : Only (fun _ => False) w (World.setCell (World.setCell (World.setCell (World.setCell (World.setCell w1 ⟨w.heap.size + 1, 0, none⟩ (.int .i64 0)) ⟨w.heap.size + 1, 1, none⟩ (.int .i64 0)) ⟨w.heap.size + 1, 2, none⟩ (.int .i64 0)) ⟨w.heap.size + 1, 3, none⟩ (.int .i64 0)) ⟨w.heap.size + 1, 4, none⟩ (.int .i64 0)) := by
    repeat (first | exact hK | refine Only.setCell ?_ _ _ (by simp))
  generalize (World.setCell (World.setCell (World.setCell (World.setCell (World.setCell w1 ⟨w.heap.size + 1, 0, none⟩ (.int .i64 0)) ⟨w.heap.size + 1, 1, none⟩ (.int .i64 0)) ⟨w.heap.size + 1, 2, none⟩ (.int .i64 0)) ⟨w.heap.size + 1, 3, none⟩ (.int .i64 0)) ⟨w.heap.size + 1, 4, none⟩ (.int .i64 0)) = wz at hs hO ⊢
  have y0 := blk_cell hs 0
  have y1 := blk_cell hs 1
  have y2 := blk_cell hs 2
  have y3 := blk_cell hs 3
  have y4 := blk_cell hs 4
  simp only [List.setIfInBounds_toArray, List.set_cons_zero, List.set_cons_succ, List.getElem?_toArray, List.getElem?_cons_zero, List.getElem?_cons_succ] at y0 y1 y2 y3 y4
  clear hs
  refine bodyPost_ret (v := .tuple #[.agg #[.int .i64 0, .int .i64 0, .int .i64 0, .int .i64 0, .int .i64 0], .int .i64 (40)]) (by simp [results, Try.results19, go_sem, y0, y1, y2, y3, y4]) rfl ⟨rfl, hO⟩

theorem tell_any (op fm fi tm ti mac : Int) (w : World) :
    Calls Try.prog 19 #[.agg #[.int .i64 op, .int .i64 fm, .int .i64 fi, .int .i64 tm, .int .i64 ti], .int .i64 mac] w fun e w' => e = .returned (.tuple #[.agg #[.int .i64 (atold op fm fi tm ti mac).op, .int .i64 (atold op fm fi tm ti mac).fm, .int .i64 (atold op fm fi tm ti mac).fi, .int .i64 (atold op fm fi tm ti mac).tm, .int .i64 (atold op fm fi tm ti mac).ti], .int .i64 (atolC op fm fi tm ti mac)]) ∧ Only (fun _ => False) w w' := by
  unfold atold atolC
  by_cases h : ArpOk op fm fi tm ti
  · by_cases ho : op = 1
    · subst ho
      rw [if_pos ⟨h, rfl⟩, if_pos ⟨h, rfl⟩]; exact tell_yes fm fi tm ti mac w h
    · rw [if_neg (fun x => ho x.2), if_neg (fun x => ho x.2)]; exact tell_other op fm fi tm ti mac w h ho
  · rw [if_neg (fun x => h x.1), if_neg (fun x => h x.1)]; exact tell_bad op fm fi tm ti mac w h

end Go.Proofs.Ythgkdfllddljcaa

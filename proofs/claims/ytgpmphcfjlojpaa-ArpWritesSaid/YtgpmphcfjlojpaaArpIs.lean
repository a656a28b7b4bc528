/-
  The contracts of package arp (no bytes) and of the reference for layer 4.
  Conditions: numbers are of the kind int.
-/
import Derived.Test.YtgpmphcfjlojpaaArpTold
set_option linter.unusedVariables false
set_option linter.unusedSimpArgs false
namespace Go.Proofs.Ytgpmphcfjlojpaa
open Go.RowKit

set_option maxHeartbeats 1000000

theorem isclaim_yes (op fm fi tm : Int) (w : World) (h : ArpOk op fm fi tm fi) :
    Calls Try.prog 16 #[.agg #[.int .i64 op, .int .i64 fm, .int .i64 fi, .int .i64 tm, .int .i64 fi]] w fun e w' => e = .returned (.bool true) ∧ Only (fun _ => False) w w' := by
  have H := Lib.hid h
  clear h
  go_enter Try.func16, Try.ntmps16
  go_wp2_with fail
  refine (acheck_ok' op fm fi tm fi _ H.out).mono ?_
  rintro e w1 ⟨rfl, hk⟩
  have hK := (((Only.refl (fun _ => False) w).alloc (.cells #[.int .i64 op, .int .i64 fm, .int .i64 fi, .int .i64 tm, .int .i64 fi] 23)).alloc (.cells #[.int .i64 op, .int .i64 fm, .int .i64 fi, .int .i64 tm, .int .i64 fi] 23)).then hk (fun _ _ h => h)
  have hb := hk.at (blk_alloc (blk_new w (.cells #[.int .i64 op, .int .i64 fm, .int .i64 fi, .int .i64 tm, .int .i64 fi] 23)) (.cells #[.int .i64 op, .int .i64 fm, .int .i64 fi, .int .i64 tm, .int .i64 fi] 23)) (fun h => h)
  have hz := hk.at (blk_new2 w (.cells #[.int .i64 op, .int .i64 fm, .int .i64 fi, .int .i64 tm, .int .i64 fi] 23) (.cells #[.int .i64 op, .int .i64 fm, .int .i64 fi, .int .i64 tm, .int .i64 fi] 23)) (fun h => h)
  clear hk
  have x0 := blk_cell hb 0
  have x1 := blk_cell hb 1
  have x2 := blk_cell hb 2
  have x3 := blk_cell hb 3
  have x4 := blk_cell hb 4
  have z0 := blk_cell hz 0
  have z1 := blk_cell hz 1
  have z2 := blk_cell hz 2
  have z3 := blk_cell hz 3
  have z4 := blk_cell hz 4
  simp only [List.setIfInBounds_toArray, List.set_cons_zero, List.set_cons_succ, List.getElem?_toArray, List.getElem?_cons_zero, List.getElem?_cons_succ] at x0 x1 x2 x3 x4 z0 z1 z2 z3 z4
  go_wp2_with fail
  go_ret
  exact ⟨rfl, hK⟩

theorem isclaim_no (op fm fi tm ti : Int) (w : World) (h : ArpOk op fm fi tm ti) (hne : ¬ fi = ti) :
    Calls Try.prog 16 #[.agg #[.int .i64 op, .int .i64 fm, .int .i64 fi, .int .i64 tm, .int .i64 ti]] w fun e w' => e = .returned (.bool false) ∧ Only (fun _ => False) w w' := by
  have H := Lib.hid h
  clear h
  go_enter Try.func16, Try.ntmps16
  go_wp2_with fail
  refine (acheck_ok' op fm fi tm ti _ H.out).mono ?_
  rintro e w1 ⟨rfl, hk⟩
  have hK := (((Only.refl (fun _ => False) w).alloc (.cells #[.int .i64 op, .int .i64 fm, .int .i64 fi, .int .i64 tm, .int .i64 ti] 23)).alloc (.cells #[.int .i64 op, .int .i64 fm, .int .i64 ti, .int .i64 tm, .int .i64 ti] 23)).then hk (fun _ _ h => h)
  have hb := hk.at (blk_alloc (blk_new w (.cells #[.int .i64 op, .int .i64 fm, .int .i64 fi, .int .i64 tm, .int .i64 ti] 23)) (.cells #[.int .i64 op, .int .i64 fm, .int .i64 ti, .int .i64 tm, .int .i64 ti] 23)) (fun h => h)
  have hz := hk.at (blk_new2 w (.cells #[.int .i64 op, .int .i64 fm, .int .i64 fi, .int .i64 tm, .int .i64 ti] 23) (.cells #[.int .i64 op, .int .i64 fm, .int .i64 ti, .int .i64 tm, .int .i64 ti] 23)) (fun h => h)
  clear hk
  have x0 := blk_cell hb 0
  have x1 := blk_cell hb 1
  have x2 := blk_cell hb 2
  have x3 := blk_cell hb 3
  have x4 := blk_cell hb 4
  have z0 := blk_cell hz 0
  have z1 := blk_cell hz 1
  have z2 := blk_cell hz 2
  have z3 := blk_cell hz 3
  have z4 := blk_cell hz 4
  simp only [List.setIfInBounds_toArray, List.set_cons_zero, List.set_cons_succ, List.getElem?_toArray, List.getElem?_cons_zero, List.getElem?_cons_succ] at x0 x1 x2 x3 x4 z0 z1 z2 z3 z4
  go_wp2_with fail
  go_ret
  exact ⟨rfl, hK⟩

theorem isclaim_bad (op fm fi tm ti : Int) (w : World) (h : ¬ ArpOk op fm fi tm ti) :
    Calls Try.prog 16 #[.agg #[.int .i64 op, .int .i64 fm, .int .i64 fi, .int .i64 tm, .int .i64 ti]] w fun e w' => e = .returned (.bool false) ∧ Only (fun _ => False) w w' := by
  have H := Lib.hid h
  clear h
  go_enter Try.func16, Try.ntmps16
  go_wp2_with fail
  refine (acheck_bad' op fm fi tm ti _ H.out).mono ?_
  rintro e w1 ⟨rfl, hk⟩
  have hK := (((Only.refl (fun _ => False) w).alloc (.cells #[.int .i64 op, .int .i64 fm, .int .i64 fi, .int .i64 tm, .int .i64 ti] 23)).alloc (.cells #[.int .i64 op, .int .i64 fm, .int .i64 ti, .int .i64 tm, .int .i64 ti] 23)).then hk (fun _ _ h => h)
  have hb := hk.at (blk_alloc (blk_new w (.cells #[.int .i64 op, .int .i64 fm, .int .i64 fi, .int .i64 tm, .int .i64 ti] 23)) (.cells #[.int .i64 op, .int .i64 fm, .int .i64 ti, .int .i64 tm, .int .i64 ti] 23)) (fun h => h)
  have hz := hk.at (blk_new2 w (.cells #[.int .i64 op, .int .i64 fm, .int .i64 fi, .int .i64 tm, .int .i64 ti] 23) (.cells #[.int .i64 op, .int .i64 fm, .int .i64 ti, .int .i64 tm, .int .i64 ti] 23)) (fun h => h)
  clear hk
  go_wp2_with fail
  go_ret
  exact ⟨rfl, hK⟩

theorem isclaim_any (op fm fi tm ti : Int) (w : World) :
    Calls Try.prog 16 #[.agg #[.int .i64 op, .int .i64 fm, .int .i64 fi, .int .i64 tm, .int .i64 ti]] w fun e w' => e = .returned (.bool (aclaB op fm fi tm ti)) ∧ Only (fun _ => False) w w' := by
  unfold aclaB
  by_cases h : ArpOk op fm fi tm ti
  · by_cases ho : fi = ti
    · subst ho
      rw [if_pos ⟨h, rfl⟩]; exact isclaim_yes op fm fi tm w h
    · rw [if_neg (fun x => ho x.2)]; exact isclaim_no op fm fi tm ti w h ho
  · rw [if_neg (fun x => h x.1)]; exact isclaim_bad op fm fi tm ti w h

theorem risclaim_yes (op fm fi tm : Int) (w : World) (h : ArpOk op fm fi tm fi) :
    Calls Try.prog 21 #[.agg #[.int .i64 op, .int .i64 fm, .int .i64 fi, .int .i64 tm, .int .i64 fi]] w fun e w' => e = .returned (.bool true) ∧ Only (fun _ => False) w w' := by
  have H := Lib.hid h
  clear h
  go_enter Try.func21, Try.ntmps21
  go_wp2_with fail
  refine (rcheck_ok' op fm fi tm fi _ H.out).mono ?_
  rintro e w1 ⟨rfl, hk⟩
  have hK := ((Only.refl (fun _ => False) w).alloc (.cells #[.int .i64 op, .int .i64 fm, .int .i64 fi, .int .i64 tm, .int .i64 fi] 23)).then hk (fun _ _ h => h)
  have hb := hk.at (blk_new w (.cells #[.int .i64 op, .int .i64 fm, .int .i64 fi, .int .i64 tm, .int .i64 fi] 23)) (fun h => h)
  clear hk
  have x0 := blk_cell hb 0
  have x1 := blk_cell hb 1
  have x2 := blk_cell hb 2
  have x3 := blk_cell hb 3
  have x4 := blk_cell hb 4
  simp only [List.setIfInBounds_toArray, List.set_cons_zero, List.set_cons_succ, List.getElem?_toArray, List.getElem?_cons_zero, List.getElem?_cons_succ] at x0 x1 x2 x3 x4
  go_wp2_with fail
  go_ret
  exact ⟨rfl, hK⟩

theorem risclaim_no (op fm fi tm ti : Int) (w : World) (h : ArpOk op fm fi tm ti) (hne : ¬ fi = ti) :
    Calls Try.prog 21 #[.agg #[.int .i64 op, .int .i64 fm, .int .i64 fi, .int .i64 tm, .int .i64 ti]] w fun e w' => e = .returned (.bool false) ∧ Only (fun _ => False) w w' := by
  have H := Lib.hid h
  clear h
  have hne' : (fi == ti) = false := by simpa using hne
  go_enter Try.func21, Try.ntmps21
  go_wp2_with fail
  refine (rcheck_ok' op fm fi tm ti _ H.out).mono ?_
  rintro e w1 ⟨rfl, hk⟩
  have hK := ((Only.refl (fun _ => False) w).alloc (.cells #[.int .i64 op, .int .i64 fm, .int .i64 fi, .int .i64 tm, .int .i64 ti] 23)).then hk (fun _ _ h => h)
  have hb := hk.at (blk_new w (.cells #[.int .i64 op, .int .i64 fm, .int .i64 fi, .int .i64 tm, .int .i64 ti] 23)) (fun h => h)
  clear hk
  have x0 := blk_cell hb 0
  have x1 := blk_cell hb 1
  have x2 := blk_cell hb 2
  have x3 := blk_cell hb 3
  have x4 := blk_cell hb 4
  simp only [List.setIfInBounds_toArray, List.set_cons_zero, List.set_cons_succ, List.getElem?_toArray, List.getElem?_cons_zero, List.getElem?_cons_succ] at x0 x1 x2 x3 x4
  go_wp2_with fail
  go_ret
  exact ⟨rfl, hK⟩

theorem risclaim_bad (op fm fi tm ti : Int) (w : World) (h : ¬ ArpOk op fm fi tm ti) :
    Calls Try.prog 21 #[.agg #[.int .i64 op, .int .i64 fm, .int .i64 fi, .int .i64 tm, .int .i64 ti]] w fun e w' => e = .returned (.bool false) ∧ Only (fun _ => False) w w' := by
  have H := Lib.hid h
  clear h
  go_enter Try.func21, Try.ntmps21
  go_wp2_with fail
  refine (rcheck_bad' op fm fi tm ti _ H.out).mono ?_
  rintro e w1 ⟨rfl, hk⟩
  have hK := ((Only.refl (fun _ => False) w).alloc (.cells #[.int .i64 op, .int .i64 fm, .int .i64 fi, .int .i64 tm, .int .i64 ti] 23)).then hk (fun _ _ h => h)
  have hb := hk.at (blk_new w (.cells #[.int .i64 op, .int .i64 fm, .int .i64 fi, .int .i64 tm, .int .i64 ti] 23)) (fun h => h)
  clear hk
  go_wp2_with fail
  go_ret
  exact ⟨rfl, hK⟩

theorem risclaim_any (op fm fi tm ti : Int) (w : World) :
    Calls Try.prog 21 #[.agg #[.int .i64 op, .int .i64 fm, .int .i64 fi, .int .i64 tm, .int .i64 ti]] w fun e w' => e = .returned (.bool (aclaB op fm fi tm ti)) ∧ Only (fun _ => False) w w' := by
  unfold aclaB
  by_cases h : ArpOk op fm fi tm ti
  · by_cases ho : fi = ti
    · subst ho
      rw [if_pos ⟨h, rfl⟩]; exact risclaim_yes op fm fi tm w h
    · rw [if_neg (fun x => ho x.2)]; exact risclaim_no op fm fi tm ti w h ho
  · rw [if_neg (fun x => h x.1)]; exact risclaim_bad op fm fi tm ti w h

end Go.Proofs.Ytgpmphcfjlojpaa

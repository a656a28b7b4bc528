/-
  The contracts of Acked and Same of package cong.
  Conditions: numbers are of the kind int, the valve's own in their bounds.
-/
import Derived.Test.YtdijimjcoollcaaCong
import Derived.StillTailTactics
set_option linter.unusedVariables false
set_option linter.unusedSimpArgs false
namespace Go.Proofs.Ytdijimjcoollcaa
open Go.RowKit
attribute [local go_sem] max_ii min_ii and_mask32

def VS.acked (s : VS) (n0 up : Int) : VS :=
  if s.me then (if aheadB (up % 4294967296) s.up then s.part (cnt n0) else s.mendEnd)
  else if s.wi < s.th then { s with sa := 0, wi := s.bound (s.wi + mn (cnt n0) s.m) }
  else if s.wi ≤ s.ga + cnt n0 then { s with sa := 0, ga := s.ga + cnt n0 - s.wi, wi := s.bound (s.wi + s.m) }
  else { s with sa := 0, ga := s.ga + cnt n0 }
def VS.again (s : VS) (up : Int) : Bool := s.me && aheadB (up % 4294967296) s.up

def VS.same (s : VS) (f next : Int) : VS :=
  if s.me then { s with sa := mn 1048576 (s.sa + 1), wi := s.bound (s.wi + s.m) }
  else if mn 1048576 (s.sa + 1) = 3 then { s with sa := mn 1048576 (s.sa + 1), th := mx (cnt f / 2) (2 * s.m), wi := s.bound (mx (cnt f / 2) (2 * s.m) + 3 * s.m), me := true, up := next % 4294967296 }
  else { s with sa := mn 1048576 (s.sa + 1) }
def VS.third (s : VS) : Bool := !s.me && decide (mn 1048576 (s.sa + 1) = 3)

theorem acked_mends (s : VS) (c g : Nat) (n up : Int) (w : World) (h : ValveAt w c g s) (ho : VOk s) (hm : s.me = true) : Calls Try.prog 10 #[.pointer (some ⟨g, 0, none⟩), .int .i64 n, .int .i64 up] w fun e w' => e = .returned (.bool (s.again up)) ∧ ValveAt w' c g (s.acked n up) ∧ Only (fun k => k = g) w w' := by
  obtain ⟨x0, x1, x2, x3, x4, x5, x6, x7⟩ := h.cells
  rw [hm] at x5
  have H := Lib.hid h
  have HM := Lib.hid hm
  clear h hm
  have hc := Lib.hid (cnt_bounds n)
  cases ha : aheadB (up % 4294967296) s.up with
  | true =>
    have HA := Lib.hid ha
    clear ha
    go_enter Try.func10, Try.ntmps10
    go_wp2_with fail
    refine (count_cnt n _).mono ?_
    rintro e _ ⟨rfl, rfl⟩
    go_wp2_with fail
    refine (mend_on s c g _ up _ H.out ho hc.out HA.out).mono ?_
    rintro e w2 ⟨rfl, h2, hk2⟩
    go_wp2_with fail
    go_ret
    exact ⟨by unfold VS.again; rw [HM.out, HA.out]; rfl, by unfold VS.acked; rw [if_pos HM.out, if_pos HA.out]; exact h2, hk2⟩
  | false =>
    have HA := Lib.hid ha
    clear ha
    go_enter Try.func10, Try.ntmps10
    go_wp2_with fail
    refine (count_cnt n _).mono ?_
    rintro e _ ⟨rfl, rfl⟩
    go_wp2_with fail
    refine (mend_end s c g _ up _ H.out ho hc.out HA.out).mono ?_
    rintro e w2 ⟨rfl, h2, hk2⟩
    go_wp2_with fail
    go_ret
    exact ⟨by unfold VS.again; rw [HM.out, HA.out]; rfl, by unfold VS.acked; rw [if_pos HM.out, if_neg (by rw [HA.out]; decide)]; exact h2, hk2⟩

set_option maxHeartbeats 1000000 in
theorem acked_runs (s : VS) (c g : Nat) (n up : Int) (w : World) (h : ValveAt w c g s) (ho : VOk s) (hm : s.me = false) (hg : s.ga ≤ 1152921504606846976) : Calls Try.prog 10 #[.pointer (some ⟨g, 0, none⟩), .int .i64 n, .int .i64 up] w fun e w' => e = .returned (.bool (s.again up)) ∧ ValveAt w' c g (s.acked n up) ∧ Only (fun k => k = g) w w' := by
  obtain ⟨x0, x1, x2, x3, x4, x5, x6, x7⟩ := h.cells
  rw [hm] at x5
  have f1 := h.free 1
  have f3 := h.free 3
  have f4 := h.free 4
  have H := Lib.hid h
  have HM := Lib.hid hm
  clear h hm
  obtain ⟨hc0, hc1⟩ := cnt_bounds n
  have hm1 := ho.m1
  have hm2 := ho.m2
  have hw1 := ho.w1
  have hw2 := ho.w2
  have hg1 := ho.g1
  clear ho
  have ea : s.again up = false := by unfold VS.again; rw [HM.out]; rfl
  rw [ea]
  clear ea
  go_enter Try.func10, Try.ntmps10
  go_wp2_with fail
  refine (count_cnt n _).mono ?_
  rintro e _ ⟨rfl, rfl⟩
  have hmin : 0 ≤ mn (cnt n) s.m ∧ mn (cnt n) s.m ≤ 1460 := by unfold mn; omega
  obtain ⟨hi0, hi1⟩ := hmin
  go_wp2_with fail
  have hO := Only.refl (fun k => k = g) w
  clear x0 x1 x2 x3 x4 x5 x6 x7 f1 f3 f4
  have hs : ValveAt (w.setCell ⟨g, 3, none⟩ (.int .i64 0)) c g _ := H.out.put 3 (.int .i64 0) { s with sa := 0 } rfl rfl
  replace hO : Only (fun k => k = g) w (w.setCell ⟨g, 3, none⟩ (.int .i64 0)) := hO.setCell ⟨g, 3, none⟩ (.int .i64 0) (fun _ => rfl)
  generalize w.setCell ⟨g, 3, none⟩ (.int .i64 0) = w1 at hs hO ⊢
  obtain ⟨x0, x1, x2, x3, x4, x5, x6, x7⟩ := hs.cells
  simp only at x0 x1 x2 x3 x4 x5 x6 x7
  have f1 := hs.free 1
  have f4 := hs.free 4
  have HC := Lib.hid hs.1
  replace hs := Lib.hid hs
  by_cases hwt : s.wi < s.th
  · go_quiet (fail)
    go_wp2_with fail
    refine wp_region_still_tail 17 (by kernel_rfl) (by kernel_rfl) ?_
    simp only [List.take_succ_cons, List.take_zero, List.drop_succ_cons, List.drop_zero]
    change wpStill _ _ ((w1.drewN nq).drew) (fun a' => wpList _ _ _ _ _ ((w1.drewN nq).drew)) _ _
    clear x0 x1 x2 x3 x4 x5 x6 x7 HC f1 f4
    have hs2 : ValveAt ((w1.drewN nq).drew) c g _ := hs.out
    replace hO : Only (fun k => k = g) w ((w1.drewN nq).drew) := (hO.drewN _).drew
    generalize (w1.drewN nq).drew = w2 at hs2 hO ⊢
    obtain ⟨x0, x1, x2, x3, x4, x5, x6, x7⟩ := hs2.cells
    simp only at x0 x1 x2 x3 x4 x5 x6 x7
    have f1 := hs2.free 1
    have HC := Lib.hid hs2.1
    replace hs2 := Lib.hid hs2
    repeat still_step
    still_call (bound_any _ s.m c _ (by exact HC.out)).mono fun e w' h => ⟨h.1, h.2.symm⟩
    repeat still_step
    refine wpStill_nil ?_
    go_wp2_with fail
    go_ret
    refine ⟨rfl, ?_, hO.setCell _ _ (fun _ => rfl)⟩
    unfold VS.acked
    rw [if_neg (by rw [HM.out]; decide), if_pos hwt]
    exact hs2.out.put 1 _ _ rfl rfl
  · go_quiet (fail)
    go_wp2_with fail
    clear x0 x1 x2 x3 x4 x5 x6 x7 HC f1 f4
    have hs2 : ValveAt ((w1.drewN nq).setCell ⟨g, 4, none⟩ (.int .i64 (s.ga + cnt n))) c g _ := hs.out.put 4 (.int .i64 (s.ga + cnt n)) { s with sa := 0, ga := s.ga + cnt n } rfl rfl
    replace hO : Only (fun k => k = g) w ((w1.drewN nq).setCell ⟨g, 4, none⟩ (.int .i64 (s.ga + cnt n))) := (hO.drewN _).setCell ⟨g, 4, none⟩ _ (fun _ => rfl)
    generalize (w1.drewN nq).setCell ⟨g, 4, none⟩ (.int .i64 (s.ga + cnt n)) = w2 at hs2 hO ⊢
    obtain ⟨x0, x1, x2, x3, x4, x5, x6, x7⟩ := hs2.cells
    simp only at x0 x1 x2 x3 x4 x5 x6 x7
    have f1 := hs2.free 1
    have f4 := hs2.free 4
    have HC := Lib.hid hs2.1
    replace hs2 := Lib.hid hs2
    by_cases hgw : s.wi ≤ s.ga + cnt n
    · go_quiet (fail)
      go_wp2_with fail
      refine wp_region_still_tail 9 (by kernel_rfl) (by kernel_rfl) ?_
      simp only [List.take_succ_cons, List.take_zero, List.drop_succ_cons, List.drop_zero]
      change wpStill _ _ ((w2.drewN nq).drew) (fun a' => wpList _ _ _ _ _ ((w2.drewN nq).drew)) _ _
      clear x0 x1 x2 x3 x4 x5 x6 x7 HC f1 f4
      have hs3 : ValveAt ((w2.drewN nq).drew) c g _ := hs2.out
      replace hO : Only (fun k => k = g) w ((w2.drewN nq).drew) := (hO.drewN _).drew
      generalize (w2.drewN nq).drew = w3 at hs3 hO ⊢
      obtain ⟨x0, x1, x2, x3, x4, x5, x6, x7⟩ := hs3.cells
      simp only at x0 x1 x2 x3 x4 x5 x6 x7
      have f1 := hs3.free 1
      have f4 := hs3.free 4
      have HC := Lib.hid hs3.1
      replace hs3 := Lib.hid hs3
      repeat still_step
      refine wpStill_nil ?_
      go_wp2_with fail
      clear x0 x1 x2 x3 x4 x5 x6 x7 HC f1 f4
      have hs4 : ValveAt (w3.setCell ⟨g, 4, none⟩ (.int .i64 (s.ga + cnt n - s.wi))) c g _ := hs3.out.put 4 (.int .i64 (s.ga + cnt n - s.wi)) { s with sa := 0, ga := s.ga + cnt n - s.wi } rfl rfl
      replace hO : Only (fun k => k = g) w (w3.setCell ⟨g, 4, none⟩ (.int .i64 (s.ga + cnt n - s.wi))) := hO.setCell ⟨g, 4, none⟩ _ (fun _ => rfl)
      generalize w3.setCell ⟨g, 4, none⟩ (.int .i64 (s.ga + cnt n - s.wi)) = w4 at hs4 hO ⊢
      obtain ⟨x0, x1, x2, x3, x4, x5, x6, x7⟩ := hs4.cells
      simp only at x0 x1 x2 x3 x4 x5 x6 x7
      have f1 := hs4.free 1
      have f4 := hs4.free 4
      have HC := Lib.hid hs4.1
      replace hs4 := Lib.hid hs4
      refine wp_region_still_tail 15 (by kernel_rfl) (by kernel_rfl) ?_
      simp only [List.take_succ_cons, List.take_zero, List.drop_succ_cons, List.drop_zero]
      change wpStill _ _ (w4.drew) (fun a' => wpList _ _ _ _ _ (w4.drew)) _ _
      clear x0 x1 x2 x3 x4 x5 x6 x7 HC f1 f4
      have hs5 : ValveAt (w4.drew) c g _ := hs4.out
      replace hO : Only (fun k => k = g) w (w4.drew) := hO.drew
      generalize w4.drew = w5 at hs5 hO ⊢
      obtain ⟨x0, x1, x2, x3, x4, x5, x6, x7⟩ := hs5.cells
      simp only at x0 x1 x2 x3 x4 x5 x6 x7
      have f1 := hs5.free 1
      have f4 := hs5.free 4
      have HC := Lib.hid hs5.1
      replace hs5 := Lib.hid hs5
      repeat still_step
      still_call (bound_any _ s.m c _ (by exact HC.out)).mono fun e w' h => ⟨h.1, h.2.symm⟩
      repeat still_step
      refine wpStill_nil ?_
      go_wp2_with fail
      go_ret
      refine ⟨rfl, ?_, hO.setCell _ _ (fun _ => rfl)⟩
      unfold VS.acked
      rw [if_neg (by rw [HM.out]; decide), if_neg (by omega), if_pos hgw]
      exact hs5.out.put 1 _ _ rfl rfl
    · go_quiet (fail)
      go_wp2_with fail
      go_ret
      refine ⟨rfl, ?_, hO.drewN _⟩
      unfold VS.acked
      rw [if_neg (by rw [HM.out]; decide), if_neg (by omega), if_neg (by omega)]
      exact hs2.out

theorem same_mends (s : VS) (c g : Nat) (f next : Int) (w : World) (h : ValveAt w c g s) (ho : VOk s) (hm : s.me = true) : Calls Try.prog 9 #[.pointer (some ⟨g, 0, none⟩), .int .i64 f, .int .i64 next] w fun e w' => e = .returned (.bool s.third) ∧ ValveAt w' c g (s.same f next) ∧ Only (fun k => k = g) w w' := by
  obtain ⟨x0, x1, x2, x3, x4, x5, x6, x7⟩ := h.cells
  rw [hm] at x5
  have f1 := h.free 1
  have f3 := h.free 3
  have H := Lib.hid h
  have HM := Lib.hid hm
  clear h hm
  have hs1 := ho.s1
  have hs2 := ho.s2
  have hm1 := ho.m1
  have hm2 := ho.m2
  have hw1 := ho.w1
  have hw2 := ho.w2
  clear ho
  go_enter Try.func9, Try.ntmps9
  go_wp2_with fail
  have hO := Only.refl (fun k => k = g) w
  have ha : 1 ≤ mn 1048576 (s.sa + 1) ∧ mn 1048576 (s.sa + 1) ≤ 1048576 := by unfold mn; omega
  obtain ⟨ha0, ha1⟩ := ha
  clear x0 x1 x2 x3 x4 x5 x6 x7 f1 f3
  have hs : ValveAt (w.setCell ⟨g, 3, none⟩ (.int .i64 (mn 1048576 (s.sa + 1)))) c g _ := H.out.put 3 (.int .i64 (mn 1048576 (s.sa + 1))) { s with sa := mn 1048576 (s.sa + 1) } rfl rfl
  replace hO : Only (fun k => k = g) w (w.setCell ⟨g, 3, none⟩ (.int .i64 (mn 1048576 (s.sa + 1)))) := hO.setCell ⟨g, 3, none⟩ _ (fun _ => rfl)
  generalize w.setCell ⟨g, 3, none⟩ (.int .i64 (mn 1048576 (s.sa + 1))) = w1 at hs hO ⊢
  obtain ⟨x0, x1, x2, x3, x4, x5, x6, x7⟩ := hs.cells
  simp only at x0 x1 x2 x3 x4 x5 x6 x7
  have f1 := hs.free 1
  have HC := Lib.hid hs.1
  replace hs := Lib.hid hs
  refine wp_region_still_tail 15 (by kernel_rfl) (by kernel_rfl) ?_
  simp only [List.take_succ_cons, List.take_zero, List.drop_succ_cons, List.drop_zero]
  change wpStill _ _ (w1.drew) (fun a' => wpList _ _ _ _ _ (w1.drew)) _ _
  clear x0 x1 x2 x3 x4 x5 x6 x7 HC f1
  have hs3 : ValveAt (w1.drew) c g _ := hs.out
  replace hO : Only (fun k => k = g) w (w1.drew) := hO.drew
  generalize w1.drew = w2 at hs3 hO ⊢
  obtain ⟨x0, x1, x2, x3, x4, x5, x6, x7⟩ := hs3.cells
  simp only at x0 x1 x2 x3 x4 x5 x6 x7
  have f1 := hs3.free 1
  have HC := Lib.hid hs3.1
  replace hs3 := Lib.hid hs3
  repeat still_step
  still_call (bound_any _ s.m c _ (by exact HC.out)).mono fun e w' h => ⟨h.1, h.2.symm⟩
  repeat still_step
  refine wpStill_nil ?_
  go_wp2_with fail
  go_ret
  refine ⟨?_, ?_, hO.setCell _ _ (fun _ => rfl)⟩
  · unfold VS.third
    rw [HM.out]; rfl
  · unfold VS.same
    rw [if_pos HM.out]
    exact hs3.out.put 1 _ _ rfl rfl

theorem same_runs (s : VS) (c g : Nat) (f next : Int) (w : World) (h : ValveAt w c g s) (ho : VOk s) (hm : s.me = false) : Calls Try.prog 9 #[.pointer (some ⟨g, 0, none⟩), .int .i64 f, .int .i64 next] w fun e w' => e = .returned (.bool s.third) ∧ ValveAt w' c g (s.same f next) ∧ Only (fun k => k = g) w w' := by
  obtain ⟨x0, x1, x2, x3, x4, x5, x6, x7⟩ := h.cells
  rw [hm] at x5
  have f1 := h.free 1
  have f3 := h.free 3
  have H := Lib.hid h
  have HM := Lib.hid hm
  clear h hm
  have hs1 := ho.s1
  have hs2 := ho.s2
  have hm1 := ho.m1
  have hm2 := ho.m2
  have hw1 := ho.w1
  have hw2 := ho.w2
  have HO := Lib.hid ho
  clear ho
  have ha : 1 ≤ mn 1048576 (s.sa + 1) ∧ mn 1048576 (s.sa + 1) ≤ 1048576 := by unfold mn; omega
  obtain ⟨ha0, ha1⟩ := ha
  by_cases h3 : mn 1048576 (s.sa + 1) = 3
  · have e1 : s.third = true := by unfold VS.third; rw [HM.out, h3]; rfl
    have e2 : s.same f next = { s with sa := mn 1048576 (s.sa + 1), th := mx (cnt f / 2) (2 * s.m), wi := s.bound (mx (cnt f / 2) (2 * s.m) + 3 * s.m), me := true, up := next % 4294967296 } := by
      unfold VS.same
      rw [if_neg (by rw [HM.out]; decide), if_pos h3]
    rw [e1, e2]
    clear e1 e2
    go_enter Try.func9, Try.ntmps9
    go_wp2_with fail
    refine (halve_any { s with sa := 3 } c g f _ (H.out.put 3 _ _ rfl rfl) ⟨HO.out.m1, HO.out.m2, HO.out.w1, HO.out.w2, HO.out.t1, HO.out.t2, by show (0 : Int) ≤ 3; decide, by show (3 : Int) ≤ 1048576; decide, HO.out.g1, HO.out.u1, HO.out.u2, HO.out.u3⟩).mono ?_
    rintro e w1 ⟨rfl, hs, hk⟩
    have hO := ((Only.refl (fun k => k = g) w).setCell ⟨g, 3, none⟩ (.int .i64 3) (fun _ => rfl)).trans hk
    clear x0 x1 x2 x3 x4 x5 x6 x7 f1 f3 hk
    have hx : 0 ≤ mx (cnt f / 2) (2 * s.m) ∧ mx (cnt f / 2) (2 * s.m) ≤ 1048576 := by have := cnt_bounds f; unfold mx; omega
    obtain ⟨hx0, hx1⟩ := hx
    replace hs : ValveAt w1 c g { s with sa := 3, th := mx (cnt f / 2) (2 * s.m) } := hs
    have HC := Lib.hid hs.1
    obtain ⟨x0, x1, x2, x3, x4, x5, x6, x7⟩ := hs.cells
    go_wp2_with fail
    refine wp_region_still_tail 16 (by kernel_rfl) (by kernel_rfl) ?_
    simp only [List.take_succ_cons, List.take_zero, List.drop_succ_cons, List.drop_zero]
    change wpStill _ _ (w1.drew) (fun a' => wpList _ _ _ _ _ (w1.drew)) _ _
    clear x0 x1 x2 x3 x4 x5 x6 x7 HC
    have hs3 : ValveAt (w1.drew) c g _ := hs
    replace hO : Only (fun k => k = g) w (w1.drew) := hO.drew
    generalize w1.drew = w2 at hs3 hO ⊢
    obtain ⟨x0, x1, x2, x3, x4, x5, x6, x7⟩ := hs3.cells
    simp only at x0 x1 x2 x3 x4 x5 x6 x7
    have f1 := hs3.free 1
    have f5 := hs3.free 5
    have f6 := hs3.free 6
    have HC := Lib.hid hs3.1
    replace hs3 := Lib.hid hs3
    repeat still_step
    still_call (bound_any _ s.m c _ (by exact HC.out)).mono fun e w' h => ⟨h.1, h.2.symm⟩
    repeat still_step
    refine wpStill_nil ?_
    go_wp2_with fail
    go_ret
    exact ⟨rfl, ((hs3.out.put 1 _ { s with sa := 3, th := mx (cnt f / 2) (2 * s.m), wi := s.bound (mx (cnt f / 2) (2 * s.m) + 3 * s.m) } rfl rfl).put 5 _ { s with sa := 3, th := mx (cnt f / 2) (2 * s.m), wi := s.bound (mx (cnt f / 2) (2 * s.m) + 3 * s.m), me := true } rfl rfl).put 6 _ _ rfl rfl, ((hO.setCell _ _ (fun _ => rfl)).setCell _ _ (fun _ => rfl)).setCell _ _ (fun _ => rfl)⟩
  · have e1 : s.third = false := by unfold VS.third; rw [HM.out]; simp [h3]
    have e2 : s.same f next = { s with sa := mn 1048576 (s.sa + 1) } := by
      unfold VS.same
      rw [if_neg (by rw [HM.out]; decide), if_neg h3]
    rw [e1, e2]
    clear e1 e2
    go_enter Try.func9, Try.ntmps9
    go_wp2_with fail
    go_ret
    exact ⟨rfl, H.out.put 3 _ _ rfl rfl, (Only.refl (fun k => k = g) w).setCell _ _ (fun _ => rfl)⟩

theorem acked_any (s : VS) (c g : Nat) (n up : Int) (w : World) (h : ValveAt w c g s) (ho : VOk s) (hg : s.ga ≤ 1152921504606846976) : Calls Try.prog 10 #[.pointer (some ⟨g, 0, none⟩), .int .i64 n, .int .i64 up] w fun e w' => e = .returned (.bool (s.again up)) ∧ ValveAt w' c g (s.acked n up) ∧ Only (fun k => k = g) w w' := by
  cases hm : s.me with
  | true => exact acked_mends s c g n up w h ho hm
  | false => exact acked_runs s c g n up w h ho hm hg

theorem same_any (s : VS) (c g : Nat) (f next : Int) (w : World) (h : ValveAt w c g s) (ho : VOk s) : Calls Try.prog 9 #[.pointer (some ⟨g, 0, none⟩), .int .i64 f, .int .i64 next] w fun e w' => e = .returned (.bool s.third) ∧ ValveAt w' c g (s.same f next) ∧ Only (fun k => k = g) w w' := by
  cases hm : s.me with
  | true => exact same_mends s c g f next w h ho hm
  | false => exact same_runs s c g f next w h ho hm

theorem VOk.acked {s : VS} (h : VOk s) (n up : Int) : VOk (s.acked n up) ∧ (s.acked n up).m = s.m ∧ (s.acked n up).th = s.th ∧ (s.acked n up).ga ≤ s.ga + 1048576 := by
  obtain ⟨m1, m2, w1, w2, t1, t2, s1, s2, g1, u1, u2, u3⟩ := h
  have hb : ∀ x, s.m ≤ s.bound x ∧ s.bound x ≤ 1048576 := fun x => by unfold VS.bound mn mx; omega
  have hc := cnt_bounds n
  unfold VS.acked
  split
  · rename_i hm
    split
    · exact ⟨⟨m1, m2, (hb _).1, (hb _).2, t1, t2, s1, s2, g1, u1, u2, u3⟩, rfl, rfl, by show s.ga ≤ _; omega⟩
    · exact ⟨⟨m1, m2, (hb _).1, (hb _).2, t1, t2, by show (0 : Int) ≤ 0; omega, by show (0 : Int) ≤ _; omega, g1, by show (0 : Int) ≤ 0; omega, by show (0 : Int) < _; omega, fun _ => rfl⟩, rfl, rfl, by show s.ga ≤ _; omega⟩
  · split
    · exact ⟨⟨m1, m2, (hb _).1, (hb _).2, t1, t2, by show (0 : Int) ≤ 0; omega, by show (0 : Int) ≤ _; omega, g1, u1, u2, u3⟩, rfl, rfl, by show s.ga ≤ _; omega⟩
    · split
      · exact ⟨⟨m1, m2, (hb _).1, (hb _).2, t1, t2, by show (0 : Int) ≤ 0; omega, by show (0 : Int) ≤ _; omega, by show 0 ≤ s.ga + cnt n - s.wi; omega, u1, u2, u3⟩, rfl, rfl, by show s.ga + cnt n - s.wi ≤ _; omega⟩
      · exact ⟨⟨m1, m2, w1, w2, t1, t2, by show (0 : Int) ≤ 0; omega, by show (0 : Int) ≤ _; omega, by show 0 ≤ s.ga + cnt n; omega, u1, u2, u3⟩, rfl, rfl, by show s.ga + cnt n ≤ _; omega⟩

theorem VOk.same {s : VS} (h : VOk s) (f next : Int) : VOk (s.same f next) ∧ (s.same f next).m = s.m ∧ (s.same f next).ga = s.ga ∧ (s.same f next).sa = mn 1048576 (s.sa + 1) := by
  obtain ⟨m1, m2, w1, w2, t1, t2, s1, s2, g1, u1, u2, u3⟩ := h
  have hb : ∀ x, s.m ≤ s.bound x ∧ s.bound x ≤ 1048576 := fun x => by unfold VS.bound mn mx; omega
  have hc := cnt_bounds f
  have hs : 0 ≤ mn 1048576 (s.sa + 1) ∧ mn 1048576 (s.sa + 1) ≤ 1048576 := by unfold mn; omega
  have ht : 2 * s.m ≤ mx (cnt f / 2) (2 * s.m) ∧ mx (cnt f / 2) (2 * s.m) ≤ 1048576 := by unfold mx; omega
  unfold VS.same
  split
  · exact ⟨⟨m1, m2, (hb _).1, (hb _).2, t1, t2, hs.1, hs.2, g1, u1, u2, u3⟩, rfl, rfl, rfl⟩
  · split
    · exact ⟨⟨m1, m2, (hb _).1, (hb _).2, ht.1, ht.2, hs.1, hs.2, g1, by show 0 ≤ next % 4294967296; omega, by show next % 4294967296 < 4294967296; omega, fun h => by cases (show true = false from h)⟩, rfl, rfl, rfl⟩
    · exact ⟨⟨m1, m2, w1, w2, t1, t2, hs.1, hs.2, g1, u1, u2, u3⟩, rfl, rfl, rfl⟩

theorem VOk.late {s : VS} (h : VOk s) (f : Int) : VOk (s.late f) := by
  obtain ⟨m1, m2, w1, w2, t1, t2, s1, s2, g1, u1, u2, u3⟩ := h
  have hc := cnt_bounds f
  have ht : 2 * s.m ≤ mx (cnt f / 2) (2 * s.m) ∧ mx (cnt f / 2) (2 * s.m) ≤ 1048576 := by unfold mx; omega
  exact ⟨m1, m2, by show s.m ≤ s.m; omega, by show s.m ≤ 1048576; omega, ht.1, ht.2, by show (0 : Int) ≤ 0; omega, by show (0 : Int) ≤ _; omega, by show (0 : Int) ≤ 0; omega, by show (0 : Int) ≤ 0; omega, by show (0 : Int) < _; omega, fun _ => rfl⟩

theorem VOk.new {m : Int} (h0 : 1 ≤ m) (h1 : m ≤ 1460) : VOk ⟨m, mn (4 * m) (mx (2 * m) 4380), 1048576, 0, 0, false, 0⟩ :=
  ⟨h0, h1, by show m ≤ mn (4 * m) (mx (2 * m) 4380); unfold mn mx; omega, by show mn (4 * m) (mx (2 * m) 4380) ≤ 1048576; unfold mn mx; omega, by show 2 * m ≤ 1048576; omega, by show (1048576 : Int) ≤ _; omega, by show (0 : Int) ≤ 0; omega, by show (0 : Int) ≤ _; omega, by show (0 : Int) ≤ 0; omega, by show (0 : Int) ≤ 0; omega, by show (0 : Int) < _; omega, fun _ => rfl⟩

end Go.Proofs.Ytdijimjcoollcaa

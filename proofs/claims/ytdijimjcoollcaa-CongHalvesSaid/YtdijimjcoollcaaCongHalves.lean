/-
  The walk of the law CongHalves.
  No conditions.
-/
import Derived.Test.YtdijimjcoollcaaLaw17
set_option linter.unusedVariables false
set_option linter.unusedSimpArgs false
namespace Go.Proofs.Ytdijimjcoollcaa
open Go.RowKit
attribute [local go_sem] max_ii min_ii

set_option maxHeartbeats 4000000 in
set_option maxRecDepth 100000 in
theorem halves_walk (W : World) (m : Int) (wm : (Lit.int .i64 m).wf = true) (v : Value) (n : Nat) (f : Nat → List Value) (h : SlIs W [.i, .i, .i] v n f) (fl : Int) (wfl : (Lit.int .i64 fl).wf = true) :
    Calls Try.prog 3 #[.int .i64 m, v, .int .i64 fl] W fun e W' => e = .returned (.bool true) ∧ Below W.heap.size W W' := by
  obtain ⟨⟨a, cap, rfl, hle, hat⟩, hcells, hsmall⟩ := h
  obtain ⟨acts, hacts⟩ := acts3_of hcells
  simp only [List.length_cons, List.length_nil, reachB] at hsmall
  go_enter Try.func3, Try.ntmps3
  go_wp2_with fail
  refine (among_any m 1460 _ wm (by omega) (by omega)).mono ?_
  rintro e _ ⟨rfl, rfl⟩
  have m0 : 1 ≤ 1 + m % 1460 := by omega
  have m1 : 1 + m % 1460 ≤ 1460 := by omega
  go_wp2_with fail
  refine (among_any fl 524288 _ wfl (by omega) (by omega)).mono ?_
  rintro e _ ⟨rfl, rfl⟩
  have f0 : 0 ≤ fl % 524288 := by omega
  have f1 : fl % 524288 < 524288 := by omega
  go_wp2_with fail
  refine Calls.mono (new_good (1 + m % 1460) W m0 m1) ?_
  rintro e w1 ⟨he, h1, hk1⟩
  subst he
  generalize 1 + m % 1460 = m at m0 m1 h1 ⊢
  generalize fl % 524288 = fl at f0 f1 ⊢
  have o1 := VOk.new m0 m1
  have hN : ∀ k, k < W.heap.size → k = W.heap.size + 1 → False := fun k h1 h2 => by omega
  have hgW : W.heap.size ≤ W.heap.size + 1 := by omega
  generalize W.heap.size + 1 = g at h1 hN hgW ⊢
  have hc0 : ∃ c, ValveAt w1 c g ⟨m, mn (4 * m) (mx (2 * m) 4380), 1048576, 0, 0, false, 0⟩ := ⟨_, h1⟩
  obtain ⟨c, hs⟩ := hc0
  clear h1
  generalize mn (4 * m) (mx (2 * m) 4380) = wi at hs o1
  have e1 : (⟨m, wi, 1048576, 0, 0, false, 0⟩ : VS).same fl 1000 = ⟨m, wi, 1048576, 1, 0, false, 0⟩ := rfl
  have e2 : (⟨m, wi, 1048576, 1, 0, false, 0⟩ : VS).same fl 1000 = ⟨m, wi, 1048576, 2, 0, false, 0⟩ := rfl
  have ec : cnt fl = fl := by unfold cnt mx mn; omega
  have e3 : (⟨m, wi, 1048576, 2, 0, false, 0⟩ : VS).same fl 1000 = ⟨m, mn 1048576 (mx m (mx (fl / 2) (2 * m) + 3 * m)), mx (fl / 2) (2 * m), 3, 0, true, 1000⟩ := by
    rw [← ec]; rw [ec]; exact congrArg (fun z => (⟨m, mn 1048576 (mx m (mx (z / 2) (2 * m) + 3 * m)), mx (z / 2) (2 * m), 3, 0, true, 1000⟩ : VS)) ec
  have t1 : (⟨m, wi, 1048576, 0, 0, false, 0⟩ : VS).third = false := rfl
  have t2 : (⟨m, wi, 1048576, 1, 0, false, 0⟩ : VS).third = false := rfl
  have t3 : (⟨m, wi, 1048576, 2, 0, false, 0⟩ : VS).third = true := rfl
  replace e1 := Lib.hid e1
  replace e2 := Lib.hid e2
  replace e3 := Lib.hid e3
  replace t1 := Lib.hid t1
  replace t2 := Lib.hid t2
  replace t3 := Lib.hid t3
  clear ec
  go_wp2_with fail
  refine (works_any _).mono ?_
  rintro e w2 ⟨rfl, hk2⟩
  have hK := hk1.trans hk2
  replace hs := hs.only hk2
  clear hk1 hk2
  go_wp2_with fail
  refine wp_loop_rounds 4 ?_
  rw [rounds_succ]
  go_wp2_with fail
  refine (same_any _ c g fl 1000 _ hs o1).mono ?_
  rintro e w3 ⟨rfl, hs3, hk3⟩
  replace hK := hK.then hk3 hN
  replace o1 := (o1.same fl 1000).1
  rw [e1.out] at hs3 o1
  rw [t1.out]
  clear hs hk3
  generalize w3 = w2 at hs3 hK ⊢
  have hs := hs3
  clear hs3
  go_wp2_with fail
  rw [rounds_succ]
  go_wp2_with fail
  refine (same_any _ c g fl 1000 _ hs o1).mono ?_
  rintro e w3 ⟨rfl, hs3, hk3⟩
  replace hK := hK.then hk3 hN
  replace o1 := (o1.same fl 1000).1
  rw [e2.out] at hs3 o1
  rw [t2.out]
  clear hs hk3
  generalize w3 = w2 at hs3 hK ⊢
  have hs := hs3
  clear hs3
  go_wp2_with fail
  rw [rounds_succ]
  go_wp2_with fail
  refine (same_any _ c g fl 1000 _ hs o1).mono ?_
  rintro e w3 ⟨rfl, hs3, hk3⟩
  replace hK := hK.then hk3 hN
  replace o1 := (o1.same fl 1000).1
  rw [e3.out] at hs3 o1
  rw [t3.out]
  clear hs hk3
  generalize w3 = w2 at hs3 hK ⊢
  have hs := hs3
  clear hs3
  go_wp2_with fail
  rw [rounds_succ]
  have hw0 : 2 ≤ mx (fl / 2) (2 * m) ∧ mx (fl / 2) (2 * m) ≤ 1048576 ∧ m ≤ mx (fl / 2) (2 * m) := by unfold mx; omega
  have hm3 : (⟨m, mn 1048576 (mx m (mx (fl / 2) (2 * m) + 3 * m)), mx (fl / 2) (2 * m), 3, 0, true, 1000⟩ : VS).m = m ∧ (⟨m, mn 1048576 (mx m (mx (fl / 2) (2 * m) + 3 * m)), mx (fl / 2) (2 * m), 3, 0, true, 1000⟩ : VS).th = mx (fl / 2) (2 * m) ∧ (⟨m, mn 1048576 (mx m (mx (fl / 2) (2 * m) + 3 * m)), mx (fl / 2) (2 * m), 3, 0, true, 1000⟩ : VS).me = true ∧ (⟨m, mn 1048576 (mx m (mx (fl / 2) (2 * m) + 3 * m)), mx (fl / 2) (2 * m), 3, 0, true, 1000⟩ : VS).up = 1000 ∧ (⟨m, mn 1048576 (mx m (mx (fl / 2) (2 * m) + 3 * m)), mx (fl / 2) (2 * m), 3, 0, true, 1000⟩ : VS).ga = 0 := ⟨rfl, rfl, rfl, rfl, rfl⟩
  generalize (⟨m, mn 1048576 (mx m (mx (fl / 2) (2 * m) + 3 * m)), mx (fl / 2) (2 * m), 3, 0, true, 1000⟩ : VS) = s0 at hs o1 hm3
  go_wp2_with fail
  clear e1 e2 e3 t1 t2 t3
  generalize mx (fl / 2) (2 * m) = want at hw0 hm3 ⊢
  obtain ⟨hw1, hw2, hw3⟩ := hw0
  go_loopw [11] (fun i wr => ∃ (k : Nat) (s : VS), i = .int .i64 k ∧ k ≤ n ∧ k ≤ 100 ∧ ValveAt wr c g s ∧ VOk s ∧ s.m = m ∧ s.th = want ∧ s.me = true ∧ s.up = 1000 ∧ s.ga = 0 ∧ Only (fun _ => False) W wr) (fun i _ => 100 - (intOf i).toNat)
  case atStart => exact ⟨0, s0, rfl, by omega, by omega, hs, o1, hm3.1, hm3.2.1, hm3.2.2.1, hm3.2.2.2.1, hm3.2.2.2.2, hK⟩
  case round =>
    clear hs hK o1 hm3
    obtain ⟨k, s, rfl, hkn, hk100, hs, ho, hm, hth, hme, hup, hga, hK⟩ := hrel
    by_cases hin : k < n ∧ k < 100
    · obtain ⟨hin, hi100⟩ := hin
      obtain ⟨b, off, rfl, hbW, hat⟩ := hat (by omega)
      have hc0 := hat k hin 0 (by decide)
      have hc1 := hat k hin 1 (by decide)
      have hc2 := hat k hin 2 (by decide)
      obtain ⟨hl, hwf0, hwf1, hwf2⟩ := hacts k hin
      rw [hl] at hc0 hc1 hc2
      clear hat hl
      generalize acts k = x at hc0 hc1 hc2 hwf0 hwf1 hwf2
      obtain ⟨ki, nn, up⟩ := x
      have hbl := hK.block b hbW (fun h => h)
      have y0 : wr.cell? ⟨b, off + k * 3, none⟩ = some (.int .i64 ki) := by
        rw [World.cell?_of_block (w := W) (w' := wr) (a := ⟨b, off + k * 3, none⟩) hbl]; exact hc0
      have y1 : wr.cell? ⟨b, off + k * 3 + 1, none⟩ = some (.int .i64 nn) := by
        rw [World.cell?_of_block (w := W) (w' := wr) (a := ⟨b, off + k * 3 + 1, none⟩) hbl]; exact hc1
      have y2 : wr.cell? ⟨b, off + k * 3 + 2, none⟩ = some (.int .i64 up) := by
        rw [World.cell?_of_block (w := W) (w' := wr) (a := ⟨b, off + k * 3 + 2, none⟩) hbl]; exact hc2
      clear hc0 hc1 hc2 hbl
      have HS := Lib.hid hm
      have HT := Lib.hid hth
      have HM := Lib.hid hme
      have HU := Lib.hid hup
      have HG := Lib.hid hga
      clear hm hth hme hup hga
      go_wp2_with fail
      · refine (same_any s c g nn 5000 _ hs ho).mono ?_
        rintro e w4 ⟨rfl, hs4, hk4⟩
        have hK4 := hK.then hk4 hN
        obtain ⟨ho2, hm2, hga2, hsa2⟩ := ho.same nn 5000
        have hf : (s.same nn 5000).th = want ∧ (s.same nn 5000).me = true ∧ (s.same nn 5000).up = 1000 := by
          unfold VS.same
          rw [if_pos HM.out]
          exact ⟨HT.out, HM.out, HU.out⟩
        rw [HS.out] at hm2
        rw [HG.out] at hga2
        clear hsa2
        generalize s.same nn 5000 = s2 at *
        obtain ⟨q1, q2, q3⟩ := hf
        have Q := Lib.hid (And.intro q1 (And.intro q2 q3))
        have HB := Lib.hid (And.intro hm2 hga2)
        clear q1 q2 q3 hm2 hga2
        go_wp2_with fail
        refine (state_any _ c g _ hs4).mono ?_
        rintro e w5 ⟨rfl, hk5⟩
        have hs5 := hs4.only hk5
        have hK5 := hK4.trans hk5
        rw [Q.out.1, Q.out.2.1, Q.out.2.2]
        go_wp2_with fail
        go_roundw
        case rel => exact ⟨k + 1, s2, by go_num, by omega, by omega, hs5, ho2, HB.out.1, Q.out.1, Q.out.2.1, Q.out.2.2, HB.out.2, hK5⟩
        case measure => simp [intOf]; omega
      · refine wp_region_still_tail 12 (by kernel_rfl) (by kernel_rfl) ?_
        simp only [List.take_succ_cons, List.take_zero, List.drop_succ_cons, List.drop_zero]
        change wpStill _ _ (wr.drew) (fun a' => wpList _ _ _ _ _ (wr.drew)) _ _
        replace hs : ValveAt wr.drew c g s := hs
        replace y1 : wr.drew.cell? ⟨b, off + k * 3 + 1, none⟩ = some (.int .i64 nn) := y1
        replace y2 : wr.drew.cell? ⟨b, off + k * 3 + 2, none⟩ = some (.int .i64 up) := y2
        replace hK : Only (fun _ => False) W wr.drew := hK.drew
        generalize wr.drew = wd at hs y1 y2 hK ⊢
        repeat still_step
        still_call (among_any up 1000 _ hwf2 (by omega) (by omega)).mono fun e w' h => ⟨h.1, h.2.symm⟩
        repeat still_step
        refine wpStill_nil ?_
        have hu0 : 0 ≤ up % 1000 := by omega
        have hu1 : up % 1000 < 1000 := by omega
        generalize up % 1000 = up at hu0 hu1 ⊢
        have ha : aheadB (up % 4294967296) s.up = true := by
          rw [HU.out]; unfold aheadB; simp; omega
        go_wp2_with fail
        refine (acked_any s c g nn up _ hs ho (by rw [HG.out]; decide)).mono ?_
        rintro e w4 ⟨rfl, hs4, hk4⟩
        have hK4 := hK.then hk4 hN
        obtain ⟨ho2, hm2, hth2, _⟩ := ho.acked nn up
        have hf : (s.acked nn up).me = true ∧ (s.acked nn up).up = 1000 ∧ (s.acked nn up).ga = 0 := by
          unfold VS.acked
          rw [if_pos HM.out, if_pos ha]
          exact ⟨HM.out, HU.out, HG.out⟩
        have hag : s.again up = true := by unfold VS.again; rw [HM.out, ha]; rfl
        rw [hag]
        rw [HS.out] at hm2
        rw [HT.out] at hth2
        clear ha hag
        generalize s.acked nn up = s2 at *
        have Q := Lib.hid (And.intro hth2 hf)
        have HB := Lib.hid hm2
        clear hth2 hm2 hf
        go_wp2_with fail
        refine (state_any _ c g _ hs4).mono ?_
        rintro e w5 ⟨rfl, hk5⟩
        have hs5 := hs4.only hk5
        have hK5 := hK4.trans hk5
        rw [Q.out.1, Q.out.2.1, Q.out.2.2.1]
        go_wp2_with fail
        go_roundw
        case rel => exact ⟨k + 1, s2, by go_num, by omega, by omega, hs5, ho2, HB.out, Q.out.1, Q.out.2.1, Q.out.2.2.1, Q.out.2.2.2, hK5⟩
        case measure => simp [intOf]; omega
    · have HS := Lib.hid hm
      have HT := Lib.hid hth
      have HM := Lib.hid hme
      have HU := Lib.hid hup
      have HG := Lib.hid hga
      clear hm hth hme hup hga
      by_cases hkn' : k < n
      all_goals
        go_wp2_with fail
        refine (among_any fl 500 _ (by simp [Lit.wf, IntKind.min, IntKind.max, IntKind.bits, IntKind.signed]; omega) (by omega) (by omega)).mono ?_
        rintro e _ ⟨rfl, rfl⟩
        have hu0 : 0 ≤ fl % 500 := by omega
        have hu1 : fl % 500 < 500 := by omega
        generalize fl % 500 = up at hu0 hu1 ⊢
        have ha : aheadB ((1000 + up) % 4294967296) s.up = false := by
          rw [HU.out]; unfold aheadB; simp; omega
        go_wp2_with fail
        refine (acked_any s c g 1 (1000 + up) _ hs ho (by rw [HG.out]; decide)).mono ?_
        rintro e w4 ⟨rfl, hs4, hk4⟩
        have hK4 := hK.then hk4 hN
        have hag : s.again (1000 + up) = false := by unfold VS.again; rw [HM.out, ha]; rfl
        have hf : (s.acked 1 (1000 + up)).me = false ∧ (s.acked 1 (1000 + up)).sa = 0 ∧ (s.acked 1 (1000 + up)).th = want ∧ (s.acked 1 (1000 + up)).wi = mn 1048576 (mx m want) := by
          unfold VS.acked
          rw [if_pos HM.out, if_neg (by rw [ha]; decide)]
          exact ⟨rfl, rfl, HT.out, by show mn 1048576 (mx s.m s.th) = _; rw [HS.out, HT.out]⟩
        rw [hag]
        clear ha hag
        generalize s.acked 1 (1000 + up) = s2 at *
        have Q := Lib.hid hf
        clear hf
        go_wp2_with fail
        refine (state_any _ c g _ hs4).mono ?_
        rintro e w5 ⟨rfl, hk5⟩
        have hs5 := hs4.only hk5
        have hK5 := hK4.trans hk5
        rw [Q.out.1, Q.out.2.1, Q.out.2.2.1]
        have ew : (mn 1048576 (mx m want) == mx m (mn 1048576 want)) = true := by
          have : mn 1048576 (mx m want) = mx m (mn 1048576 want) := by unfold mn mx; omega
          rw [this]; simp
        go_wp2_with (go_at_call 12; refine (window_any s2 c g _ hs5).mono ?_; rintro e _ ⟨rfl, rfl⟩; rw [Q.out.2.2.2])
        go_ret
        exact ⟨rfl, hK5.below (Nat.le_refl _) (fun _ _ h => h)⟩

end Go.Proofs.Ytdijimjcoollcaa

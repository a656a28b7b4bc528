/-
  The walk of the law CongBounds.
  No conditions.
-/
import Derived.Test.YtdijimjcoollcaaLaw17
set_option linter.unusedVariables false
set_option linter.unusedSimpArgs false
namespace Go.Proofs.Ytdijimjcoollcaa
open Go.RowKit
attribute [local go_sem] max_ii min_ii

set_option maxHeartbeats 4000000 in
set_option maxRecDepth 100000 in
theorem bounds_walk (W : World) (m : Int) (wm : (Lit.int .i64 m).wf = true) (v : Value) (n : Nat) (f : Nat → List Value) (h : SlIs W [.i, .i, .i] v n f) :
    Calls Try.prog 4 #[.int .i64 m, v] W fun e W' => e = .returned (.bool true) ∧ Below W.heap.size W W' := by
  obtain ⟨⟨a, cap, rfl, hle, hat⟩, hcells, hsmall⟩ := h
  obtain ⟨acts, hacts⟩ := acts3_of hcells
  simp only [List.length_cons, List.length_nil, reachB] at hsmall
  go_enter Try.func4, Try.ntmps4
  go_wp2_with fail
  refine (among_any m 1460 _ wm (by omega) (by omega)).mono ?_
  rintro e _ ⟨rfl, rfl⟩
  have m0 : 1 ≤ 1 + m % 1460 := by omega
  have m1 : 1 + m % 1460 ≤ 1460 := by omega
  go_wp2_with fail
  refine Calls.mono (new_good (1 + m % 1460) W m0 m1) ?_
  rintro e w1 ⟨he, h1, hk1⟩
  subst he
  generalize 1 + m % 1460 = m at m0 m1 h1 ⊢
  have o1 := VOk.new m0 m1
  have hN : ∀ k, k < W.heap.size → k = W.heap.size + 1 → False := fun k h1 h2 => by omega
  have hcW : W.heap.size ≤ W.heap.size := Nat.le_refl _
  have hgW : W.heap.size ≤ W.heap.size + 1 := by omega
  generalize W.heap.size + 1 = g at h1 hN hgW ⊢
  have hc0 : ∃ c, ValveAt w1 c g ⟨m, mn (4 * m) (mx (2 * m) 4380), 1048576, 0, 0, false, 0⟩ := ⟨_, h1⟩
  obtain ⟨c, hs⟩ := hc0
  clear h1 hcW
  have e0 : (⟨m, mn (4 * m) (mx (2 * m) 4380), 1048576, 0, 0, false, 0⟩ : VS).sa = 0 ∧ (⟨m, mn (4 * m) (mx (2 * m) 4380), 1048576, 0, 0, false, 0⟩ : VS).ga = 0 ∧ (⟨m, mn (4 * m) (mx (2 * m) 4380), 1048576, 0, 0, false, 0⟩ : VS).m = m ∧ (⟨m, mn (4 * m) (mx (2 * m) 4380), 1048576, 0, 0, false, 0⟩ : VS).me = false := ⟨rfl, rfl, rfl, rfl⟩
  generalize (⟨m, mn (4 * m) (mx (2 * m) 4380), 1048576, 0, 0, false, 0⟩ : VS) = s0 at hs o1 e0
  go_wp2_with fail
  refine (works_any _).mono ?_
  rintro e w2 ⟨rfl, hk2⟩
  have hK := hk1.trans hk2
  replace hs := hs.only hk2
  clear hk1 hk2
  go_wp2_with fail
  go_loopw [8, 7] (fun i sm wr => ∃ (k : Nat) (s : VS), i = .int .i64 k ∧ sm = .int .i64 s.sa ∧ k ≤ n ∧ k ≤ 200 ∧ ValveAt wr c g s ∧ VOk s ∧ s.m = m ∧ s.ga ≤ k * 1048576 ∧ s.sa ≤ k ∧ (s.me = true → 3 ≤ s.sa) ∧ Only (fun _ => False) W wr) (fun i _ _ => 200 - (intOf i).toNat)
  case atStart => exact ⟨0, s0, rfl, by rw [e0.1], by omega, by omega, hs, o1, e0.2.2.1, by rw [e0.2.1]; decide, by rw [e0.1]; decide, fun h => (by rw [e0.2.2.2] at h; cases h), hK⟩
  case round =>
    obtain ⟨k, s, rfl, rfl, hkn, hk200, hs, ho, hm, hga, hsa, hme, hK⟩ := hrel
    have hs0 := hs
    by_cases hin : k < n ∧ k < 200
    · obtain ⟨hin, hi200⟩ := hin
      obtain ⟨b, off, rfl, hbW, hat⟩ := hat (by omega)
      have hc0 := hat k hin 0 (by decide)
      have hc1 := hat k hin 1 (by decide)
      have hc2 := hat k hin 2 (by decide)
      obtain ⟨hl, hwf0, hwf1, hwf2⟩ := hacts k hin
      rw [hl] at hc0 hc1 hc2
      clear hat hl
      generalize acts k = x at hc0 hc1 hc2 hwf0 hwf1 hwf2
      obtain ⟨ki, nn, up⟩ := x
      have hbl := hK.block b hbW (fun h => h)
      have y0 : wr.cell? ⟨b, off + k * 3, none⟩ = some (.int .i64 ki) := by
        rw [World.cell?_of_block (w := W) (w' := wr) (a := ⟨b, off + k * 3, none⟩) hbl]; exact hc0
      have y1 : wr.cell? ⟨b, off + k * 3 + 1, none⟩ = some (.int .i64 nn) := by
        rw [World.cell?_of_block (w := W) (w' := wr) (a := ⟨b, off + k * 3 + 1, none⟩) hbl]; exact hc1
      have y2 : wr.cell? ⟨b, off + k * 3 + 2, none⟩ = some (.int .i64 up) := by
        rw [World.cell?_of_block (w := W) (w' := wr) (a := ⟨b, off + k * 3 + 2, none⟩) hbl]; exact hc2
      clear hc0 hc1 hc2 hbl
      go_wp2_with fail
      have hp := blk_new wr (.cells #[.int .i64 ki, .int .i64 nn, .int .i64 up] 31)
      replace hs := hs.only ((Only.refl (fun _ => False) wr).alloc (.cells #[.int .i64 ki, .int .i64 nn, .int .i64 up] 31))
      have hpW : W.heap.size ≤ wr.heap.size := hK.size
      have hpg : wr.heap.size ≠ g := by have := heap_lt hs.2.1; rw [World.size_alloc] at this; have := heap_lt hs0.2.1; omega
      replace hK := hK.alloc (.cells #[.int .i64 ki, .int .i64 nn, .int .i64 up] 31)
      generalize wr.alloc (.cells #[.int .i64 ki, .int .i64 nn, .int .i64 up] 31) = wa at hp hs hK ⊢
      generalize wr.heap.size = p at hp hpW hpg ⊢
      clear y0 y1 y2 hs0
      refine (state_any s c g _ hs).mono ?_
      rintro e w3 ⟨rfl, hk3⟩
      replace hs := hs.only hk3
      replace hK := hK.trans hk3
      replace hp := hk3.at hp (fun h => h)
      clear hk3
      have z0 := blk_cell hp 0
      have z1 := blk_cell hp 1
      have z2 := blk_cell hp 2
      simp only [List.getElem?_toArray, List.getElem?_cons_zero, List.getElem?_cons_succ] at z0 z1 z2
      go_wp2_with fail
      refine (among_any ki 3 _ hwf0 (by omega) (by omega)).mono ?_
      rintro e _ ⟨rfl, rfl⟩
      have hki : ki % 3 = 0 ∨ ki % 3 = 1 ∨ ki % 3 = 2 := by omega
      rcases hki with hki | hki | hki
      · rw [hki]
        clear hki
        go_wp2_with fail
        refine (acked_any s c g nn up _ hs ho (by omega)).mono ?_
        rintro e w4 ⟨rfl, hs4, hk4⟩
        have hK4 := hK.then hk4 hN
        obtain ⟨ho2, hm2, hth, hga2⟩ := ho.acked nn up
        clear hth
        rw [hm] at hm2
        cases hag : s.again up with
        | true =>
          have hwm : s.me = true := by unfold VS.again at hag; cases hh : s.me with
            | true => rfl
            | false => rw [hh] at hag; cases hag
          have h1 : (s.acked nn up).sa = s.sa ∧ (s.acked nn up).me = true := by
            have : aheadB (up % 4294967296) s.up = true := by unfold VS.again at hag; rw [hwm] at hag; exact hag
            unfold VS.acked
            rw [if_pos hwm, if_pos this]
            exact ⟨rfl, hwm⟩
          rw [hwm]
          rw [← h1.1]
          have hsa2 : (s.acked nn up).sa ≤ k + 1 := by rw [h1.1]; omega
          have hme2 : (s.acked nn up).me = true → 3 ≤ (s.acked nn up).sa := fun _ => by rw [h1.1]; exact hme hwm
          clear h1 hag hwm hme hsa ho hs hK hm
          generalize s.acked nn up = s2 at *
          have hga2 : s2.ga ≤ (k + 1 : Nat) * 1048576 := by omega
          go_wp2_with fail
          refine (state_any _ c g _ hs4).mono ?_
          rintro e w5 ⟨rfl, hk5⟩
          have hs5 := hs4.only hk5
          have hK5 := hK4.trans hk5
          clear hk5 hs4 hK4
          have d1 : decide (s2.wi < m) = false := by simp; have := ho2.w1; omega
          have d2 : decide (1048576 < s2.wi) = false := by simp; have := ho2.w2; omega
          have d3 : decide (s2.th < 2 * m) = false := by simp; have := ho2.t1; omega
          have HO := Lib.hid ho2
          have HM := Lib.hid hme2
          clear ho2 hme2
          cases hm3 : s2.me with
          | true =>
            have d4 : decide (s2.sa < 3) = false := by simp; have := HM.out hm3; omega
            clear hm3
            go_wp2_with (go_at_call 12; refine (window_any s2 c g _ hs5).mono ?_; rintro e _ ⟨rfl, rfl⟩)
            go_roundw
            case rel => exact ⟨k + 1, s2, by go_num, by go_num, by omega, by omega, hs5, HO.out, hm2, hga2, by omega, HM.out, hK5⟩
            case measure => simp [intOf]; omega
          | false =>
            have hup := HO.out.u3 hm3
            rw [hup]
            clear hm3
            go_wp2_with (go_at_call 12; refine (window_any s2 c g _ hs5).mono ?_; rintro e _ ⟨rfl, rfl⟩)
            go_roundw
            case rel => exact ⟨k + 1, s2, by go_num, by go_num, by omega, by omega, hs5, HO.out, hm2, hga2, by omega, HM.out, hK5⟩
            case measure => simp [intOf]; omega
        | false =>
          have h1 : (s.acked nn up).sa = 0 ∧ (s.acked nn up).me = false := by
            unfold VS.again at hag
            unfold VS.acked
            split
            · rename_i hwm
              rw [hwm] at hag
              rw [if_neg (by rw [show aheadB (up % 4294967296) s.up = false from hag]; decide)]
              exact ⟨rfl, rfl⟩
            · rename_i hwm
              split
              · exact ⟨rfl, by simpa using hwm⟩
              · split
                · exact ⟨rfl, by simpa using hwm⟩
                · exact ⟨rfl, by simpa using hwm⟩
          have hsa2 : (s.acked nn up).sa ≤ k + 1 := by rw [h1.1]; omega
          have hme2 : (s.acked nn up).me = true → 3 ≤ (s.acked nn up).sa := fun h => by rw [h1.2] at h; cases h
          have H1 := Lib.hid h1.1
          have H2 := Lib.hid h1.2
          clear h1 hag hme hsa ho hs hK hm
          generalize s.acked nn up = s2 at *
          have hme3 : s2.me = false := H2.out
          have hga2 : s2.ga ≤ (k + 1 : Nat) * 1048576 := by omega
          have HO := Lib.hid ho2
          have HM := Lib.hid hme2
          have hup := ho2.u3 hme3
          have d1 : decide (s2.wi < m) = false := by simp; have := ho2.w1; omega
          have d2 : decide (1048576 < s2.wi) = false := by simp; have := ho2.w2; omega
          have d3 : decide (s2.th < 2 * m) = false := by simp; have := ho2.t1; omega
          go_wp2_with fail
          refine (state_any _ c g _ hs4).mono ?_
          rintro e w5 ⟨rfl, hk5⟩
          have hs5 := hs4.only hk5
          have hK5 := hK4.trans hk5
          rw [H1.out, hme3, hup]
          clear hk5 hs4 hK4 ho2 hme2 hme3 hup
          go_wp2_with (go_at_call 12; refine (window_any s2 c g _ hs5).mono ?_; rintro e _ ⟨rfl, rfl⟩)
          go_roundw
          case rel => exact ⟨k + 1, s2, by go_num, by rw [H1.out], by omega, by omega, hs5, HO.out, hm2, hga2, by omega, HM.out, hK5⟩
          case measure => simp [intOf]; omega
      · rw [hki]
        clear hki
        have hsb := ho.s1
        go_wp2_with fail
        refine (same_any s c g nn up _ hs ho).mono ?_
        rintro e w4 ⟨rfl, hs4, hk4⟩
        have hK4 := hK.then hk4 hN
        obtain ⟨ho2, hm2, hga2, hsa3⟩ := ho.same nn up
        have e1 : mn 1048576 (s.sa + 1) = s.sa + 1 := by unfold mn; omega
        rw [hm] at hm2
        rw [e1] at hsa3
        have hsa2 : (s.same nn up).sa ≤ k + 1 := by rw [hsa3]; omega
        have hme2 : (s.same nn up).me = true → 3 ≤ (s.same nn up).sa := by
          rw [hsa3]
          unfold VS.same
          split
          · rename_i hh; intro _; have := hme hh; omega
          · rename_i hh
            rw [e1]
            split
            · intro _; omega
            · intro h; exact absurd h hh
        have ht : s.third = (!s.me && decide ((s.same nn up).sa = 3)) := by unfold VS.third; rw [e1, hsa3]
        rw [ht, ← hsa3]
        clear ht hme hsa ho hs hK hm
        have hga3 : (s.same nn up).ga ≤ k * 1048576 + 1048576 := by rw [hga2]; omega
        clear hga2
        generalize s.same nn up = s2 at *
        generalize s.me = was at *
        have hga2 : s2.ga ≤ (k : Int) * 1048576 + 1048576 := hga3
        by_cases h3 : s2.sa = 3
        · have q1 : (s2.sa == 3) = true := by simpa using h3
          have q2 : decide (s2.sa = 3) = true := by simpa using h3
          clear h3 hsa3 e1
          cases was
          all_goals
            have hga2 : s2.ga ≤ (k + 1 : Nat) * 1048576 := by omega
            go_wp2_with fail
            refine (state_any _ c g _ hs4).mono ?_
            rintro e w5 ⟨rfl, hk5⟩
            have hs5 := hs4.only hk5
            have hK5 := hK4.trans hk5
            clear hk5 hs4 hK4
            have d1 : decide (s2.wi < m) = false := by simp; have := ho2.w1; omega
            have d2 : decide (1048576 < s2.wi) = false := by simp; have := ho2.w2; omega
            have d3 : decide (s2.th < 2 * m) = false := by simp; have := ho2.t1; omega
            have HO := Lib.hid ho2
            have HM := Lib.hid hme2
            clear ho2 hme2
            cases hm3 : s2.me with
            | true =>
              have d4 : decide (s2.sa < 3) = false := by simp; have := HM.out hm3; omega
              clear hm3
              go_wp2_with (go_at_call 12; refine (window_any s2 c g _ hs5).mono ?_; rintro e _ ⟨rfl, rfl⟩)
              go_roundw
              case rel => exact ⟨k + 1, s2, by go_num, by go_num, by omega, by omega, hs5, HO.out, hm2, hga2, by omega, HM.out, hK5⟩
              case measure => simp [intOf]; omega
            | false =>
              have hup := HO.out.u3 hm3
              rw [hup]
              clear hm3
              go_wp2_with (go_at_call 12; refine (window_any s2 c g _ hs5).mono ?_; rintro e _ ⟨rfl, rfl⟩)
              go_roundw
              case rel => exact ⟨k + 1, s2, by go_num, by go_num, by omega, by omega, hs5, HO.out, hm2, hga2, by omega, HM.out, hK5⟩
              case measure => simp [intOf]; omega
        · have q1 : (s2.sa == 3) = false := by simpa using h3
          have q2 : decide (s2.sa = 3) = false := by simpa using h3
          clear h3 hsa3 e1
          cases was
          all_goals
            have hga2 : s2.ga ≤ (k + 1 : Nat) * 1048576 := by omega
            go_wp2_with fail
            refine (state_any _ c g _ hs4).mono ?_
            rintro e w5 ⟨rfl, hk5⟩
            have hs5 := hs4.only hk5
            have hK5 := hK4.trans hk5
            clear hk5 hs4 hK4
            have d1 : decide (s2.wi < m) = false := by simp; have := ho2.w1; omega
            have d2 : decide (1048576 < s2.wi) = false := by simp; have := ho2.w2; omega
            have d3 : decide (s2.th < 2 * m) = false := by simp; have := ho2.t1; omega
            have HO := Lib.hid ho2
            have HM := Lib.hid hme2
            clear ho2 hme2
            cases hm3 : s2.me with
            | true =>
              have d4 : decide (s2.sa < 3) = false := by simp; have := HM.out hm3; omega
              clear hm3
              go_wp2_with (go_at_call 12; refine (window_any s2 c g _ hs5).mono ?_; rintro e _ ⟨rfl, rfl⟩)
              go_roundw
              case rel => exact ⟨k + 1, s2, by go_num, by go_num, by omega, by omega, hs5, HO.out, hm2, hga2, by omega, HM.out, hK5⟩
              case measure => simp [intOf]; omega
            | false =>
              have hup := HO.out.u3 hm3
              rw [hup]
              clear hm3
              go_wp2_with (go_at_call 12; refine (window_any s2 c g _ hs5).mono ?_; rintro e _ ⟨rfl, rfl⟩)
              go_roundw
              case rel => exact ⟨k + 1, s2, by go_num, by go_num, by omega, by omega, hs5, HO.out, hm2, hga2, by omega, HM.out, hK5⟩
              case measure => simp [intOf]; omega
      · rw [hki]
        clear hki
        go_wp2_with fail
        refine (late_any s c g nn _ hs ho).mono ?_
        rintro e w4 ⟨rfl, hs4, hk4⟩
        have hK4 := hK.then hk4 hN
        have ho2 := ho.late nn
        have h1 : (s.late nn).m = m ∧ (s.late nn).ga = 0 ∧ (s.late nn).sa = 0 ∧ (s.late nn).me = false ∧ (s.late nn).wi = m := ⟨hm, rfl, rfl, rfl, hm⟩
        clear hme hsa ho hs hK hm
        generalize s.late nn = s2 at *
        obtain ⟨hm2, hga2, hsa3, hme3, hwi⟩ := h1
        go_wp2_with fail
        refine (window_any s2 c g _ hs4).mono ?_
        rintro e _ ⟨rfl, rfl⟩
        rw [hwi]
        have hsa2 : s2.sa ≤ (k : Int) + 1 := by omega
        have hme2 : s2.me = true → 3 ≤ s2.sa := fun h => by rw [hme3] at h; cases h
        have HW := Lib.hid hwi
        have H1 := Lib.hid hsa3
        clear hwi hsa3
        have hga2 : s2.ga ≤ (k + 1 : Nat) * 1048576 := by omega
        have HO := Lib.hid ho2
        have HM := Lib.hid hme2
        have hup := ho2.u3 hme3
        have d1 : decide (s2.wi < m) = false := by simp; have := ho2.w1; omega
        have d2 : decide (1048576 < s2.wi) = false := by simp; have := ho2.w2; omega
        have d3 : decide (s2.th < 2 * m) = false := by simp; have := ho2.t1; omega
        go_wp2_with fail
        refine (state_any _ c g _ hs4).mono ?_
        rintro e w5 ⟨rfl, hk5⟩
        have hs5 := hs4.only hk5
        have hK5 := hK4.trans hk5
        rw [H1.out, hme3, hup]
        clear hk5 hs4 hK4 ho2 hme2 hme3 hup
        go_wp2_with (go_at_call 12; refine (window_any s2 c g _ hs5).mono ?_; rintro e _ ⟨rfl, rfl⟩)
        go_roundw
        case rel => exact ⟨k + 1, s2, by go_num, by rw [H1.out], by omega, by omega, hs5, HO.out, hm2, hga2, by omega, HM.out, hK5⟩
        case measure => simp [intOf]; omega
    · by_cases hkn' : k < n
      all_goals
        go_wp2_with fail
        go_ret
        exact ⟨rfl, hK.below (Nat.le_refl _) (fun _ _ h => h)⟩

end Go.Proofs.Ytdijimjcoollcaa

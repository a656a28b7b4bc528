/-
  The walk of the law CongGrows.
  No conditions.
-/
import Derived.Test.YtdijimjcoollcaaLaw17
set_option linter.unusedVariables false
set_option linter.unusedSimpArgs false
namespace Go.Proofs.Ytdijimjcoollcaa
open Go.RowKit
attribute [local go_sem] max_ii min_ii

/-- A valve that does not mend, its gathered bytes below its window. -/
structure Calm (s : VS) (m t : Int) : Prop where
  ok : VOk s
  hm : s.m = m
  ht : s.th = t
  me : s.me = false
  gw : s.ga < s.wi

/-- What one acknowledgement of an MSS does. -/
theorem Calm.acked {s : VS} {m t : Int} (h : Calm s m t) (up : Int) : Calm (s.acked m up) m t ∧
    (s.wi < t → (s.acked m up).wi = mn 1048576 (s.wi + m) ∧ (s.acked m up).ga = s.ga) ∧
    (t ≤ s.wi → (s.ga + m < s.wi ∧ (s.acked m up).wi = s.wi ∧ (s.acked m up).ga = s.ga + m) ∨ (s.wi ≤ s.ga + m ∧ (s.acked m up).wi = mn 1048576 (s.wi + m) ∧ (s.acked m up).ga = s.ga + m - s.wi)) := by
  obtain ⟨ho, hm, ht, hme, hgw⟩ := h
  have ok2 := (ho.acked m up).1
  have m1 := ho.m1
  have m2 := ho.m2
  have w1 := ho.w1
  have g1 := ho.g1
  have hc : cnt m = m := by unfold cnt mx mn; omega
  have hb : ∀ x, 0 ≤ x → mn 1048576 (mx s.m (s.wi + x)) = mn 1048576 (s.wi + x) := fun x hx => by unfold mn mx; omega
  have hbb : ∀ x, 0 ≤ x → s.wi ≤ mn 1048576 (s.wi + x) := fun x hx => by have := ho.w2; unfold mn; omega
  have hmm : mn m s.m = m := by rw [hm]; unfold mn; omega
  by_cases c1 : s.wi < s.th
  · have e : s.acked m up = { s with sa := 0, wi := s.bound (s.wi + m) } := by
      unfold VS.acked
      rw [if_neg (by rw [hme]; decide), if_pos c1, hc, hmm]
    have e2 : s.bound (s.wi + m) = mn 1048576 (s.wi + m) := hb m (by omega)
    rw [e] at ok2 ⊢
    rw [e2] at ok2 ⊢
    exact ⟨⟨ok2, hm, ht, hme, by show s.ga < mn 1048576 (s.wi + m); have := hbb m (by omega); omega⟩, fun _ => ⟨rfl, rfl⟩, fun h => by omega⟩
  · by_cases c2 : s.wi ≤ s.ga + m
    · have e : s.acked m up = { s with sa := 0, ga := s.ga + m - s.wi, wi := s.bound (s.wi + s.m) } := by
        unfold VS.acked
        rw [if_neg (by rw [hme]; decide), if_neg c1, hc, if_pos c2]
      have e2 : s.bound (s.wi + s.m) = mn 1048576 (s.wi + m) := by rw [hm]; exact hb m (by omega)
      rw [e] at ok2 ⊢
      rw [e2] at ok2 ⊢
      exact ⟨⟨ok2, hm, ht, hme, by show s.ga + m - s.wi < mn 1048576 (s.wi + m); have := hbb m (by omega); omega⟩, fun h => by omega, fun _ => Or.inr ⟨c2, rfl, rfl⟩⟩
    · have e : s.acked m up = { s with sa := 0, ga := s.ga + m } := by
        unfold VS.acked
        rw [if_neg (by rw [hme]; decide), if_neg c1, hc, if_neg c2]
      rw [e] at ok2 ⊢
      exact ⟨⟨ok2, hm, ht, hme, by show s.ga + m < s.wi; omega⟩, fun h => by omega, fun _ => Or.inl ⟨by omega, rfl, rfl⟩⟩

/-- Behind so many acknowledgements above the threshold. -/
def Up (s : VS) (m w g0 : Int) (j : Nat) : Prop :=
  (s.wi = w ∧ s.ga = g0 + j * m ∧ s.ga < w) ∨ (s.wi = w + m ∧ s.ga = g0 + j * m - w ∧ 0 ≤ s.ga)

theorem Up.step {s : VS} {m t w g0 : Int} {j : Nat} (h : Up s m w g0 j) (hc : Calm s m t) (ht : t ≤ w) (hw : w + m < 1048576) (hg : g0 < w) (hj : j * m ≤ w) : Up (s.acked m 0) m w g0 (j + 1) := by
  have m1 := hc.ok.m1
  rw [hc.hm] at m1
  obtain ⟨_, _, h2⟩ := hc.acked 0
  have e : ((j + 1 : Nat) : Int) * m = j * m + m := by rw [Int.natCast_add, Int.add_mul]; simp
  rcases h with ⟨a, b, c⟩ | ⟨a, b, c⟩
  · rcases h2 (by omega) with ⟨x, y, z⟩ | ⟨x, y, z⟩
    · exact Or.inl ⟨by omega, by rw [e]; omega, by omega⟩
    · exact Or.inr ⟨by rw [y]; unfold mn; omega, by rw [e]; omega, by omega⟩
  · rcases h2 (by omega) with ⟨x, y, z⟩ | ⟨x, y, z⟩
    · exact Or.inr ⟨by omega, by rw [e]; omega, by omega⟩
    · exfalso; omega

theorem up_many {w m : Int} (hm : 1 ≤ m) (h0 : 0 ≤ w) : 0 ≤ w / m ∧ w / m ≤ w ∧ w / m * m ≤ w ∧ w < (w / m + 1) * m := by
  have h1 := Int.ediv_mul_le w (show m ≠ 0 by omega)
  have h2 := Int.lt_ediv_add_one_mul_self w (show 0 < m by omega)
  exact ⟨Int.ediv_nonneg h0 (by omega), Int.ediv_le_self _ h0, h1, h2⟩

set_option maxHeartbeats 4000000 in
set_option maxRecDepth 100000 in
theorem grows_walk (W : World) (m : Int) (wm : (Lit.int .i64 m).wf = true) (many : Int) (wmany : (Lit.int .i64 many).wf = true) (lates : Int) (wl : (Lit.int .i64 lates).wf = true) :
    Calls Try.prog 5 #[.int .i64 m, .int .i64 many, .int .i64 lates] W fun e W' => e = .returned (.bool true) ∧ Below W.heap.size W W' := by
  go_enter Try.func5, Try.ntmps5
  go_wp2_with fail
  refine (among_any m 1460 _ wm (by omega) (by omega)).mono ?_
  rintro e _ ⟨rfl, rfl⟩
  have m0 : 1 ≤ 1 + m % 1460 := by omega
  have m1 : 1 + m % 1460 ≤ 1460 := by omega
  go_wp2_with fail
  refine Calls.mono (new_good (1 + m % 1460) W m0 m1) ?_
  rintro e w1 ⟨he, h1, hk1⟩
  subst he
  generalize 1 + m % 1460 = m at m0 m1 h1 ⊢
  have o1 := VOk.new m0 m1
  have hN : ∀ k, k < W.heap.size → k = W.heap.size + 1 → False := fun k h1 h2 => by omega
  generalize W.heap.size + 1 = g at h1 hN ⊢
  have hc0 : ∃ c, ValveAt w1 c g ⟨m, mn (4 * m) (mx (2 * m) 4380), 1048576, 0, 0, false, 0⟩ := ⟨_, h1⟩
  obtain ⟨c, hs⟩ := hc0
  clear h1
  have c0 : Calm ⟨m, mn (4 * m) (mx (2 * m) 4380), 1048576, 0, 0, false, 0⟩ m 1048576 := ⟨o1, rfl, rfl, rfl, by show 0 < mn (4 * m) (mx (2 * m) 4380); unfold mn mx; omega⟩
  generalize (⟨m, mn (4 * m) (mx (2 * m) 4380), 1048576, 0, 0, false, 0⟩ : VS) = s0 at hs c0
  clear o1
  go_wp2_with fail
  refine (works_any _).mono ?_
  rintro e w2 ⟨rfl, hk2⟩
  have hK := hk1.trans hk2
  replace hs := hs.only hk2
  clear hk1 hk2
  go_wp2_with fail
  · refine (late_any s0 c g (20 * m) _ hs c0.ok).mono ?_
    rintro e w3 ⟨rfl, hs3, hk3⟩
    have cl : Calm (s0.late (20 * m)) m (mx (cnt (20 * m) / 2) (2 * m)) := ⟨c0.ok.late _, c0.hm, by show mx (cnt (20 * m) / 2) (2 * s0.m) = _; rw [c0.hm], rfl, by show 0 < s0.m; have := c0.hm; omega⟩
    replace hK := hK.then hk3 hN
    clear hs c0 hk3
    generalize s0.late (20 * m) = s1 at hs3 cl
    generalize mx (cnt (20 * m) / 2) (2 * m) = t at cl
    go_wp2_with fail
    have hs := hs3
    have cl := cl
    have HT := Lib.hid cl.ht
    refine (state_any _ c g _ hs).mono ?_
    rintro e w4 ⟨rfl, hk4⟩
    replace hs := hs.only hk4
    replace hK := hK.trans hk4
    clear hk4
    rw [HT.out]
    go_wp2_with fail
    refine (among_any many 300 _ wmany (by omega) (by omega)).mono ?_
    rintro e _ ⟨rfl, rfl⟩
    have q0 : 0 ≤ many % 300 := by omega
    have q1 : many % 300 < 300 := by omega
    generalize many % 300 = q at q0 q1 ⊢
    go_wp2_with fail
    go_loopw [52] (fun i wr => ∃ (j : Nat) (s : VS), i = .int .i64 j ∧ (j : Int) ≤ q ∧ ValveAt wr c g s ∧ Calm s m t ∧ Only (fun _ => False) W wr) (fun i _ => 300 - (intOf i).toNat)
    case atStart => exact ⟨0, s1, rfl, by omega, hs, cl, hK⟩
    case round =>
      clear hs cl hK
      obtain ⟨j, s, rfl, hj, hs, cl, hK⟩ := hrel
      by_cases hin : (j : Int) < q
      · go_wp2_with fail
        refine (window_any s c g _ hs).mono ?_
        rintro e _ ⟨rfl, rfl⟩
        go_wp2_with fail
        refine (acked_any s c g m 0 _ hs cl.ok (by have := cl.gw; have := cl.ok.w2; omega)).mono ?_
        rintro e w5 ⟨rfl, hs5, hk5⟩
        have hK5 := hK.then hk5 hN
        obtain ⟨cl5, ha, hb⟩ := cl.acked 0
        have HA := Lib.hid ha
        have HB := Lib.hid hb
        have CL := Lib.hid cl
        have hw1 := cl.ok.w1
        have hw2 := cl.ok.w2
        have hmm := cl.hm
        clear cl ha hb
        generalize s.acked m 0 = s2 at *
        go_wp2_with fail
        refine (window_any s2 c g _ hs5).mono ?_
        rintro e _ ⟨rfl, rfl⟩
        by_cases hwt : s.wi < t
        · have b1 : decide (s.wi < t) = true := by simpa using hwt
          have b2 : (s2.wi != mn 1048576 (s.wi + m)) = false := by rw [(HA.out hwt).1]; simp
          have b3 : decide (t ≤ s.wi) = false := by simp; omega
          clear hwt
          go_wp2_with fail
          go_roundw
          case rel => exact ⟨j + 1, s2, by go_num, by omega, hs5, cl5, hK5⟩
          case measure => simp [intOf]; omega
        · have b1 : decide (s.wi < t) = false := by simpa using hwt
          have b3 : decide (t ≤ s.wi) = true := by simp; omega
          have hb := HB.out (by omega)
          have b2 : (s2.wi != s.wi) = false ∨ (s2.wi != s.wi) = true ∧ (s2.wi != mn 1048576 (s.wi + m)) = false := by
            rcases hb with ⟨_, h, _⟩ | ⟨_, h, _⟩
            · left; rw [h]; simp
            · cases hc : (s2.wi != s.wi) with
              | false => left; rfl
              | true => right; exact ⟨rfl, by rw [h]; simp⟩
          clear hwt hb
          rcases b2 with b2 | ⟨b2, b4⟩
          all_goals
            go_wp2_with fail
            go_roundw
            case rel => exact ⟨j + 1, s2, by go_num, by omega, hs5, cl5, hK5⟩
            case measure => simp [intOf]; omega
      · go_wp2_with fail
        refine (window_any s c g _ hs).mono ?_
        rintro e _ ⟨rfl, rfl⟩
        have CL := Lib.hid cl
        have hw1 := cl.ok.w1
        have hw2 := cl.ok.w2
        have hgw := cl.gw
        have hg0 := cl.ok.g1
        have hmm := cl.hm
        clear cl
        have hwm : m ≤ s.wi := by omega
        clear hw1 hmm
        by_cases hwt : s.wi < t
        · have b3 : decide (t ≤ s.wi) = false := by simp; omega
          clear hwt
          go_wp2_with fail
          go_ret
          exact ⟨rfl, hK.below (Nat.le_refl _) (fun _ _ h => h)⟩
        by_cases hw3 : s.wi + m < 1048576
        · have b3 : decide (t ≤ s.wi) = true := by simp; omega
          have b4 : decide (s.wi + m < 1048576) = true := by simpa using hw3
          have hm0 : ¬ m = 0 := by omega
          obtain ⟨d0, d1, d2, d3⟩ := up_many (w := s.wi) (m := m) (by omega) (by omega)
          have D2 := Lib.hid d2
          have D3 := Lib.hid d3
          clear d2 d3
          go_wp2_with fail
          generalize s.wi / m = d at d0 d1 D2 D3 ⊢
          have hup0 : Up s m s.wi s.ga 0 := Or.inl ⟨rfl, by simp, hgw⟩
          go_loopw [106] (fun i wr => ∃ (j : Nat) (s' : VS), i = .int .i64 j ∧ (j : Int) ≤ d + 1 ∧ ValveAt wr c g s' ∧ Calm s' m t ∧ Up s' m s.wi s.ga j ∧ Only (fun _ => False) W wr) (fun i _ => (d + 1 - intOf i).toNat)
          case atStart => exact ⟨0, s, rfl, by omega, hs, CL.out, hup0, hK⟩
          case round =>
            clear hs hK hup0
            obtain ⟨j, s', rfl, hj, hs, cl, hup, hK⟩ := hrel
            by_cases hin : (j : Int) < d + 1
            · have hjm : (j : Int) * m ≤ s.wi := by
                have h1 : (j : Int) * m ≤ d * m := Int.mul_le_mul_of_nonneg_right (by omega) (by omega)
                have h2 := D2.out
                omega
              have hst := hup.step cl (by omega) hw3 hgw hjm
              have cl2 := (cl.acked 0).1
              go_wp2_with fail
              refine (acked_any s' c g m 0 _ hs cl.ok (by have := cl.gw; have := cl.ok.w2; omega)).mono ?_
              rintro e w5 ⟨rfl, hs5, hk5⟩
              have hK5 := hK.then hk5 hN
              go_wp2_with fail
              go_roundw
              case rel => exact ⟨j + 1, _, by go_num, by omega, hs5, cl2, hst, hK5⟩
              case measure => simp [intOf]; omega
            · have hjd : (j : Int) = d + 1 := by omega
              have hwi : s'.wi = s.wi + m := by
                rcases hup with ⟨a, b, x⟩ | ⟨a, b, x⟩
                · exfalso
                  rw [hjd] at b
                  have := D3.out
                  omega
                · exact a
              have HWI := Lib.hid hwi
              clear hwi hup cl hjd
              have b5 : decide (s.wi < s.wi + m) = true := by simp; omega
              have b6 : decide (s.wi + m ≤ s.wi + 2 * m) = true := by simp; omega
              have b7 : decide (m ≤ 2 * m) = true := by simp; omega
              clear b3 b4 hwt hw3
              go_wp2_with (go_at_call 12; refine (window_any s' c g _ hs).mono ?_; rintro e _ ⟨rfl, rfl⟩; rw [HWI.out])
              go_ret
              exact ⟨rfl, hK.below (Nat.le_refl _) (fun _ _ h => h)⟩
        · have b3 : decide (t ≤ s.wi) = true := by simp; omega
          have b4 : decide (s.wi + m < 1048576) = false := by simpa using hw3
          clear hwt hw3
          go_wp2_with fail
          go_ret
          exact ⟨rfl, hK.below (Nat.le_refl _) (fun _ _ h => h)⟩
  · obtain ⟨t, c0⟩ : ∃ t, Calm s0 m t := ⟨_, c0⟩
    have hs := hs
    have cl := c0
    have HT := Lib.hid cl.ht
    refine (state_any _ c g _ hs).mono ?_
    rintro e w4 ⟨rfl, hk4⟩
    replace hs := hs.only hk4
    replace hK := hK.trans hk4
    clear hk4
    rw [HT.out]
    go_wp2_with fail
    refine (among_any many 300 _ wmany (by omega) (by omega)).mono ?_
    rintro e _ ⟨rfl, rfl⟩
    have q0 : 0 ≤ many % 300 := by omega
    have q1 : many % 300 < 300 := by omega
    generalize many % 300 = q at q0 q1 ⊢
    go_wp2_with fail
    go_loopw [52] (fun i wr => ∃ (j : Nat) (s : VS), i = .int .i64 j ∧ (j : Int) ≤ q ∧ ValveAt wr c g s ∧ Calm s m t ∧ Only (fun _ => False) W wr) (fun i _ => 300 - (intOf i).toNat)
    case atStart => exact ⟨0, s0, rfl, by omega, hs, cl, hK⟩
    case round =>
      clear hs cl hK
      obtain ⟨j, s, rfl, hj, hs, cl, hK⟩ := hrel
      by_cases hin : (j : Int) < q
      · go_wp2_with fail
        refine (window_any s c g _ hs).mono ?_
        rintro e _ ⟨rfl, rfl⟩
        go_wp2_with fail
        refine (acked_any s c g m 0 _ hs cl.ok (by have := cl.gw; have := cl.ok.w2; omega)).mono ?_
        rintro e w5 ⟨rfl, hs5, hk5⟩
        have hK5 := hK.then hk5 hN
        obtain ⟨cl5, ha, hb⟩ := cl.acked 0
        have HA := Lib.hid ha
        have HB := Lib.hid hb
        have CL := Lib.hid cl
        have hw1 := cl.ok.w1
        have hw2 := cl.ok.w2
        have hmm := cl.hm
        clear cl ha hb
        generalize s.acked m 0 = s2 at *
        go_wp2_with fail
        refine (window_any s2 c g _ hs5).mono ?_
        rintro e _ ⟨rfl, rfl⟩
        by_cases hwt : s.wi < t
        · have b1 : decide (s.wi < t) = true := by simpa using hwt
          have b2 : (s2.wi != mn 1048576 (s.wi + m)) = false := by rw [(HA.out hwt).1]; simp
          have b3 : decide (t ≤ s.wi) = false := by simp; omega
          clear hwt
          go_wp2_with fail
          go_roundw
          case rel => exact ⟨j + 1, s2, by go_num, by omega, hs5, cl5, hK5⟩
          case measure => simp [intOf]; omega
        · have b1 : decide (s.wi < t) = false := by simpa using hwt
          have b3 : decide (t ≤ s.wi) = true := by simp; omega
          have hb := HB.out (by omega)
          have b2 : (s2.wi != s.wi) = false ∨ (s2.wi != s.wi) = true ∧ (s2.wi != mn 1048576 (s.wi + m)) = false := by
            rcases hb with ⟨_, h, _⟩ | ⟨_, h, _⟩
            · left; rw [h]; simp
            · cases hc : (s2.wi != s.wi) with
              | false => left; rfl
              | true => right; exact ⟨rfl, by rw [h]; simp⟩
          clear hwt hb
          rcases b2 with b2 | ⟨b2, b4⟩
          all_goals
            go_wp2_with fail
            go_roundw
            case rel => exact ⟨j + 1, s2, by go_num, by omega, hs5, cl5, hK5⟩
            case measure => simp [intOf]; omega
      · go_wp2_with fail
        refine (window_any s c g _ hs).mono ?_
        rintro e _ ⟨rfl, rfl⟩
        have CL := Lib.hid cl
        have hw1 := cl.ok.w1
        have hw2 := cl.ok.w2
        have hgw := cl.gw
        have hg0 := cl.ok.g1
        have hmm := cl.hm
        clear cl
        have hwm : m ≤ s.wi := by omega
        clear hw1 hmm
        by_cases hwt : s.wi < t
        · have b3 : decide (t ≤ s.wi) = false := by simp; omega
          clear hwt
          go_wp2_with fail
          go_ret
          exact ⟨rfl, hK.below (Nat.le_refl _) (fun _ _ h => h)⟩
        by_cases hw3 : s.wi + m < 1048576
        · have b3 : decide (t ≤ s.wi) = true := by simp; omega
          have b4 : decide (s.wi + m < 1048576) = true := by simpa using hw3
          have hm0 : ¬ m = 0 := by omega
          obtain ⟨d0, d1, d2, d3⟩ := up_many (w := s.wi) (m := m) (by omega) (by omega)
          have D2 := Lib.hid d2
          have D3 := Lib.hid d3
          clear d2 d3
          go_wp2_with fail
          generalize s.wi / m = d at d0 d1 D2 D3 ⊢
          have hup0 : Up s m s.wi s.ga 0 := Or.inl ⟨rfl, by simp, hgw⟩
          go_loopw [106] (fun i wr => ∃ (j : Nat) (s' : VS), i = .int .i64 j ∧ (j : Int) ≤ d + 1 ∧ ValveAt wr c g s' ∧ Calm s' m t ∧ Up s' m s.wi s.ga j ∧ Only (fun _ => False) W wr) (fun i _ => (d + 1 - intOf i).toNat)
          case atStart => exact ⟨0, s, rfl, by omega, hs, CL.out, hup0, hK⟩
          case round =>
            clear hs hK hup0
            obtain ⟨j, s', rfl, hj, hs, cl, hup, hK⟩ := hrel
            by_cases hin : (j : Int) < d + 1
            · have hjm : (j : Int) * m ≤ s.wi := by
                have h1 : (j : Int) * m ≤ d * m := Int.mul_le_mul_of_nonneg_right (by omega) (by omega)
                have h2 := D2.out
                omega
              have hst := hup.step cl (by omega) hw3 hgw hjm
              have cl2 := (cl.acked 0).1
              go_wp2_with fail
              refine (acked_any s' c g m 0 _ hs cl.ok (by have := cl.gw; have := cl.ok.w2; omega)).mono ?_
              rintro e w5 ⟨rfl, hs5, hk5⟩
              have hK5 := hK.then hk5 hN
              go_wp2_with fail
              go_roundw
              case rel => exact ⟨j + 1, _, by go_num, by omega, hs5, cl2, hst, hK5⟩
              case measure => simp [intOf]; omega
            · have hjd : (j : Int) = d + 1 := by omega
              have hwi : s'.wi = s.wi + m := by
                rcases hup with ⟨a, b, x⟩ | ⟨a, b, x⟩
                · exfalso
                  rw [hjd] at b
                  have := D3.out
                  omega
                · exact a
              have HWI := Lib.hid hwi
              clear hwi hup cl hjd
              have b5 : decide (s.wi < s.wi + m) = true := by simp; omega
              have b6 : decide (s.wi + m ≤ s.wi + 2 * m) = true := by simp; omega
              have b7 : decide (m ≤ 2 * m) = true := by simp; omega
              clear b3 b4 hwt hw3
              go_wp2_with (go_at_call 12; refine (window_any s' c g _ hs).mono ?_; rintro e _ ⟨rfl, rfl⟩; rw [HWI.out])
              go_ret
              exact ⟨rfl, hK.below (Nat.le_refl _) (fun _ _ h => h)⟩
        · have b3 : decide (t ≤ s.wi) = true := by simp; omega
          have b4 : decide (s.wi + m < 1048576) = false := by simpa using hw3
          clear hwt hw3
          go_wp2_with fail
          go_ret
          exact ⟨rfl, hK.below (Nat.le_refl _) (fun _ _ h => h)⟩

end Go.Proofs.Ytdijimjcoollcaa

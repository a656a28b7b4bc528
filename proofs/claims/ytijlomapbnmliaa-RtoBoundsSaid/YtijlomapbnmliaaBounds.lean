/-
  The walk of the law RtoBounds.
  No conditions.
-/
import Derived.Test.YtijlomapbnmliaaLawRto
import Derived.Test.YtijlomapbnmliaaRtoHeld
set_option linter.unusedVariables false
set_option linter.unusedSimpArgs false
namespace Go.Proofs.Ytijlomapbnmliaa
open Go.RowKit
attribute [local go_sem] max_ii min_ii

theorem wait_quiet (g : Nat) (s : RtoS) (w : World) (n : Nat) (h : RtoAt w g s) : Calls Try.prog 11 #[.pointer (some ⟨g, 0, none⟩)] (w.drewN n) fun e w'' => e = .returned (.int .i64 s.wait) ∧ ∃ m, w'' = w.drewN m :=
  Calls.quiet_of_same ((wait_any g s (w.drewN n) h).mono fun _ _ x => ⟨x.1, x.2.symm⟩)

set_option maxHeartbeats 1000000 in
set_option maxRecDepth 100000 in
theorem bounds_walk (W : World) (cs : List Value) (hcs : CellsAre [.i, .i, .i] cs) (v : Value) (n : Nat) (f : Nat → List Value) (h : SlIs W [.i, .b] v n f) :
    Calls Try.prog 4 #[.agg cs.toArray, v] W fun e W' => e = .returned (.bool true) ∧ Below W.heap.size W W' := by
  obtain ⟨fi, l, g, rfl, hx, hy, hz⟩ := setup_cells hcs
  have fb := wf_bounds hx
  have lb := wf_bounds hy
  have gb := wf_bounds hz
  clear hcs hx hy hz
  obtain ⟨⟨a, cap, rfl, hle, hat⟩, hcells, hsmall⟩ := h
  obtain ⟨acts, hacts⟩ := acts_of hcells
  simp only [List.length_cons, List.length_nil, reachB] at hsmall
  go_enter Try.func4, Try.ntmps4
  go_wp2_with fail
  refine (works_any _).mono ?_
  rintro e w1 ⟨rfl, hk1⟩
  have hbox : w1.heap[W.heap.size]? = some (.cells #[.int .i64 fi, .int .i64 l, .int .i64 g] 35 (0, 0)) := hk1.at (blk_new W _) (fun h => h)
  have hK : Only (fun _ => False) W w1 := ((Only.refl _ W).alloc _).then hk1 (fun _ _ h => h)
  clear hk1
  have x0 := blk_cell hbox 0
  have x1 := blk_cell hbox 1
  have x2 := blk_cell hbox 2
  simp only [List.getElem?_toArray, List.getElem?_cons_zero, List.getElem?_cons_succ] at x0 x1 x2
  go_wp2_with fail
  by_cases hbad : badSetup fi l g
  · refine (new_bad fi l g _ hbad).mono ?_
    rintro e w2 ⟨rfl, rfl⟩
    go_wp2_with fail
    go_ret
    exact ⟨rfl, hK.below (Nat.le_refl _) (fun _ _ h => h)⟩
  refine (new_good fi l g _ hbad).mono ?_
  rintro e w2 ⟨rfl, hr, hk2⟩
  have hqp := heap_lt hbox
  have hbox := hk2.at hbox (fun h => h)
  have hK := hK.trans hk2
  clear hk2 x0 x1 x2
  generalize w1.heap.size = q at hr hqp ⊢
  have hH : Held (.new fi l g) := .new hbad
  have hl0 : (RtoS.new fi l g).least = l := rfl
  have hg0 : (RtoS.new fi l g).greatest = g := rfl
  generalize RtoS.new fi l g = s0 at hr hH hl0 hg0
  go_wp2_with fail
  go_loopw [7] (fun i wr => ∃ (k : Nat) (s : RtoS), i = .int .i64 k ∧ k ≤ n ∧ k ≤ 200 ∧ RtoAt wr q s ∧ Held s ∧ s.least = l ∧ s.greatest = g ∧ wr.heap[W.heap.size]? = some (.cells #[.int .i64 fi, .int .i64 l, .int .i64 g] 35 (0, 0)) ∧ Only (fun _ => False) W wr) (fun i _ => 200 - (intOf i).toNat)
  case atStart => exact ⟨0, s0, rfl, by omega, by omega, hr, hH, hl0, hg0, hbox, hK⟩
  case round =>
    obtain ⟨k, s, rfl, hkn, hk200, hr, hs, hl, hg, hbox, hK⟩ := hrel
    have hN : ∀ k', k' < W.heap.size → k' = q → False := fun k' h1 h2 => by omega
    by_cases hin : k < n ∧ k < 200
    · obtain ⟨hin, hi200⟩ := hin
      obtain ⟨b, off, rfl, hbW, hat⟩ := hat (by omega)
      have hc0 := hat k hin 0 (by decide)
      have hc1 := hat k hin 1 (by decide)
      rw [(hacts k hin).1] at hc0 hc1
      clear hat
      generalize acts k = x at hc0 hc1
      obtain ⟨tk, bk⟩ := x
      have hbl := hK.block b hbW (fun h => h)
      have y0 : wr.cell? ⟨b, off + k * 2, none⟩ = some (.int .i64 tk) := by
        rw [World.cell?_of_block (w := W) (w' := wr) (a := ⟨b, off + k * 2, none⟩) hbl]; exact hc0
      have y1 : wr.cell? ⟨b, off + k * 2 + 1, none⟩ = some (.bool bk) := by
        rw [World.cell?_of_block (w := W) (w' := wr) (a := ⟨b, off + k * 2 + 1, none⟩) hbl]; exact hc1
      clear hc0 hc1 hbl
      go_wp2_with fail
      refine (wait_any q _ _ hr).mono ?_
      rintro e _ ⟨rfl, rfl⟩
      go_wp2_with fail
      refine (state_any q _ _ hr).mono ?_
      rintro e w3 ⟨rfl, hk3⟩
      have hr3 : RtoAt w3 q s := hk3.at hr (fun h => h)
      have hbl := hk3.block b (by have := hK.size; omega) (fun h => h)
      rw [← World.cell?_of_block (w := wr) (w' := w3) (a := ⟨b, off + k * 2, none⟩) hbl] at y0
      rw [← World.cell?_of_block (w := wr) (w' := w3) (a := ⟨b, off + k * 2 + 1, none⟩) hbl] at y1
      have hbox3 := hk3.at hbox (fun h => h)
      have hK3 := hK.trans hk3
      clear hbl hk3 hK hbox hr
      cases bk with
      | true =>
        have hbb := hs.back_le
        have hsb := hs.back
        go_wp2_with fail
        refine (back_any q _ _ hr3 (by have := hs.l1; have := hs.lw; omega) (by have := hs.wg; have := hs.g1; omega) hs.b0 hs.b1).mono ?_
        rintro e w4 ⟨rfl, hr4, hk4⟩
        have hbox4 := hk4.at hbox3 (by omega)
        have z1 := blk_cell hbox4 1
        have z2 := blk_cell hbox4 2
        simp only [List.getElem?_toArray, List.getElem?_cons_zero, List.getElem?_cons_succ] at z1 z2
        have hK4 := hK3.then hk4 hN
        clear hk4 hK3 hbox3 hr3
        go_wp2_with fail
        have d1 : decide (s.back.wait < l) = false := by simp; have := hsb.lw; have : s.back.least = s.least := rfl; omega
        have d2 : decide (g < s.back.wait) = false := by simp; have := hsb.wg; have : s.back.greatest = s.greatest := rfl; omega
        go_quiet ((go_at_call 11; exact wait_quiet q _ _ _ hr4))
        go_wp2_with fail
        go_roundw
        case rel => exact ⟨k + 1, s.back, by go_num, by omega, by omega, hr4, hsb, hl, hg, hbox4, hK4.drewN _⟩
        case measure => simp [intOf]; omega
      | false =>
        by_cases htk : tk < 0 ∨ 1048576 < tk
        · go_wp2_with fail
          refine (sample_bad q tk _ htk).mono ?_
          rintro e _ ⟨rfl, rfl⟩
          go_wp2_with fail
          refine (state_any q _ _ hr3).mono ?_
          rintro e w4 ⟨rfl, hk4⟩
          have hr4 : RtoAt w4 q s := hk4.at hr3 (fun h => h)
          have hbox4 := hk4.at hbox3 (fun h => h)
          have z1 := blk_cell hbox4 1
          have z2 := blk_cell hbox4 2
          simp only [List.getElem?_toArray, List.getElem?_cons_zero, List.getElem?_cons_succ] at z1 z2
          have hK4 := hK3.trans hk4
          clear hk4 hK3 hbox3 hr3 htk
          go_wp2_with fail
          refine (wait_any q _ _ hr4).mono ?_
          rintro e _ ⟨rfl, rfl⟩
          have d1 : decide (s.wait < l) = false := by simp; have := hs.lw; omega
          have d2 : decide (g < s.wait) = false := by simp; have := hs.wg; omega
          go_wp2_with fail
          go_quiet ((go_at_call 11; exact wait_quiet q _ _ _ hr4))
          go_wp2_with fail
          go_roundw
          case rel => exact ⟨k + 1, s, by go_num, by omega, by omega, hr4, hs, hl, hg, hbox4, hK4.drewN _⟩
          case measure => simp [intOf]; omega
        · have hsb := hs.sample (t := tk) (by omega) (by omega)
          go_wp2_with fail
          refine (sample_good q s tk _ hr3 (by omega) (by omega) hs.m0 (by have := hs.m1; omega) hs.d0 (by have := hs.d1; omega)).mono ?_
          rintro e w4 ⟨rfl, hr4, hk4⟩
          have hbox4 := hk4.at hbox3 (by omega)
          have hK4 := hK3.then hk4 hN
          have hbk : (s.sample tk).backs = 0 := rfl
          have HBK := Lib.hid hbk
          clear hk4 hK3 hbox3 hr3 htk hbk
          go_wp2_with fail
          refine (state_any q _ _ hr4).mono ?_
          rintro e w5 ⟨rfl, hk5⟩
          have hr5 : RtoAt w5 q (s.sample tk) := hk5.at hr4 (fun h => h)
          have hbox5 := hk5.at hbox4 (fun h => h)
          have z1 := blk_cell hbox5 1
          have z2 := blk_cell hbox5 2
          simp only [List.getElem?_toArray, List.getElem?_cons_zero, List.getElem?_cons_succ] at z1 z2
          have hK5 := hK4.trans hk5
          clear hk5 hK4 hbox4 hr4
          rw [HBK.out]
          have d1 : decide ((s.sample tk).wait < l) = false := by simp; have := hsb.lw; have : (s.sample tk).least = s.least := rfl; omega
          have d2 : decide (g < (s.sample tk).wait) = false := by simp; have := hsb.wg; have : (s.sample tk).greatest = s.greatest := rfl; omega
          go_wp2_with fail
          go_quiet ((go_at_call 11; exact wait_quiet q _ _ _ hr5))
          go_wp2_with fail
          go_roundw
          case rel => exact ⟨k + 1, s.sample tk, by go_num, by omega, by omega, hr5, hsb, hl, hg, hbox5, hK5.drewN _⟩
          case measure => simp [intOf]; omega
    · by_cases hkn' : k < n
      all_goals
        go_wp2_with fail
        go_ret
        exact ⟨rfl, hK.below (Nat.le_refl _) (fun _ _ h => h)⟩
end Go.Proofs.Ytijlomapbnmliaa

/-
  The walk of the law RtoPlays.
  No conditions.
-/
import Derived.Test.YtijlomapbnmliaaLawRto
import Derived.Test.YtijlomapbnmliaaRtoHeld
import Derived.Deep.RegionHeld3
set_option linter.unusedVariables false
set_option linter.unusedSimpArgs false
namespace Go.Proofs.Ytijlomapbnmliaa
open Go.RowKit
attribute [local go_sem] max_ii min_ii

theorem bad_iff (f l g : Int) : rbadSetup f l g ↔ badSetup f l g := by
  unfold rbadSetup badSetup; omega

theorem wait_quiet' (g : Nat) (s : RtoS) (w : World) (n : Nat) (h : RtoAt w g s) : Calls Try.prog 11 #[.pointer (some ⟨g, 0, none⟩)] (w.drewN n) fun e w'' => e = .returned (.int .i64 s.wait) ∧ ∃ m, w'' = w.drewN m :=
  Calls.quiet_of_same ((wait_any g s (w.drewN n) h).mono fun _ _ x => ⟨x.1, x.2.symm⟩)

set_option maxHeartbeats 2000000 in
set_option maxRecDepth 100000 in
theorem rtoPlays_walk (W : World) (cs : List Value) (hcs : CellsAre [.i, .i, .i] cs) (v : Value) (n : Nat) (f : Nat → List Value) (h : SlIs W [.i, .b] v n f) :
    Calls Try.prog 6 #[.agg cs.toArray, v] W fun e W' => e = .returned (.bool true) ∧ Below W.heap.size W W' := by
  obtain ⟨fi, l, g, rfl, hx, hy, hz⟩ := setup_cells hcs
  have fb := wf_bounds hx
  have lb := wf_bounds hy
  have gb := wf_bounds hz
  clear hcs hx hy hz
  obtain ⟨⟨a, cap, rfl, hle, hat⟩, hcells, hsmall⟩ := h
  obtain ⟨acts, hacts⟩ := acts_of hcells
  simp only [List.length_cons, List.length_nil, reachB] at hsmall
  go_enter Try.func6, Try.ntmps6
  go_wp2_with fail
  by_cases hbad : badSetup fi l g
  · refine (new_bad fi l g _ hbad).mono ?_
    rintro e w2 ⟨rfl, rfl⟩
    go_wp2_with fail
    refine (rnew_bad fi l g _ ((bad_iff _ _ _).2 hbad)).mono ?_
    rintro e w2 ⟨rfl, rfl⟩
    go_wp2_with fail
    refine (works_any _).mono ?_
    rintro e w1 ⟨rfl, hk1⟩
    have hK : Only (fun _ => False) W w1 := ((Only.refl _ W).alloc _).then hk1 (fun _ _ h => h)
    go_wp2_with fail
    go_loopw [9] (fun i wr => i = .int .i64 0 ∧ Only (fun _ => False) W wr) (fun i _ => 0)
    case atStart => exact ⟨rfl, hK⟩
    case round =>
      obtain ⟨rfl, hK⟩ := hrel
      go_wp2_with fail
      go_ret
      exact ⟨rfl, hK.below (Nat.le_refl _) (fun _ _ h => h)⟩
  refine (new_good fi l g _ hbad).mono ?_
  rintro e w2 ⟨rfl, hr, hk2⟩
  have hbox : w2.heap[W.heap.size]? = some (.cells #[.int .i64 fi, .int .i64 l, .int .i64 g] 35 (0, 0)) := hk2.at (blk_new W _) (fun h => h)
  have hK : Only (fun _ => False) W w2 := ((Only.refl _ W).alloc _).then hk2 (fun _ _ h => h)
  have x0 := blk_cell hbox 0
  have x1 := blk_cell hbox 1
  have x2 := blk_cell hbox 2
  simp only [List.getElem?_toArray, List.getElem?_cons_zero, List.getElem?_cons_succ, World.size_alloc] at x0 x1 x2 hr
  clear hk2 hbox
  go_wp2_with fail
  refine (rnew_good fi l g _ (fun x => hbad ((bad_iff _ _ _).1 x))).mono ?_
  rintro e w3 ⟨rfl, hk, hk3⟩
  have hqp := heap_lt hr
  have hr : RtoAt w3 (W.heap.size + 1) _ := hk3.at hr (fun h => h)
  have hK := hK.trans hk3
  clear hk3 x0 x1 x2
  generalize w2.heap.size = q at hk hqp ⊢
  go_wp2_with fail
  refine (works_any _).mono ?_
  rintro e w4 ⟨rfl, hk4⟩
  have hr : RtoAt w4 (W.heap.size + 1) _ := hk4.at hr (fun h => h)
  have hk : RefAt w4 q _ := hk4.at hk (fun h => h)
  have hK := hK.trans hk4
  clear hk4
  have hH : Held (.new fi l g) := .new hbad
  generalize RtoS.new fi l g = s0 at hr hk hH
  go_wp2_with fail
  go_loopw [9] (fun i wr => ∃ (k : Nat) (s : RtoS), i = .int .i64 k ∧ k ≤ n ∧ k ≤ 200 ∧ RtoAt wr (W.heap.size + 1) s ∧ RefAt wr q s ∧ Held s ∧ Only (fun _ => False) W wr) (fun i _ => 200 - (intOf i).toNat)
  case atStart => exact ⟨0, s0, rfl, by omega, by omega, hr, hk, hH, hK⟩
  case round =>
    obtain ⟨k, s, rfl, hkn, hk200, hr, hk, hs, hK⟩ := hrel
    have hN : ∀ k', k' < W.heap.size → k' = q → False := fun k' h1 h2 => by omega
    have hN1 : ∀ k', k' < W.heap.size → k' = W.heap.size + 1 → False := fun k' h1 h2 => by omega
    by_cases hin : k < n ∧ k < 200
    · obtain ⟨hin, hi200⟩ := hin
      obtain ⟨b, off, rfl, hbW, hat⟩ := hat (by omega)
      have hc0 := hat k hin 0 (by decide)
      have hc1 := hat k hin 1 (by decide)
      rw [(hacts k hin).1] at hc0 hc1
      have wfk := wf_bounds (hacts k hin).2
      clear hat
      generalize acts k = x at hc0 hc1 wfk
      obtain ⟨tk, bk⟩ := x
      go_wp2_with fail
      refine (fork_any _ s _ hr).mono ?_
      rintro e w5 ⟨rfl, hf5, hk5⟩
      have hfp := heap_lt hr
      have hfq := heap_lt hk
      have hr5 : RtoAt w5 (W.heap.size + 1) s := hk5.at hr (fun h => h)
      have hk5' : RefAt w5 q s := hk5.at hk (fun h => h)
      have hK5 := hK.trans hk5
      have hWp := hK.size
      clear hk5 hK hr hk
      generalize wr.heap.size = p at hf5 hfp hfq hWp ⊢
      go_wp2_with fail
      obtain ⟨_, _, y2, _, _, _, _⟩ := hk5'.cells
      go_quiet ((go_at_call 11; exact wait_quiet' p _ _ _ hf5))
      go_wp2_with fail
      have s1 := hs.l1
      have s2 := hs.lw
      have s3 := hs.wg
      have s4 := hs.g1
      refine (back_any p s (w5.drewN nq) hf5 (by omega) (by omega) hs.b0 hs.b1).mono ?_
      rintro e w6 ⟨rfl, hf6, hk6⟩
      have hr6 : RtoAt w6 (W.heap.size + 1) s := hk6.at (w := World.drewN w5 _) hr5 (by omega)
      have hk6' : RefAt w6 q s := hk6.at (w := World.drewN w5 _) hk5' (by omega)
      have hK6 := (hK5.drewN _).then hk6 (fun i h1 h2 => by omega)
      clear hk6 y2 hr5 hk5' hK5 hf5
      have hsb := hs.back
      go_wp2_with fail
      refine (sample_good p s.back 7 _ hf6 (by omega) (by omega) hsb.m0 (by have := hsb.m1; omega) hsb.d0 (by have := hsb.d1; omega)).mono ?_
      rintro e w7 ⟨rfl, hf7, hk7⟩
      have hr7 : RtoAt w7 (W.heap.size + 1) s := hk7.at hr6 (by omega)
      have hk7' : RefAt w7 q s := hk7.at hk6' (by omega)
      have hK7 := hK6.then hk7 (fun i h1 h2 => by omega)
      have hbl := hK7.block b hbW (fun h => h)
      have y0 : w7.cell? ⟨b, off + k * 2, none⟩ = some (.int .i64 tk) := by
        rw [World.cell?_of_block (w := W) (w' := w7) (a := ⟨b, off + k * 2, none⟩) hbl]; exact hc0
      have y1 : w7.cell? ⟨b, off + k * 2 + 1, none⟩ = some (.bool bk) := by
        rw [World.cell?_of_block (w := W) (w' := w7) (a := ⟨b, off + k * 2 + 1, none⟩) hbl]; exact hc1
      clear hk7 hr6 hk6' hK6 hf6 hf7 hbl hc0 hc1 hsb
      have hbq : b ≠ q := by omega
      have hb1 : b ≠ W.heap.size + 1 := by omega
      clear hfp hfq hWp
      cases bk with
      | true =>
        go_wp2_with fail
        refine (back_any _ s _ hr7 (by omega) (by omega) hs.b0 hs.b1).mono ?_
        rintro e w8 ⟨rfl, hr8, hk8⟩
        have hk8' : RefAt w8 q s := hk8.at hk7' (by omega)
        have hK8 := hK7.then hk8 hN1
        clear hk8 hr7 hk7' hK7 y0 y1
        go_wp2_with fail
        refine (rback_any q s _ hk8' (by omega) (by omega) hs.b0 hs.b1).mono ?_
        rintro e w9 ⟨rfl, hk9', hk9⟩
        have hr9 : RtoAt w9 (W.heap.size + 1) s.back := hk9.at hr8 (by omega)
        have hK9 := hK8.then hk9 hN
        clear hk9 hr8 hk8' hK8
        have hsb := hs.back
        clear s1 s2 s3 s4
        generalize s.back = s' at *
        go_wp2_with fail
        refine (state_any _ s' _ hr9).mono ?_
        rintro e w10 ⟨rfl, hk10⟩
        have hr10 : RtoAt w10 (W.heap.size + 1) s' := hk10.at hr9 (fun h => h)
        have hk10' : RefAt w10 q s' := hk10.at hk9' (fun h => h)
        have hK10 := hK9.trans hk10
        clear hk10 hr9 hk9' hK9
        obtain ⟨_, _, y2, y3, y4, y5, _⟩ := hk10'.cells
        go_wp2_with fail
        go_quiet ((go_at_call 11; exact wait_quiet' _ _ _ _ hr10))
        go_wp2_with fail
        go_roundw
        case rel => exact ⟨k + 1, s', by go_num, by omega, by omega, hr10, hk10', hsb, hK10.drewN _⟩
        case measure => simp [intOf]; omega
      | false =>
        go_wp2_with fail
        by_cases htk : tk < 0 ∨ 1048576 < tk
        · go_quiet ((first | (go_at_call 10; exact Calls.quiet_of_same ((sample_bad _ tk _ htk).mono fun _ _ x => ⟨x.1, x.2.symm⟩)) | (go_at_call 17; exact Calls.quiet_of_same ((rsample_bad _ tk _ htk).mono fun _ _ x => ⟨x.1, x.2.symm⟩))))
          go_wp2_with fail
          refine (state_any _ s (w7.drewN nq) hr7).mono ?_
          rintro e w10 ⟨rfl, hk10⟩
          have hr10 : RtoAt w10 (W.heap.size + 1) s := hk10.undrewN.at hr7 (fun h => h)
          have hk10' : RefAt w10 q s := hk10.undrewN.at hk7' (fun h => h)
          have hK10 := hK7.trans hk10.undrewN
          clear hk10 hr7 hk7' hK7 y0 y1 htk
          obtain ⟨_, _, y2, y3, y4, y5, _⟩ := hk10'.cells
          go_wp2_with fail
          go_quiet ((go_at_call 11; exact wait_quiet' _ _ _ _ hr10))
          go_wp2_with fail
          go_roundw
          case rel => exact ⟨k + 1, s, by go_num, by omega, by omega, hr10, hk10', hs, hK10.drewN _⟩
          case measure => simp [intOf]; omega
        · go_region_held3 (fun w' => w'.cell? ⟨b, off + k * 2, none⟩ = some (.int .i64 tk)) (first | exact y0 | assumption)
            (first
              | (go_at_call 10; refine (sample_good _ s tk _ (by exact hr7) (by omega) (by omega) hs.m0 (by have := hs.m1; omega) hs.d0 (by have := hs.d1; omega)).mono ?_; rintro e w8 ⟨rfl, hr8, hk8⟩; have y8 : w8.cell? ⟨b, off + k * 2, none⟩ = some (.int .i64 tk) := cell_only (w := w7) hk8.undrew (by omega) y0; have hk8' : RefAt w8 q s := hk8.undrew.at hk7' (by omega))
              | (go_at_call 17; refine (rsample_good q s tk _ (by exact hk8') (by omega) (by omega) hs.m0 (by have := hs.m1; omega) hs.d0 (by have := hs.d1; omega)).mono ?_; rintro e w9 ⟨rfl, hk9', hk9⟩; have y9 : w9.cell? ⟨b, off + k * 2, none⟩ = some (.int .i64 tk) := cell_only (w := w8) hk9 (by omega) y8))
          have hr9 : RtoAt w9 (W.heap.size + 1) (s.sample tk) := hk9.at hr8 (by omega)
          have hK9 := (hK7.then hk8.undrew hN1).then hk9 hN
          have hsb := hs.sample (t := tk) (by omega) (by omega)
          clear hk9 hr8 hk8' hk8 hK7 y0 y1 y8 y9 htk hr7 hk7' s1 s2 s3 s4
          generalize s.sample tk = s' at *
          go_wp2_with fail
          refine (state_any _ s' _ hr9).mono ?_
          rintro e w10 ⟨rfl, hk10⟩
          have hr10 : RtoAt w10 (W.heap.size + 1) s' := hk10.at hr9 (fun h => h)
          have hk10' : RefAt w10 q s' := hk10.at hk9' (fun h => h)
          have hK10 := hK9.trans hk10
          clear hk10 hr9 hk9' hK9
          obtain ⟨_, _, y2, y3, y4, y5, _⟩ := hk10'.cells
          go_wp2_with fail
          go_quiet ((go_at_call 11; exact wait_quiet' _ _ _ _ hr10))
          go_wp2_with fail
          go_roundw
          case rel => exact ⟨k + 1, s', by go_num, by omega, by omega, hr10, hk10', hsb, hK10.drewN _⟩
          case measure => simp [intOf]; omega
    · have hb7 : (some (⟨q, 0, none⟩ : Addr) == none) = false := rfl
      by_cases hkn' : k < n
      all_goals
        go_wp2_with fail
        go_ret
        exact ⟨rfl, hK.below (Nat.le_refl _) (fun _ _ h => h)⟩
end Go.Proofs.Ytijlomapbnmliaa

/-
  The walk of the law RtoSteady.
  No conditions.
-/
import Derived.Test.YtijlomapbnmliaaLawRto
import Derived.Test.YtijlomapbnmliaaSteadyEnd
import Derived.Test.YtijlomapbnmliaaAmong
import Derived.Test.YtijlomapbnmliaaOpen
set_option linter.unusedVariables false
set_option linter.unusedSimpArgs false
namespace Go.Proofs.Ytijlomapbnmliaa
open Go.RowKit
attribute [local go_sem] max_ii min_ii

theorem act_cells {cs : List Value} (h : CellsAre [.i, .b] cs) : ∃ x y, cs = [.int .i64 x, .bool y] ∧ (Lit.int .i64 x).wf = true := by
  obtain ⟨x, _, rfl, hx, h1⟩ := h.i
  obtain ⟨y, _, rfl, h2⟩ := h1.b
  rw [h2.nil]
  exact ⟨x, y, rfl, hx⟩

set_option maxRecDepth 100000 in
theorem steady_walk (W : World) (t : Int) (wt : (Lit.int .i64 t).wf = true) (v : Value) (n : Nat) (f : Nat → List Value) (h : SlIs W [.i, .b] v n f) :
    Calls Try.prog 3 #[.int .i64 t, v] W fun e W' => e = .returned (.bool true) ∧ Below W.heap.size W W' := by
  obtain ⟨⟨a, cap, rfl, hle, hat⟩, hcells, hsmall⟩ := h
  have hacts : ∀ i, i < n → ∃ x : Int × Bool, f i = [.int .i64 x.1, .bool x.2] ∧ (Lit.int .i64 x.1).wf = true := by
    intro i hi
    obtain ⟨x, y, h1, h2⟩ := act_cells (hcells i hi)
    exact ⟨(x, y), h1, h2⟩
  obtain ⟨acts, hacts⟩ := Deep.choose_lt hacts
  simp only [List.length_cons, List.length_nil, reachB] at hsmall
  go_enter Try.func3, Try.ntmps3
  go_wp2_with fail
  refine (works_any _).mono ?_
  rintro e w1 ⟨rfl, hk1⟩
  go_wp2_with fail
  refine (among_any t 5000 _ wt (by omega) (by omega)).mono ?_
  rintro e w2 ⟨rfl, rfl⟩
  have t0 : 0 ≤ t % 5000 := by omega
  have t1 : t % 5000 < 5000 := by omega
  generalize t % 5000 = t at t0 t1 ⊢
  go_wp2_with fail
  refine (new_good 100 10 1048576 _ (by unfold badSetup; omega)).mono ?_
  rintro e w2 ⟨rfl, hr, hk2⟩
  have hK2 := hk1.trans hk2
  clear hk2
  generalize hg : w1.heap.size = g at hr ⊢
  have hgw : W.heap.size ≤ g := by rw [← hg]; exact hk1.size
  clear hg hk1
  go_wp2_with fail
  go_loopw [7] (fun i wr => ∃ (k : Nat) (s : RtoS), i = .int .i64 k ∧ k ≤ n ∧ k ≤ 30 ∧ RtoAt wr g s ∧ Calm s ∧ Only (fun _ => False) W wr) (fun i _ => 30 - (intOf i).toNat)
  case atStart => exact ⟨0, _, rfl, by omega, by omega, hr, ⟨rfl, rfl, by decide, by decide, by decide, by decide⟩, hK2⟩
  case round =>
    obtain ⟨k, s, rfl, hkn, hk30, hr, hs, hK⟩ := hrel
    by_cases hin : k < n ∧ k < 30
    · obtain ⟨hin, hi30⟩ := hin
      obtain ⟨b, off, rfl, hbW, hat⟩ := hat (by omega)
      have hc := hat k hin 0 (by decide)
      rw [(hacts k hin).1] at hc
      have hbg : b ≠ g := by omega
      have hcr : wr.cell? ⟨b, off + k * 2, none⟩ = some (.int .i64 (acts k).1) := by
        rw [World.cell?_of_block (w := W) (w' := wr) (a := ⟨b, off + k * 2, none⟩) (hK.block b hbW (fun h => h))]; exact hc
      have hN : ∀ k', k' < W.heap.size → k' = g → False := fun k' h1 h2 => by omega
      go_wp2_with fail
      · refine (sample_good g s _ _ hr (by assumption) (by omega) hs.m0 (by have := hs.m1; omega) hs.d0 (by have := hs.d1; omega)).mono ?_
        rintro e w3 ⟨rfl, hr3, hk3⟩
        go_wp2_with fail
        go_roundw
        case rel => exact ⟨k + 1, s.sample (acts k).1, by go_num, by omega, by omega, hr3, hs.sample (by assumption) (by assumption), hK.then hk3 hN⟩
        case measure => simp [intOf]; omega
      all_goals
        go_roundw
        case rel => exact ⟨k + 1, s, by go_num, by omega, by omega, hr, hs, hK⟩
        case measure => simp [intOf]; omega
    · have hout : ∀ k', k' < W.heap.size → k' = g → False := fun k' h1 h2 => by omega
      by_cases hkn' : k < n
      all_goals
        go_wp2_with fail
        go_loopw [53] (fun j wr => ∃ q : Nat, j = .int .i64 q ∧ q ≤ 200 ∧ RtoAt wr g (s.often t q) ∧ Only (fun _ => False) W wr) (fun j _ => 200 - (intOf j).toNat)
        case atStart => exact ⟨0, rfl, by omega, hr, hK⟩
        case round =>
          obtain ⟨q, rfl, hq, hr, hK⟩ := hrel
          have hsq := hs.often t0 t1 q
          by_cases hq2 : q < 200
          · go_wp2_with fail
            refine (sample_good g _ _ _ hr t0 (by omega) hsq.m0 (by have := hsq.m1; omega) hsq.d0 (by have := hsq.d1; omega)).mono ?_
            rintro e w3 ⟨rfl, hr3, hk3⟩
            go_wp2_with fail
            go_roundw
            case rel => exact ⟨q + 1, by go_num, by omega, hr3, hK.then hk3 hout⟩
            case measure => simp [intOf]; omega
          · obtain rfl : q = 200 := by omega
            obtain ⟨e1, e2⟩ := steady_end hs t0 t1
            clear hsq
            generalize s.often t 200 = s2 at hr e1 e2
            go_wp2_with fail
            refine (wait_any g _ _ hr).mono ?_
            rintro e w4 ⟨rfl, rfl⟩
            go_wp2_with fail
            refine (wait_any g _ _ hr).mono ?_
            rintro e w4 ⟨rfl, rfl⟩
            go_wp2_with fail
            go_ret
            exact ⟨rfl, hK.below (Nat.le_refl _) (fun _ _ h => h)⟩
end Go.Proofs.Ytijlomapbnmliaa

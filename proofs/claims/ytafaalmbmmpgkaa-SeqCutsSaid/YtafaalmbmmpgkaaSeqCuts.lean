/-
  The walk of the law SeqCuts.
  No conditions.
-/
import Derived.Test.YtafaalmbmmpgkaaLaw01
import Derived.Test.YtafaalmbmmpgkaaOpen
set_option linter.unusedVariables false
set_option linter.unusedSimpArgs false
namespace Go.Proofs.Ytafaalmbmmpgkaa
open Go.RowKit

theorem cuts_plain (f l x z : Int) (f0 : 0 ≤ f) (f1 : f < 4294967296) (l0 : 0 ≤ l) (l1 : l < 300) (x0 : -350 ≤ x) (x1 : x < 350) (z0 : 0 ≤ z) (z1 : z < 300) :
    0 ≤ cutSkip f l ((f + x) % 4294967296) z ∧ 0 ≤ cutKeep f l ((f + x) % 4294967296) z ∧ cutSkip f l ((f + x) % 4294967296) z + cutKeep f l ((f + x) % 4294967296) z ≤ l ∧
    ∀ i : Int, 0 ≤ i → i < l → (aheadB ((f + i) % 4294967296) ((f + x) % 4294967296) = decide (i < cutSkip f l ((f + x) % 4294967296) z)) ∧
      (inB ((f + i) % 4294967296) ((f + x) % 4294967296) z = (decide (cutSkip f l ((f + x) % 4294967296) z ≤ i) && decide (i < cutSkip f l ((f + x) % 4294967296) z + cutKeep f l ((f + x) % 4294967296) z))) := by
  have hd : ((f + x) % 4294967296 - f) % 4294967296 = x % 4294967296 := by omega
  have ha : ∀ i, 0 ≤ i → i < l → ((f + x) % 4294967296 - (f + i) % 4294967296) % 4294967296 = (x - i) % 4294967296 := by intro i _ _; omega
  have hi : ∀ i, 0 ≤ i → i < l → ((f + i) % 4294967296 - (f + x) % 4294967296) % 4294967296 = (i - x) % 4294967296 := by intro i _ _; omega
  unfold cutSkip cutKeep
  simp only [hd]
  by_cases hx : 0 ≤ x
  · have e1 : x % 4294967296 = x := by omega
    rw [e1, if_neg (by omega), if_neg (by omega)]
    refine ⟨by unfold mn; omega, by unfold mn; omega, by unfold mn; omega, fun i i0 i1 => ⟨?_, ?_⟩⟩
    · unfold aheadB mn
      rw [ha i i0 i1, Bool.eq_iff_iff]
      simp only [Bool.and_eq_true, decide_eq_true_eq]
      omega
    · unfold inB mn
      rw [hi i i0 i1, Bool.eq_iff_iff]
      simp only [Bool.and_eq_true, decide_eq_true_eq]
      omega
  · have e1 : x % 4294967296 = x + 4294967296 := by omega
    rw [e1, if_pos (by omega), if_pos (by omega)]
    refine ⟨by omega, by unfold mx mn; omega, by unfold mx mn; omega, fun i i0 i1 => ⟨?_, ?_⟩⟩
    · unfold aheadB
      rw [ha i i0 i1, Bool.eq_iff_iff]
      simp only [Bool.and_eq_true, decide_eq_true_eq]
      omega
    · unfold inB mx mn
      rw [hi i i0 i1, Bool.eq_iff_iff]
      simp only [Bool.and_eq_true, decide_eq_true_eq]
      omega

set_option maxHeartbeats 2000000 in
set_option maxRecDepth 100000 in
theorem seqCuts_walk (W : World) (a : Int) (wa : (Lit.int .i64 a).wf = true) (l : Int) (wl : (Lit.int .i64 l).wf = true) (cs : List Value) (hcs : CellsAre [.i, .i] cs) :
    Calls Try.prog 4 #[.int .i64 a, .int .i64 l, .agg cs.toArray] W fun e W' => e = .returned (.bool true) ∧ Below W.heap.size W W' := by
  obtain ⟨x, _, rfl, wx, h1⟩ := hcs.i
  obtain ⟨z, _, rfl, wz, h2⟩ := h1.i
  obtain rfl := h2.nil
  clear hcs h1 h2
  go_enter Try.func4, Try.ntmps4
  go_wp2_with fail
  refine (works01 _).mono ?_
  rintro e _ ⟨rfl, rfl⟩
  go_wp2_with fail
  refine (fit_any a _ wa).mono ?_
  rintro e _ ⟨rfl, rfl⟩
  go_wp2_with fail
  refine (among_any l 300 _ wl (by omega) (by omega)).mono ?_
  rintro e _ ⟨rfl, rfl⟩
  go_wp2_with fail
  refine (among_any x 700 _ wx (by omega) (by omega)).mono ?_
  rintro e _ ⟨rfl, rfl⟩
  have f0 : 0 ≤ a % 4294967296 := by omega
  have f1 : a % 4294967296 < 4294967296 := by omega
  have l0 : 0 ≤ l % 300 := by omega
  have l1 : l % 300 < 300 := by omega
  have x0 : 0 ≤ x % 700 := by omega
  have x1 : x % 700 < 700 := by omega
  have z0 : 0 ≤ z % 300 := by omega
  have z1 : z % 300 < 300 := by omega
  have hp := cuts_plain (a % 4294967296) (l % 300) (x % 700 - 350) (z % 300) f0 f1 l0 l1 (by omega) (by omega) z0 z1
  have hr0 : 0 ≤ (a % 4294967296 + (x % 700 - 350)) % 4294967296 := by omega
  have hr1 : (a % 4294967296 + (x % 700 - 350)) % 4294967296 < 4294967296 := by omega
  generalize a % 4294967296 = f at f0 f1 hp hr0 hr1 ⊢
  generalize l % 300 = m at l0 l1 hp ⊢
  generalize x % 700 = y at x0 x1 hp hr0 hr1 ⊢
  go_wp2_with fail
  refine (add_ok f (y - 350) _ f0 f1 (by omega) (by omega)).mono ?_
  rintro e _ ⟨rfl, rfl⟩
  generalize (f + (y - 350)) % 4294967296 = r at hp hr0 hr1 ⊢
  go_wp2_with fail
  refine (among_any z 300 _ wz (by omega) (by omega)).mono ?_
  rintro e _ ⟨rfl, rfl⟩
  generalize z % 300 = c at z0 z1 hp ⊢
  go_wp2_with fail
  refine (cut_ok f m r c _ f0 f1 hr0 hr1 l0 (by omega) z0 (by omega)).mono ?_
  rintro e _ ⟨rfl, rfl⟩
  obtain ⟨s0, k0, sk, hp⟩ := hp
  have HP := Lib.hid hp
  clear hp wa wl wx wz
  generalize cutSkip f m r c = s at s0 sk HP ⊢
  generalize cutKeep f m r c = k at k0 sk HP ⊢
  go_wp2_with fail
  go_loop [69] (fun j => ∃ q : Nat, j = .int .i64 q ∧ (q : Int) ≤ m) (fun j => (m - intOf j).toNat)
  case atStart => exact ⟨0, rfl, by omega⟩
  case round =>
    obtain ⟨q, rfl, hq⟩ := hrel
    by_cases hlt : (q : Int) < m
    · obtain ⟨ha, hi⟩ := HP.out q (by omega) hlt
      have ha := Lib.hid ha
      have hi := Lib.hid hi
      have n0 : 0 ≤ (f + (q : Int)) % 4294967296 := by omega
      have n1 : (f + (q : Int)) % 4294967296 < 4294967296 := by omega
      go_wp2_with fail
      refine (add_ok f q _ f0 f1 (by omega) (by omega)).mono ?_
      rintro e _ ⟨rfl, rfl⟩
      generalize (f + (q : Int)) % 4294967296 = n at n0 n1 ha hi ⊢
      go_wp2_with fail
      refine (in_ok n r c _ hr0 hr1 n0 n1 z0 (by omega)).mono ?_
      rintro e _ ⟨rfl, rfl⟩
      rw [hi.out]
      go_wp2_with fail
      refine (ahead_ok n r _ n0 n1 hr0 hr1).mono ?_
      rintro e _ ⟨rfl, rfl⟩
      rw [ha.out]
      by_cases c1 : s ≤ (q : Int)
      · have d1 : decide (s ≤ (q : Int)) = true := decide_eq_true c1
        have d2 : decide ((q : Int) < s) = false := decide_eq_false (by omega)
        by_cases c2 : (q : Int) < s + k
        · have d3 : decide ((q : Int) < s + k) = true := decide_eq_true c2
          go_wp2_with fail
          go_round
          case rel => exact ⟨q + 1, by go_num, by omega⟩
          case measure => simp [intOf]; omega
        · have d3 : decide ((q : Int) < s + k) = false := decide_eq_false c2
          go_wp2_with fail
          go_round
          case rel => exact ⟨q + 1, by go_num, by omega⟩
          case measure => simp [intOf]; omega
      · have d1 : decide (s ≤ (q : Int)) = false := decide_eq_false c1
        have d2 : decide ((q : Int) < s) = true := decide_eq_true (by omega)
        go_wp2_with fail
        go_round
        case rel => exact ⟨q + 1, by go_num, by omega⟩
        case measure => simp [intOf]; omega
    · go_wp2_with fail
      go_ret
      exact ⟨rfl, (Below.refl _ _).alloc (Nat.le_refl _) _⟩
end Go.Proofs.Ytafaalmbmmpgkaa

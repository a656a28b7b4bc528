/-
  The walk of the law RtoDoubles.
  No conditions.
-/
import Derived.Test.YtijlomapbnmliaaLawRto
import Derived.Test.YtijlomapbnmliaaAmong
import Derived.Test.YtijlomapbnmliaaRtoHeld
set_option linter.unusedVariables false
set_option linter.unusedSimpArgs false
namespace Go.Proofs.Ytijlomapbnmliaa
open Go.RowKit
attribute [local go_sem] max_ii min_ii

/-- So many doublings. -/
def RtoS.backed (s : RtoS) : Nat → RtoS
  | 0 => s
  | k + 1 => (s.backed k).back

theorem backed_keeps (s : RtoS) : ∀ k, (s.backed k).least = s.least ∧ (s.backed k).greatest = s.greatest ∧ (s.backed k).mean = s.mean ∧ (s.backed k).dev = s.dev ∧ (s.backed k).any = s.any
  | 0 => ⟨rfl, rfl, rfl, rfl, rfl⟩
  | k + 1 => backed_keeps s k

theorem backed_sample (s : RtoS) (t : Int) (k : Nat) : (s.backed k).sample t = s.sample t := by
  obtain ⟨a, b, c, d, e⟩ := backed_keeps s k
  simp only [RtoS.sample, a, b, c, d, e]

theorem doubles_walk (W : World) (first : Int) (w0 : (Lit.int .i64 first).wf = true) (many : Int) (w1 : (Lit.int .i64 many).wf = true) (greatest : Int) (w2 : (Lit.int .i64 greatest).wf = true) :
    Calls Try.prog 5 #[.int .i64 first, .int .i64 many, .int .i64 greatest] W fun e W' => e = .returned (.bool true) ∧ Below W.heap.size W W' := by
  go_enter Try.func5, Try.ntmps5
  go_wp2_with fail
  refine (among_any first 1000 _ w0 (by omega) (by omega)).mono ?_
  rintro e _ ⟨rfl, rfl⟩
  have f0 : 0 ≤ first % 1000 := by omega
  have f1 : first % 1000 < 1000 := by omega
  generalize first % 1000 = f at f0 f1 ⊢
  go_wp2_with fail
  refine (among_any greatest 524288 _ w2 (by omega) (by omega)).mono ?_
  rintro e _ ⟨rfl, rfl⟩
  have g0 : 0 ≤ greatest % 524288 := by omega
  have g1 : greatest % 524288 < 524288 := by omega
  generalize greatest % 524288 = g at g0 g1 ⊢
  go_wp2_with fail
  refine (among_any many 40 _ w1 (by omega) (by omega)).mono ?_
  rintro e _ ⟨rfl, rfl⟩
  have m0 : 0 ≤ many % 40 := by omega
  have m1 : many % 40 < 40 := by omega
  generalize many % 40 = m at m0 m1 ⊢
  have hbad : ¬ badSetup (1 + f) 1 (1 + f + g) := by unfold badSetup; omega
  go_wp2_with fail
  refine (new_good (1 + f) 1 (1 + f + g) _ hbad).mono ?_
  rintro e w3 ⟨rfl, hr, hk1⟩
  go_wp2_with fail
  refine (new_good (1 + f) 1 (1 + f + g) _ hbad).mono ?_
  rintro e w4 ⟨rfl, hs, hk2⟩
  have hqp := heap_lt hr
  have hr : RtoAt w4 W.heap.size _ := hk2.at hr (fun h => h)
  have hK := hk1.trans hk2
  clear hk1 hk2
  generalize w3.heap.size = q at hs hqp ⊢
  go_wp2_with fail
  refine (works_any _).mono ?_
  rintro e w5 ⟨rfl, hk5⟩
  have hr : RtoAt w5 W.heap.size _ := hk5.at hr (fun h => h)
  have hs : RtoAt w5 q _ := hk5.at hs (fun h => h)
  have hK := hK.trans hk5
  clear hk5
  have hH : Held (.new (1 + f) 1 (1 + f + g)) := .new hbad
  have hg0 : (RtoS.new (1 + f) 1 (1 + f + g)).greatest = 1 + f + g := rfl
  have hw0 : (RtoS.new (1 + f) 1 (1 + f + g)).wait = 1 + f := rfl
  have HG := Lib.hid hg0
  have HW := Lib.hid hw0
  clear hbad hg0 hw0
  generalize RtoS.new (1 + f) 1 (1 + f + g) = s0 at hr hs hH HG HW
  go_wp2_with fail
  go_loopw [11, 56] (fun x j wr => ∃ k : Nat, j = .int .i64 k ∧ (k : Int) ≤ m ∧ x = .int .i64 (s0.backed k).wait ∧ RtoAt wr W.heap.size (s0.backed k) ∧ RtoAt wr q s0 ∧ Held (s0.backed k) ∧ Only (fun _ => False) W wr) (fun _ j _ => (m - intOf j).toNat)
  case atStart => exact ⟨0, rfl, by omega, by rw [show (s0.backed 0).wait = 1 + f from HW.out], hr, hs, hH, hK⟩
  case round =>
    obtain ⟨k, rfl, hkm, rfl, hr, hs, hH2, hK⟩ := hrel
    have hout : ∀ k', k' < W.heap.size → k' = W.heap.size → False := fun k' h1 h2 => by omega
    have hwb : (s0.backed k).back.wait = mn (1 + f + g) (2 * (s0.backed k).wait) := by
      show mn (s0.backed k).greatest _ = _
      rw [(backed_keeps s0 k).2.1, HG.out]
    have HB := Lib.hid hwb
    clear hwb
    have b1 := hH2.lw
    have b2 := hH2.wg
    have b3 := hH2.l1
    have b4 := hH2.g1
    by_cases hlt : (k : Int) < m
    · go_wp2_with fail
      refine (back_any W.heap.size _ _ hr (by omega) (by omega) hH2.b0 hH2.b1).mono ?_
      rintro e w6 ⟨rfl, hr6, hk6⟩
      rw [HB.out]
      go_wp2_with fail
      go_roundw
      case rel => exact ⟨k + 1, by go_num, by omega, by rw [← HB.out]; rfl, hr6, hk6.at hs (by omega), hH2.back, hK.then hk6 hout⟩
      case measure => simp [intOf]; omega
    · go_wp2_with fail
      refine (sample_good W.heap.size _ 9 _ hr (by omega) (by omega) hH2.m0 (by have := hH2.m1; omega) hH2.d0 (by have := hH2.d1; omega)).mono ?_
      rintro e w6 ⟨rfl, hr6, hk6⟩
      rw [backed_sample] at hr6
      have hs6 : RtoAt w6 q s0 := hk6.at hs (by omega)
      go_wp2_with fail
      refine (sample_good q _ 9 _ hs6 (by omega) (by omega) hH.m0 (by have := hH.m1; omega) hH.d0 (by have := hH.d1; omega)).mono ?_
      rintro e w7 ⟨rfl, hs7, hk7⟩
      have hr7 : RtoAt w7 W.heap.size (s0.sample 9) := hk7.at hr6 (by omega)
      have hbk : (s0.sample 9).backs = 0 := rfl
      have HBK := Lib.hid hbk
      clear hbk
      go_wp2_with fail
      refine (state_any W.heap.size _ _ hr7).mono ?_
      rintro e w8 ⟨rfl, hk8⟩
      have hr8 : RtoAt w8 W.heap.size (s0.sample 9) := hk8.at hr7 (fun h => h)
      have hs8 : RtoAt w8 q (s0.sample 9) := hk8.at hs7 (fun h => h)
      rw [HBK.out]
      go_wp2_with fail
      refine (wait_any W.heap.size _ _ hr8).mono ?_
      rintro e _ ⟨rfl, rfl⟩
      go_wp2_with fail
      refine (wait_any q _ _ hs8).mono ?_
      rintro e _ ⟨rfl, rfl⟩
      go_wp2_with fail
      go_ret
      exact ⟨rfl, (((hK.then hk6 hout).then hk7 (fun i h1 h2 => by omega)).trans hk8).below (Nat.le_refl _) (fun _ _ h => h)⟩
end Go.Proofs.Ytijlomapbnmliaa

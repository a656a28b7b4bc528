/-
  The walk of the law EtherWrites.
  No conditions.
-/
import Derived.Test.YtcopdgaidfchlaaLaw03
import Derived.Test.YtcopdgaidfchlaaRef03Any
import Derived.Test.YtcopdgaidfchlaaKept
import Derived.Deep.RegionHeld3
set_option linter.unusedVariables false
set_option linter.unusedSimpArgs false
namespace Go.Proofs.Ytcopdgaidfchlaa
open Go.RowKit

theorem frame_cellsW {cs : List Value} (h : CellsAre [.i, .i, .i, .s] cs) : ∃ (t f k : Int) (d : ByteArray), cs = [.int .i64 t, .int .i64 f, .int .i64 k, .string d] ∧ d.size ≤ reachB := by
  obtain ⟨t, _, rfl, _, h1⟩ := h.i
  obtain ⟨f, _, rfl, _, h2⟩ := h1.i
  obtain ⟨k, _, rfl, _, h3⟩ := h2.i
  obtain ⟨d, _, rfl, hd, h4⟩ := h3.s
  obtain rfl := h4.nil
  exact ⟨t, f, k, d, rfl, hd⟩

theorem for_both (t f k : Int) (d : ByteArray) (n : Nat) (x : Nat → Int) : ∃ b : Bool,
    (∀ w a cap, IntsIn w a n cap x → Calls Try.prog 11 #[.agg #[.int .i64 t, .int .i64 f, .int .i64 k, .string d], .slice a n cap] w fun e w' => e = .returned (.bool b) ∧ Only (fun _ => False) w w') ∧
    (∀ w a cap, IntsIn w a n cap x → Calls Try.prog 12 #[.agg #[.int .i64 t, .int .i64 f, .int .i64 k, .string d], .slice a n cap] w fun e w' => e = .returned (.bool b) ∧ Only (fun _ => False) w w') := by
  by_cases hf : FrameOk t f k d
  · exact ⟨_, fun w a cap h => for_ok w t f k d a n cap x h hf, fun w a cap h => rfor_ok w t f k d a n cap x h hf⟩
  · exact ⟨_, fun w a cap h => for_bad w t f k d a n cap x h hf, fun w a cap h => rfor_bad w t f k d a n cap x h hf⟩

set_option maxHeartbeats 4000000 in
theorem etherWrites_walk (W : World) (cs : List Value) (hcs : CellsAre [.i, .i, .i, .s] cs) (v : Value) (n : Nat) (fn : Nat → List Value) (hv : SlIs W [.i] v n fn) :
    Calls Try.prog 3 #[.agg cs.toArray, v] W fun e W' => e = .returned (.bool true) ∧ Below W.heap.size W W' := by
  obtain ⟨t, f, k, d, rfl, _⟩ := frame_cellsW hcs
  obtain ⟨a, cap, x, rfl, hin⟩ := ints_of hv
  clear hcs hv
  obtain ⟨fb, hfa, hfb⟩ := for_both t f k d n x
  have HA := Lib.hid (fun w => eencode_any t f k d w)
  have HB := Lib.hid (fun w => rencode_any t f k d w)
  have HC := Lib.hid (fun w => echeck_any t f k d w)
  have HD := Lib.hid (fun w => rcheck_any t f k d w)
  have HE := Lib.hid hfa
  have HF := Lib.hid hfb
  have HW := Lib.hid (fun w => works03 w)
  generalize encS t f k d = tx at HA HB
  generalize frCode t f k d = ac at HA HB HC HD
  clear hfa hfb
  go_enter Try.func3, Try.ntmps3
  have hO := (Only.refl (fun _ => False) W).alloc (.cells #[.int .i64 t, .int .i64 f, .int .i64 k, .string d] 23)
  have kP := blk_new W (.cells #[.int .i64 t, .int .i64 f, .int .i64 k, .string d] 23)
  have HI := Lib.hid (hin.only hO)
  clear hin
  go_wp2_with fail
  refine (HA.out _).mono ?_
  rintro e w1 ⟨rfl, hk⟩
  replace hO := hO.trans hk
  replace kP := hk.at kP (fun h => h)
  replace HI := Lib.hid (HI.out.only hk)
  clear hk
  have x0 := blk_cell kP 0
  have x1 := blk_cell kP 1
  have x2 := blk_cell kP 2
  have x3 := blk_cell kP 3
  simp only [List.getElem?_toArray, List.getElem?_cons_zero, List.getElem?_cons_succ] at x0 x1 x2 x3
  go_wp2_with fail
  refine (HB.out _).mono ?_
  rintro e w2 ⟨rfl, hk⟩
  replace hO := hO.trans hk
  replace kP := hk.at kP (fun h => h)
  replace HI := Lib.hid (HI.out.only hk)
  clear hk x0 x1 x2 x3
  go_wp2_with fail
  refine (lend_any _ a n cap x HI.out).mono ?_
  rintro e w3 ⟨g, cap', cur, rfl, hgw, hg, hgc, hgt, hk⟩
  replace hO := hO.trans hk
  replace kP := hk.at kP (fun h => h)
  replace HI := Lib.hid (HI.out.only hk)
  clear hk
  have x0 := blk_cell kP 0
  have x1 := blk_cell kP 1
  have x2 := blk_cell kP 2
  have x3 := blk_cell kP 3
  simp only [List.getElem?_toArray, List.getElem?_cons_zero, List.getElem?_cons_succ] at x0 x1 x2 x3
  have HG := Lib.hid hg
  have HGT := Lib.hid hgt
  clear kP hg hgt hgw
  generalize W.heap.size = p at *
  go_wp2_with fail
  go_region_held3 (fun w' => (w'.cell? ⟨p, 0, none⟩ = some (.int .i64 t) ∧ w'.cell? ⟨p, 1, none⟩ = some (.int .i64 f) ∧ w'.cell? ⟨p, 2, none⟩ = some (.int .i64 k) ∧ w'.cell? ⟨p, 3, none⟩ = some (.string d)) ∧ Only (fun _ => False) W w')
    (first | exact ⟨⟨x0, x1, x2, x3⟩, hO⟩ | exact ⟨⟨x0, x1, x2, x3⟩, hO.drew⟩ | assumption)
    (first
      | (go_at_call 9; refine (HC.out _).mono ?_; rintro e wn ⟨rfl, hk⟩; have HI := Lib.hid (show IntsIn wn a n cap x from by first | exact HI.out.only hk | exact HI.out.only hk.undrew); have HG := Lib.hid (show wn.heap[g]? = some (.cells cur 3 (0, 0)) from by first | exact hk.at HG.out (fun h => h) | exact hk.undrew.at HG.out (fun h => h)); replace x0 := cell_only hk (fun h => h) x0; replace x1 := cell_only hk (fun h => h) x1; replace x2 := cell_only hk (fun h => h) x2; replace x3 := cell_only hk (fun h => h) x3; replace hO := hO.step hk ⟨rfl, rfl, rfl, rfl⟩ (fun _ _ h => h))
      | (go_at_call 10; refine (HD.out _).mono ?_; rintro e wn ⟨rfl, hk⟩; have HI := Lib.hid (show IntsIn wn a n cap x from by first | exact HI.out.only hk | exact HI.out.only hk.undrew); have HG := Lib.hid (show wn.heap[g]? = some (.cells cur 3 (0, 0)) from by first | exact hk.at HG.out (fun h => h) | exact hk.undrew.at HG.out (fun h => h)); replace x0 := cell_only hk (fun h => h) x0; replace x1 := cell_only hk (fun h => h) x1; replace x2 := cell_only hk (fun h => h) x2; replace x3 := cell_only hk (fun h => h) x3; replace hO := hO.step hk ⟨rfl, rfl, rfl, rfl⟩ (fun _ _ h => h))
      | (go_at_call 11; refine (HE.out _ _ _ (lent_ints HG.out hgc HGT.out HI.out.small).1).mono ?_; rintro e wn ⟨rfl, hk⟩; have HI := Lib.hid (show IntsIn wn a n cap x from by first | exact HI.out.only hk | exact HI.out.only hk.undrew); have HG := Lib.hid (show wn.heap[g]? = some (.cells cur 3 (0, 0)) from by first | exact hk.at HG.out (fun h => h) | exact hk.undrew.at HG.out (fun h => h)); replace x0 := cell_only hk (fun h => h) x0; replace x1 := cell_only hk (fun h => h) x1; replace x2 := cell_only hk (fun h => h) x2; replace x3 := cell_only hk (fun h => h) x3; replace hO := hO.step hk ⟨rfl, rfl, rfl, rfl⟩ (fun _ _ h => h))
      | (go_at_call 12; refine (HF.out _ _ _ HI.out).mono ?_; rintro e wn ⟨rfl, hk⟩; have HI := Lib.hid (show IntsIn wn a n cap x from by first | exact HI.out.only hk | exact HI.out.only hk.undrew); have HG := Lib.hid (show wn.heap[g]? = some (.cells cur 3 (0, 0)) from by first | exact hk.at HG.out (fun h => h) | exact hk.undrew.at HG.out (fun h => h)); replace x0 := cell_only hk (fun h => h) x0; replace x1 := cell_only hk (fun h => h) x1; replace x2 := cell_only hk (fun h => h) x2; replace x3 := cell_only hk (fun h => h) x3; replace hO := hO.step hk ⟨rfl, rfl, rfl, rfl⟩ (fun _ _ h => h))
      | (go_at_call 13; refine (kept_true _ g n cap' cur a cap x HG.out hgc HGT.out HI.out).mono ?_; rintro e wn ⟨rfl, hk⟩; have HI := Lib.hid (show IntsIn wn a n cap x from by first | exact HI.out.only hk | exact HI.out.only hk.undrew); have HG := Lib.hid (show wn.heap[g]? = some (.cells cur 3 (0, 0)) from by first | exact hk.at HG.out (fun h => h) | exact hk.undrew.at HG.out (fun h => h)); replace x0 := cell_only hk (fun h => h) x0; replace x1 := cell_only hk (fun h => h) x1; replace x2 := cell_only hk (fun h => h) x2; replace x3 := cell_only hk (fun h => h) x3; replace hO := hO.step hk ⟨rfl, rfl, rfl, rfl⟩ (fun _ _ h => h))
      | (go_at_call 14; refine (HW.out _).mono ?_; rintro e wn ⟨rfl, hk⟩; have HI := Lib.hid (show IntsIn wn a n cap x from by first | exact HI.out.only hk | exact HI.out.only hk.undrew); have HG := Lib.hid (show wn.heap[g]? = some (.cells cur 3 (0, 0)) from by first | exact hk.at HG.out (fun h => h) | exact hk.undrew.at HG.out (fun h => h)); replace x0 := cell_only hk (fun h => h) x0; replace x1 := cell_only hk (fun h => h) x1; replace x2 := cell_only hk (fun h => h) x2; replace x3 := cell_only hk (fun h => h) x3; replace hO := hO.step hk ⟨rfl, rfl, rfl, rfl⟩ (fun _ _ h => h)))
  go_wp2_with fail
  go_ret
  exact ⟨rfl, hO.below (Nat.le_refl _) (fun _ _ h => h)⟩

end Go.Proofs.Ytcopdgaidfchlaa

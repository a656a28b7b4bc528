/-
  What the laws of layer 17 share: the contract of the chapter's example; the acts of a slice.
  No conditions.
-/
import Derived.Test.YtdijimjcoollcaaCongAct
import Derived.Test.YtdijimjcoollcaaAmong
import Derived.Test.YtdijimjcoollcaaOpen
set_option linter.unusedVariables false
set_option linter.unusedSimpArgs false
namespace Go.Proofs.Ytdijimjcoollcaa
open Go.RowKit
attribute [local go_sem] max_ii min_ii

theorem works_any (w : World) : Calls Try.prog 8 #[] w fun e w' => e = .returned (.bool true) ∧ Only (fun _ => False) w w' := by
  go_enter Try.func8, Try.ntmps8
  go_wp2_with fail
  refine (new_good 100 _ (by omega) (by omega)).mono ?_
  rintro e w1 ⟨rfl, h1, hk1⟩
  have o1 := VOk.new (m := 100) (by omega) (by omega)
  have e1 : (⟨100, mn (4 * 100) (mx (2 * 100) 4380), 1048576, 0, 0, false, 0⟩ : VS) = ⟨100, 400, 1048576, 0, 0, false, 0⟩ := rfl
  rw [e1] at h1 o1
  have hN : ∀ k, k < w.heap.size → k = w.heap.size + 1 → False := fun k h1 h2 => by omega
  generalize w.heap.size + 1 = g at h1 hN ⊢
  generalize w.heap.size = c at h1
  go_wp2_with fail
  refine (window_any _ c g _ h1).mono ?_
  rintro e _ ⟨rfl, rfl⟩
  go_wp2_with fail
  refine (acked_any _ c g 100 5 _ h1 o1 (by decide)).mono ?_
  rintro e w2 ⟨rfl, h2, hk2⟩
  have o2 := (o1.acked 100 5).1
  have e2 : (⟨100, 400, 1048576, 0, 0, false, 0⟩ : VS).acked 100 5 = ⟨100, 500, 1048576, 0, 0, false, 0⟩ := rfl
  rw [e2] at h2 o2
  go_wp2_with fail
  refine (window_any _ c g _ h2).mono ?_
  rintro e _ ⟨rfl, rfl⟩
  go_wp2_with fail
  refine (same_any _ c g 500 9 _ h2 o2).mono ?_
  rintro e w3 ⟨rfl, h3, hk3⟩
  have o3 := (o2.same 500 9).1
  have e3 : (⟨100, 500, 1048576, 0, 0, false, 0⟩ : VS).same 500 9 = ⟨100, 500, 1048576, 1, 0, false, 0⟩ := rfl
  rw [e3] at h3 o3
  go_wp2_with fail
  refine (same_any _ c g 500 9 _ h3 o3).mono ?_
  rintro e w4 ⟨rfl, h4, hk4⟩
  have o4 := (o3.same 500 9).1
  have e4 : (⟨100, 500, 1048576, 1, 0, false, 0⟩ : VS).same 500 9 = ⟨100, 500, 1048576, 2, 0, false, 0⟩ := rfl
  rw [e4] at h4 o4
  go_wp2_with fail
  refine (same_any _ c g 500 9 _ h4 o4).mono ?_
  rintro e w5 ⟨rfl, h5, hk5⟩
  have o5 := (o4.same 500 9).1
  have e5 : (⟨100, 500, 1048576, 2, 0, false, 0⟩ : VS).same 500 9 = ⟨100, 550, 250, 3, 0, true, 9⟩ := rfl
  rw [e5] at h5 o5
  have t1 : (⟨100, 500, 1048576, 0, 0, false, 0⟩ : VS).third = false := rfl
  have t2 : (⟨100, 500, 1048576, 1, 0, false, 0⟩ : VS).third = false := rfl
  have t3 : (⟨100, 500, 1048576, 2, 0, false, 0⟩ : VS).third = true := rfl
  rw [t1, t2, t3]
  go_wp2_with fail
  refine (state_any _ c g _ h5).mono ?_
  rintro e w6 ⟨rfl, hk6⟩
  have h6 : ValveAt w6 c g _ := ⟨hk6.at h5.1 (fun h => h), hk6.at h5.2.1 (fun h => h), h5.2.2⟩
  go_wp2_with fail
  refine (window_any _ c g _ h6).mono ?_
  rintro e _ ⟨rfl, rfl⟩
  go_wp2_with fail
  go_ret
  exact ⟨rfl, ((((hk1.then hk2 hN).then hk3 hN).then hk4 hN).then hk5 hN).trans hk6⟩

theorem ValveAt.only {w w' : World} {c g : Nat} {s : VS} (h : ValveAt w c g s) (hk : Only (fun _ => False) w w') : ValveAt w' c g s :=
  ⟨hk.at h.1 (fun h => h), hk.at h.2.1 (fun h => h), h.2.2⟩

theorem act3_cells {cs : List Value} (h : CellsAre [.i, .i, .i] cs) : ∃ x y z, cs = [.int .i64 x, .int .i64 y, .int .i64 z] ∧ (Lit.int .i64 x).wf = true ∧ (Lit.int .i64 y).wf = true ∧ (Lit.int .i64 z).wf = true := by
  obtain ⟨x, _, rfl, hx, h1⟩ := h.i
  obtain ⟨y, _, rfl, hy, h2⟩ := h1.i
  obtain ⟨z, _, rfl, hz, h3⟩ := h2.i
  rw [h3.nil]
  exact ⟨x, y, z, rfl, hx, hy, hz⟩

theorem acts3_of {n : Nat} {f : Nat → List Value} (h : ∀ i, i < n → CellsAre [.i, .i, .i] (f i)) : ∃ acts : Nat → Int × Int × Int, ∀ i, i < n → f i = [.int .i64 (acts i).1, .int .i64 (acts i).2.1, .int .i64 (acts i).2.2] ∧ (Lit.int .i64 (acts i).1).wf = true ∧ (Lit.int .i64 (acts i).2.1).wf = true ∧ (Lit.int .i64 (acts i).2.2).wf = true := by
  have : ∀ i, i < n → ∃ x : Int × Int × Int, f i = [.int .i64 x.1, .int .i64 x.2.1, .int .i64 x.2.2] ∧ (Lit.int .i64 x.1).wf = true ∧ (Lit.int .i64 x.2.1).wf = true ∧ (Lit.int .i64 x.2.2).wf = true := by
    intro i hi
    obtain ⟨x, y, z, h1, h2⟩ := act3_cells (h i hi)
    exact ⟨(x, y, z), h1, h2⟩
  exact Deep.choose_lt this

end Go.Proofs.Ytdijimjcoollcaa

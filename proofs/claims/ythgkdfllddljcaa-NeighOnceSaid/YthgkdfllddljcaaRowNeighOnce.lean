/-
  The row of the law 'NeighOnce': for every input it returns true, and each argument reads afterwards as it read before.
  No conditions.
-/
import Derived.Test.YthgkdfllddljcaaRows
import Derived.Test.YthgkdfllddljcaaOpen
import Derived.Test.YthgkdfllddljcaaNeighOnce
set_option linter.unusedVariables false
set_option linter.unusedSimpArgs false
namespace Go.Proofs.Ythgkdfllddljcaa.neighOnce
open Go.ChangeShapes Go.WideShapes Go.ChangeAt Go.RowKit Go.Deep
open Go.ChangeMaps (open_string shut_string)
theorem own : ownKnob Try.prog.godebug = none := by kernel_rfl
theorem laidOut : laidOutB Try.prog = true := by kernel_rfl
set_option maxRecDepth 100000 in
theorem lifted (os : Os) (started : os.Started) (H : Type) (enc : TypeId × Value → H) :
    ReturnsInHanded {} Try.checked os 5 .any (Rows.neighOnceSpec.pre6 enc Try.prog Try.f5 Rows.neighOnceRow.domain false) (Rows.neighOnceSpec.post enc Try.prog Try.f5 false true false false) := by
  refine returnsInHanded_of_change_sized (C := Try.checked) own started (by kernel_rfl) Try.func5
    (ChangeSpec.witness6 (enc := enc) (C := Try.checked) false ⟨#[], #[.slice none 0 0], []⟩ 8 (by kernel_rfl) (by kernel_rfl) (by kernel_rfl) (by kernel_rfl)) ?_
  intro W base args ds gs before hval0 hW hcnd hsz0 _
  have hval : ∀ (j : Nat) t v, Try.f5.params[j]? = some t → args[j]? = some v → Value.okWide Try.prog W .any base t v := hval0
  have hsz : (DataW.weightsEach Try.prog (Try.f5.params.toList ++ Rows.neighOnceSpec.plain.varTypes Try.prog) (ds ++ gs)).all (· ≤ reachBytes) = true := hsz0
  have hW' := hW
  obtain ⟨p, q, hA0, hV, rfl, hfz, hnd⟩ := hW
  have hA : DataW.TrodAll enc Try.prog W 0 (fun _ => true) true Try.f5.params.toList args.toList ds p := hA0
  rw [Try.params5] at hA hval hsz
  have hA1 := hA
  obtain ⟨v0, vs0, d0, ds0, p0, q0', hargs, rfl, rfl, h0, r0⟩ := trodAll_cons hA
  obtain ⟨rfl, rfl, rfl⟩ := trodAll_nil r0
  obtain rfl : args = #[v0] := by cases args; simp_all
  obtain ⟨rfl, rfl⟩ := trodVars_none hV
  have hwt : ∀ (j : Nat) (t : TypeId) (d : DataW H), ([43] : List TypeId)[j]? = some t → [d0][j]? = some d → ∀ n ∈ d.weights Try.prog t, n ≤ reachB := by
    intro j t d ht hd n hn
    have := List.all_eq_true.1 hsz n (DataW.weights_mem_each (j := j) (t := t) (d := d) (by rw [← ht]; rfl) (by rw [← hd]; rfl) n hn)
    exact of_decide_eq_true this
  have hlt : ∀ x ∈ (p0 ++ []), x.block < W.heap.size := fun x hx => hW'.lt x (by simpa using hx)
  clear hA0 hval0 hsz0 hsz
  have s0 := hwt 0 43 d0 rfl rfl
  obtain ⟨y0, q0, z0, rfl⟩ := okWide_slice Try.underlying43 (hval 0 43 v0 rfl rfl)
  obtain ⟨n0, f0, g0⟩ : ∃ n f, SlIs W [.i, .i, .i, .i, .i, .i, .i, .i, .i, .b, .b, .s, .s, .i, .i, .i, .i, .i, .b] (.slice y0 q0 z0) n f := open_slice_cells 9 Try.underlying43 (by kernel_rfl) (by kernel_rfl) (Nat.le_of_ble_eq_true (by kernel_rfl)) (fun h => by first | exact Nat.le_of_ble_eq_true (by kernel_rfl) | exact absurd h (by decide)) (by decide) ⟨_, _, _, rfl⟩ h0 s0
  refine (neighOnce_walk W (.slice y0 q0 z0) n0 f0 g0).mono fun e W' ⟨he, bel⟩ => ?_
  subst he
  exact ⟨_, rfl, _, _, _, [], _, [], hW', trodAll_mk1 (shut_bool Try.underlying4 _), trodAll_below laidOut bel (by kernel_rfl) hA1 (by first | exact hlt | simpa using hlt), rfl, bel.frame _, fun h => by cases h⟩
theorem over : Rows.neighOnceRow.holds Try.pinned (OpenSpec.ofChange Rows.neighOnceSpec) :=
  OpenClaim.holds_of_wide 5 Try.f5 rfl rfl rfl rfl rfl rfl rfl ⟨rfl, rfl, rfl, rfl, rfl⟩ rfl rfl rfl rfl rfl (by kernel_rfl) Try.func5 (by kernel_rfl)
    (of_decide_eq_true (by kernel_rfl)) (by unfold Func.isWrapper; first | (rw [if_pos (by decide +kernel)]; kernel_rfl) | (rw [if_neg (by decide +kernel)]; exact ⟨rfl, rfl⟩))
    (fun os started H enc _ => lifted os started H enc)
theorem proved : Rows.NeighOnceSaid := over
#print axioms proved
end Go.Proofs.Ythgkdfllddljcaa.neighOnce
namespace Go.Proofs.Ythgkdfllddljcaa
/-- The row, under a short name, for the claim. -/
theorem neighOnce_holds : Rows.NeighOnceSaid := neighOnce.proved
end Go.Proofs.Ythgkdfllddljcaa

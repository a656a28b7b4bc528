/-
  The row of the law 'ChannelPlays': for every input it returns true, and each argument reads afterwards as it read before.
  No conditions.
-/
import Derived.Test.YteifehienpeaiaaRows
import Derived.Test.YteifehienpeaiaaOpen
import Derived.Test.YteifehienpeaiaaChanPlays
set_option linter.unusedVariables false
set_option linter.unusedSimpArgs false
namespace Go.Proofs.Yteifehienpeaiaa.channelPlays
open Go.ChangeShapes Go.WideShapes Go.ChangeAt Go.RowKit Go.Deep
open Go.ChangeMaps (open_string shut_string)
theorem own : ownKnob Try.prog.godebug = none := by kernel_rfl
theorem laidOut : laidOutB Try.prog = true := by kernel_rfl
set_option maxRecDepth 100000 in
theorem lifted (os : Os) (started : os.Started) (H : Type) (enc : TypeId × Value → H) :
    ReturnsInHanded {} Try.checked os 8 .any (Rows.channelPlaysSpec.pre6 enc Try.prog Try.f8 Rows.channelPlaysRow.domain false) (Rows.channelPlaysSpec.post enc Try.prog Try.f8 false true false false) := by
  refine returnsInHanded_of_change_sized (C := Try.checked) own started (by kernel_rfl) Try.func8
    (ChangeSpec.witness6 (enc := enc) (C := Try.checked) false ⟨#[], #[.agg #[.int .i64 0, .int .i64 0, .int .i64 0, .int .i64 0, .int .i64 0, .int .i64 0, .int .i64 0], .slice none 0 0], []⟩ 8 (by kernel_rfl) (by kernel_rfl) (by kernel_rfl) (by kernel_rfl)) ?_
  intro W base args ds gs before hval0 hW hcnd hsz0 _
  have hval : ∀ (j : Nat) t v, Try.f8.params[j]? = some t → args[j]? = some v → Value.okWide Try.prog W .any base t v := hval0
  have hsz : (DataW.weightsEach Try.prog (Try.f8.params.toList ++ Rows.channelPlaysSpec.plain.varTypes Try.prog) (ds ++ gs)).all (· ≤ reachBytes) = true := hsz0
  have hW' := hW
  obtain ⟨p, q, hA0, hV, rfl, hfz, hnd⟩ := hW
  have hA : DataW.TrodAll enc Try.prog W 0 (fun _ => true) true Try.f8.params.toList args.toList ds p := hA0
  rw [Try.params8] at hA hval hsz
  have hA1 := hA
  obtain ⟨v0, vs0, d0, ds0, p0, q0', hargs, rfl, rfl, h0, r0⟩ := trodAll_cons hA
  obtain ⟨v1, vs1, d1, ds1, p1, q1', rfl, rfl, rfl, h1, r1⟩ := trodAll_cons r0
  obtain ⟨rfl, rfl, rfl⟩ := trodAll_nil r1
  obtain rfl : args = #[v0, v1] := by cases args; simp_all
  obtain ⟨rfl, rfl⟩ := trodVars_none hV
  have hwt : ∀ (j : Nat) (t : TypeId) (d : DataW H), ([64, 65] : List TypeId)[j]? = some t → [d0, d1][j]? = some d → ∀ n ∈ d.weights Try.prog t, n ≤ reachB := by
    intro j t d ht hd n hn
    have := List.all_eq_true.1 hsz n (DataW.weights_mem_each (j := j) (t := t) (d := d) (by rw [← ht]; rfl) (by rw [← hd]; rfl) n hn)
    exact of_decide_eq_true this
  have hlt : ∀ x ∈ (p0 ++ (p1 ++ [])), x.block < W.heap.size := fun x hx => hW'.lt x (by simpa using hx)
  clear hA0 hval0 hsz0 hsz
  have s0 := hwt 0 64 d0 rfl rfl
  have c0 : CellsAre [.i, .i, .i, .i, .i, .i, .i] v0.cells.toList := open_cells 9 (by kernel_rfl) h0 s0
  obtain ⟨x0, rfl⟩ : ∃ cs, v0 = .agg cs := by
    have := hval 0 64 v0 rfl rfl
    unfold Value.okWide at this
    rw [Try.underlying64] at this
    obtain ⟨cs, e, _⟩ := this
    exact ⟨cs, e⟩
  obtain ⟨l0, rfl⟩ : ∃ l : List Value, x0 = l.toArray := ⟨x0.toList, by simp⟩
  have s1 := hwt 1 65 d1 rfl rfl
  obtain ⟨y1, q1, z1, rfl⟩ := okWide_slice Try.underlying65 (hval 1 65 v1 rfl rfl)
  obtain ⟨n1, f1, g1⟩ : ∃ n f, SlIs W [.i, .i, .i, .s, .i, .i, .i, .i, .i, .s, .b] (.slice y1 q1 z1) n f := open_slice_cells 9 Try.underlying65 (by kernel_rfl) (by kernel_rfl) (Nat.le_of_ble_eq_true (by kernel_rfl)) (fun h => by first | exact Nat.le_of_ble_eq_true (by kernel_rfl) | exact absurd h (by decide)) (by decide) ⟨_, _, _, rfl⟩ h1 s1
  refine (chanPlays_walk W l0 (by simpa [Value.cells] using c0) (.slice y1 q1 z1) n1 f1 g1).mono fun e W' ⟨he, bel⟩ => ?_
  subst he
  exact ⟨_, rfl, _, _, _, [], _, [], hW', trodAll_mk1 (shut_bool Try.underlying4 _), trodAll_below laidOut bel (by kernel_rfl) hA1 (by first | exact hlt | simpa using hlt), rfl, bel.frame _, fun h => by cases h⟩
theorem over : Rows.channelPlaysRow.holds Try.pinned (OpenSpec.ofChange Rows.channelPlaysSpec) :=
  OpenClaim.holds_of_wide 8 Try.f8 rfl rfl rfl rfl rfl rfl rfl ⟨rfl, rfl, rfl, rfl, rfl⟩ rfl rfl rfl rfl rfl (by kernel_rfl) Try.func8 (by kernel_rfl)
    (of_decide_eq_true (by kernel_rfl)) (by unfold Func.isWrapper; first | (rw [if_pos (by decide +kernel)]; kernel_rfl) | (rw [if_neg (by decide +kernel)]; exact ⟨rfl, rfl⟩))
    (fun os started H enc _ => lifted os started H enc)
theorem proved : Rows.ChannelPlaysSaid := over
#print axioms proved
end Go.Proofs.Yteifehienpeaiaa.channelPlays
namespace Go.Proofs.Yteifehienpeaiaa
/-- The row, under a short name, for the claim. -/
theorem channelPlays_holds : Rows.ChannelPlaysSaid := channelPlays.proved
end Go.Proofs.Yteifehienpeaiaa

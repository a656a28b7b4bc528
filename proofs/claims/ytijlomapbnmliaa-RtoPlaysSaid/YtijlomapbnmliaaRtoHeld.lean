/-
  What stays true of an estimator under whatever samples and doublings; and an act of the laws as its cells.
  No conditions.
-/
import Derived.Test.YtijlomapbnmliaaRto
import Derived.Test.YtijlomapbnmliaaOpen
set_option linter.unusedVariables false
set_option linter.unusedSimpArgs false
namespace Go.Proofs.Ytijlomapbnmliaa

structure Held (s : RtoS) : Prop where
  l1 : 1 ≤ s.least
  lw : s.least ≤ s.wait
  wg : s.wait ≤ s.greatest
  g1 : s.greatest ≤ 1048576
  m0 : 0 ≤ s.mean
  m1 : s.mean ≤ 8388615
  d0 : 0 ≤ s.dev
  d1 : s.dev ≤ 4194307
  b0 : 0 ≤ s.backs
  b1 : s.backs ≤ 32

theorem Held.new {f l g : Int} (h : ¬ badSetup f l g) : Held (.new f l g) := by
  unfold badSetup at h
  constructor <;> simp only [RtoS.new] <;> omega

theorem Held.sample {s : RtoS} (h : Held s) {t : Int} (t0 : 0 ≤ t) (t1 : t ≤ 1048576) : Held (s.sample t) := by
  obtain ⟨a, b, c, d, e, f, g, i, j, k⟩ := h
  have hm : 0 ≤ (s.sample t).mean ∧ (s.sample t).mean ≤ 8388615 := by
    simp only [RtoS.sample]; split <;> omega
  have hd : 0 ≤ (s.sample t).dev ∧ (s.sample t).dev ≤ 4194307 := by
    simp only [RtoS.sample, mx]; (repeat' split) <;> omega
  have hw : (s.sample t).wait = mn s.greatest (mx s.least ((s.sample t).mean / 8 + mx 1 (s.sample t).dev)) := rfl
  refine ⟨a, ?_, ?_, d, hm.1, hm.2, hd.1, hd.2, by simp [RtoS.sample], by simp [RtoS.sample]⟩
  · rw [hw]; show s.least ≤ _; simp only [mn, mx]; (repeat' split) <;> omega
  · rw [hw]; show _ ≤ s.greatest; simp only [mn, mx]; (repeat' split) <;> omega

theorem Held.back {s : RtoS} (h : Held s) : Held s.back := by
  obtain ⟨a, b, c, d, e, f, g, i, j, k⟩ := h
  refine ⟨a, ?_, ?_, d, e, f, g, i, ?_, ?_⟩ <;> simp only [RtoS.back, mn] <;> split <;> omega

theorem Held.back_le {s : RtoS} (h : Held s) : s.wait ≤ s.back.wait := by
  obtain ⟨a, b, c, d, e, f, g, i, j, k⟩ := h
  simp only [RtoS.back, mn]; split <;> omega

theorem act_cells {cs : List Value} (h : CellsAre [.i, .b] cs) : ∃ x y, cs = [.int .i64 x, .bool y] ∧ (Lit.int .i64 x).wf = true := by
  obtain ⟨x, _, rfl, hx, h1⟩ := h.i
  obtain ⟨y, _, rfl, h2⟩ := h1.b
  rw [h2.nil]
  exact ⟨x, y, rfl, hx⟩

theorem acts_of {n : Nat} {f : Nat → List Value} (h : ∀ i, i < n → CellsAre [.i, .b] (f i)) : ∃ acts : Nat → Int × Bool, ∀ i, i < n → f i = [.int .i64 (acts i).1, .bool (acts i).2] ∧ (Lit.int .i64 (acts i).1).wf = true :=
  Deep.choose_lt (p := fun i (x : Int × Bool) => f i = [.int .i64 x.1, .bool x.2] ∧ (Lit.int .i64 x.1).wf = true) (fun i hi => by
    obtain ⟨x, y, h1, h2⟩ := act_cells (h i hi)
    exact ⟨(x, y), h1, h2⟩)

theorem setup_cells {cs : List Value} (h : CellsAre [.i, .i, .i] cs) : ∃ x y z, cs = [.int .i64 x, .int .i64 y, .int .i64 z] ∧ (Lit.int .i64 x).wf = true ∧ (Lit.int .i64 y).wf = true ∧ (Lit.int .i64 z).wf = true := by
  obtain ⟨x, _, rfl, hx, h1⟩ := h.i
  obtain ⟨y, _, rfl, hy, h2⟩ := h1.i
  obtain ⟨z, _, rfl, hz, h3⟩ := h2.i
  rw [h3.nil]
  exact ⟨x, y, z, rfl, hx, hy, hz⟩

end Go.Proofs.Ytijlomapbnmliaa

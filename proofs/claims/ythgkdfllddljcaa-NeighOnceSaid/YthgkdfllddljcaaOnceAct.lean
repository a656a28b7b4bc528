/-
  NeighOnce: an act of the law, loaded out of its slice and laid into a box of its own.
  Conditions: the act's nineteen cells are of the law's kinds.
-/
import Derived.Test.YthgkdfllddljcaaOnceMem
import Derived.Test.YthgkdfllddljcaaOpen
set_option linter.unusedVariables false
set_option linter.unusedSimpArgs false
set_option maxRecDepth 100000
namespace Go.Proofs.Ythgkdfllddljcaa
open Go.RowKit

/-- What the law reads of an act. -/
structure ActIs (cs : List Value) (kd to nw fm : Int) : Prop where
  c0 : cs[0]? = some (.int .i64 kd)
  c1 : cs[1]? = some (.int .i64 to)
  c2 : cs[2]? = some (.int .i64 nw)
  c14 : cs[14]? = some (.int .i64 fm)
  w0 : (Lit.int .i64 kd).wf = true
  w1 : (Lit.int .i64 to).wf = true
  w2 : (Lit.int .i64 nw).wf = true
  w14 : (Lit.int .i64 fm).wf = true
  len : cs.length = 19
  one : ∀ v ∈ cs, v.oneCell' = true

theorem act_is {cs : List Value} (h : CellsAre [.i, .i, .i, .i, .i, .i, .i, .i, .i, .b, .b, .s, .s, .i, .i, .i, .i, .i, .b] cs) : ∃ x : Int × Int × Int × Int, ActIs cs x.1 x.2.1 x.2.2.1 x.2.2.2 := by
  obtain ⟨a0, _, rfl, w0, h0⟩ := h.i
  obtain ⟨a1, _, rfl, w1, h1⟩ := h0.i
  obtain ⟨a2, _, rfl, w2, h2⟩ := h1.i
  obtain ⟨a3, _, rfl, w3, h3⟩ := h2.i
  obtain ⟨a4, _, rfl, w4, h4⟩ := h3.i
  obtain ⟨a5, _, rfl, w5, h5⟩ := h4.i
  obtain ⟨a6, _, rfl, w6, h6⟩ := h5.i
  obtain ⟨a7, _, rfl, w7, h7⟩ := h6.i
  obtain ⟨a8, _, rfl, w8, h8⟩ := h7.i
  obtain ⟨b0, _, rfl, h9⟩ := h8.b
  obtain ⟨b1, _, rfl, h10⟩ := h9.b
  obtain ⟨z0, _, rfl, w11, h11⟩ := h10.s
  obtain ⟨z1, _, rfl, w12, h12⟩ := h11.s
  obtain ⟨a9, _, rfl, w13, h13⟩ := h12.i
  obtain ⟨a10, _, rfl, w14, h14⟩ := h13.i
  obtain ⟨a11, _, rfl, w15, h15⟩ := h14.i
  obtain ⟨a12, _, rfl, w16, h16⟩ := h15.i
  obtain ⟨a13, _, rfl, w17, h17⟩ := h16.i
  obtain ⟨b2, _, rfl, h18⟩ := h17.b
  rw [h18.nil]
  refine ⟨(a0, a1, a2, a10), rfl, rfl, rfl, rfl, w0, w1, w2, w14, rfl, ?_⟩
  simp [Value.oneCell']

def actZero : Array Value := #[.int .i64 0, .int .i64 0, .int .i64 0, .int .i64 0, .int .i64 0, .int .i64 0, .int .i64 0, .int .i64 0, .int .i64 0, .bool false, .bool false, .string ⟨#[]⟩, .string ⟨#[]⟩, .int .i64 0, .int .i64 0, .int .i64 0, .int .i64 0, .int .i64 0, .bool false]
theorem infoAct : (Try.prog.info? 49).map (fun i => i.size) = some 19 := by kernel_rfl
theorem undAct : ∃ fs, Try.prog.underlying 49 = some (.struct fs) := ⟨_, Try.underlying49⟩
theorem alloc_act (w : World) : (Instr.alloc 49 true (.tuple #[])).run Try.prog w = .ok (.pointer (some ⟨w.heap.size, 0, none⟩)) (w.alloc (.cells actZero 49)) := by kernel_rfl

section
variable (w : World) {ops : Array Oper} {rest : List Oper} {o : Oper} {a : Act} {Q : Exit → Act → World → Prop}
theorem wpList_load_act (hg : o.guard = none) (x : Operand) (hop : o.op = Op.load 49 x) (b off : Nat) (hx : a.eval x = .pointer (some ⟨b, off, none⟩)) (cs : List Value) (hl : cs.length = 19) (hc : ∀ j v, cs[j]? = some v → w.cell? ⟨b, off + j, none⟩ = some v)
    (h : wpList Try.prog ops Q rest (a.put o.dst (.agg cs.toArray)) w) : wpList Try.prog ops Q (o :: rest) a w := by
  refine wpList_plain hg fun K hK => ?_
  unfold Oper.wp execOp
  have hld : (loadCells ⟨b, off, none⟩ cs.length).run Try.prog w = .ok cs.toArray w := run_loadCells_list w ⟨b, off, none⟩ cs (fun j v hv => by rw [Addr.add_lit]; exact hc j v hv)
  rw [hl] at hld
  obtain ⟨fs, hu⟩ := undAct
  have hagg : (isAgg 49).run Try.prog w = .ok true w := by
    unfold isAgg
    rw [Sem.run_bind, run_underlying hu w]
    rfl
  have hsz : (sizeOf 49).run Try.prog w = .ok 19 w := by kernel_rfl
  simp only [hop, hx, Instr.loadAt, Instr.sureAddr, Sem.run_bind, Sem.run_pure, Result.andThen_ok, loadVar, hagg, hsz, hld, if_true]
  exact hK _ _ h
theorem wpList_alloc_act (hg : o.guard = none) (hop : o.op = Op.alloc 49) (h : wpList Try.prog ops Q rest (a.put o.dst (.pointer (some ⟨w.heap.size, 0, none⟩))) (w.alloc (.cells actZero 49))) : wpList Try.prog ops Q (o :: rest) a w := by
  refine wpList_plain hg fun K hK => ?_
  unfold Oper.wp execOp
  simp only [hop, Sem.run_bind, alloc_act, Sem.run_pure, Result.andThen_ok]
  exact hK _ _ h
theorem wpList_store_act (hg : o.guard = none) (x y : Operand) (hop : o.op = Op.store 49 x y) (g : Nat) (cs : List Value) (hx : a.eval x = .pointer (some ⟨g, 0, none⟩)) (hy : a.eval y = .agg cs.toArray) (hl : cs.length = 19) (h1 : ∀ v ∈ cs, v.oneCell' = true) (hh : w.heap[g]? = some (.cells actZero 49 (0, 0)))
    (h : wpList Try.prog ops Q rest (a.put o.dst undef) (w.setRow g cs.toArray)) : wpList Try.prog ops Q (o :: rest) a w :=
  wpList_plain hg fun _ hK => wp_store_row 49 x y hop g cs.toArray hx hy 49 actZero hh (by rw [infoAct, List.size_toArray, hl]) (by simp [actZero, hl]) (by rw [Array.all_eq_true_iff_forall_mem]; intro v hv; exact h1 v (by simpa using hv)) (hK _ _ h)
end

theorem only_setRow {S : Nat → Prop} {a b : World} (h : Only S a b) (g : Nat) (cs : Array Value) (hg : g < a.heap.size → S g) : Only S a (b.setRow g cs) :=
  ⟨h.os, h.tape, h.output, by rw [size_setRow]; exact h.size, fun k hk hn => by rw [setRow_other b g k cs (fun e => hn (by rw [e]; exact hg (by omega)))]; exact h.block k hk hn⟩

end Go.Proofs.Ythgkdfllddljcaa

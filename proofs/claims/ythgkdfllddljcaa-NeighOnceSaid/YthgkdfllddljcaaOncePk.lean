/-
  NeighOnce: a packet out of a row of packets.
  Conditions: numbers are of the kind int.
-/
import Derived.Test.YthgkdfllddljcaaOnceAct
set_option linter.unusedVariables false
set_option linter.unusedSimpArgs false
set_option maxRecDepth 100000
namespace Go.Proofs.Ythgkdfllddljcaa
open Go.RowKit

theorem pk_len (a i : Int) : (pk a i).length = 10 := rfl
theorem pksOf_at : ∀ (l : List (Int × Int)) (j : Nat) (q : Int × Int), l[j]? = some q → ∀ t, t < 10 → (pksOf l)[j * 10 + t]? = (pk q.1 q.2)[t]?
  | [], j, q, h, t, ht => by simp at h
  | p :: l, 0, q, h, t, ht => by
    simp only [List.getElem?_cons_zero, Option.some.injEq] at h
    subst h
    unfold pksOf
    rw [List.map_cons, List.flatten_cons, List.getElem?_append_left (by rw [pk_len]; omega), Nat.zero_mul, Nat.zero_add]
  | p :: l, j + 1, q, h, t, ht => by
    have ih := pksOf_at l j q (by simpa using h) t ht
    unfold pksOf at ih ⊢
    rw [List.map_cons, List.flatten_cons, List.getElem?_append_right (by rw [pk_len]; omega), pk_len]
    rw [show (j + 1) * 10 + t - 10 = j * 10 + t by omega]
    exact ih
/-- A row of packets, as it lies. -/
theorem row_form {w : World} {B : Nat} {v : Value} {l : List (Int × Int)} (h : w.ownsRow B 47 10 v l.length (pksOf l)) : ∃ a cap, v = .slice a l.length cap ∧ ∀ (j : Nat) (q : Int × Int), l[j]? = some q → ∃ gb, a = some ⟨gb, 0, none⟩ ∧ (∀ m x, MapI w m x → gb ≠ m) ∧ ∀ t u, (pk q.1 q.2)[t]? = some u → w.cell? ⟨gb, j * 10 + t, none⟩ = some u := by
  obtain ⟨hl, ⟨rfl, h0⟩ | ⟨gb, cap, cur, rfl, hb, hg, hc1, hm1, hs1, ht1⟩⟩ := h
  · exact ⟨none, 0, by rw [h0], fun j q hq => by
      have := (List.getElem?_eq_some_iff.1 hq).1
      omega⟩
  · refine ⟨_, cap, rfl, fun j q hq => ⟨gb, rfl, fun m x hm => map_ne hg hm, fun t u hu => ?_⟩⟩
    have ht : t < 10 := by have := (List.getElem?_eq_some_iff.1 hu).1; rw [pk_len] at this; exact this
    have hjl : j < l.length := (List.getElem?_eq_some_iff.1 hq).1
    have h1 := pksOf_at l j q hq t ht
    rw [hu, ← ht1, List.getElem?_take, if_pos (by omega), Array.getElem?_toList] at h1
    rw [blk_cell hg]; exact h1

theorem pks_pksOf (a : Int) (L : List Int) : pks a L = pksOf (L.map fun i => (a, i)) := by
  unfold pks pksOf
  rw [List.map_map]
  rfl

/-- How many wait for the first of the neighbours 11, 12, .. -/
def sumL (A : List (Int × Asked)) : Nat → Int
  | 0 => 0
  | t + 1 => sumL A t + ((LA A (11 + (t : Int))).length : Int)
theorem sumL_le (A : List (Int × Asked)) : ∀ t, 0 ≤ sumL A t
  | 0 => Int.le_refl _
  | t + 1 => by have := sumL_le A t; unfold sumL; omega
theorem sumL_mono (A : List (Int × Asked)) : ∀ {t u : Nat}, t ≤ u → sumL A t ≤ sumL A u
  | t, 0, h => by rw [show t = 0 by omega]; exact Int.le_refl _
  | t, u + 1, h => by
    by_cases e : t = u + 1
    · rw [e]; exact Int.le_refl _
    · have := sumL_mono A (show t ≤ u by omega)
      have e2 : sumL A (u + 1) = sumL A u + ((LA A (11 + (u : Int))).length : Int) := rfl
      omega
theorem sumL_four {A : List (Int × Asked)} (hn : (A.map Prod.fst).Nodup) (h : ∀ p ∈ A, 11 ≤ p.1 ∧ p.1 < 15) : sumL A 4 = (((A.map fun p => p.2.L.length).sum : Nat) : Int) := by
  rw [waiting_sum A hn h]
  have e : sumL A 4 = 0 + ((LA A 11).length : Int) + ((LA A 12).length : Int) + ((LA A 13).length : Int) + ((LA A 14).length : Int) := rfl
  rw [e]
  push_cast
  omega

theorem undPk : ∃ fs, Try.prog.underlying 47 = some (.struct fs) := ⟨_, Try.underlying47⟩
section
variable (w : World) {ops : Array Oper} {rest : List Oper} {o : Oper} {a : Act} {Q : Exit → Act → World → Prop}
theorem wpList_load_pk (hg : o.guard = none) (x : Operand) (hop : o.op = Op.load 47 x) (b off : Nat) (hx : a.eval x = .pointer (some ⟨b, off, none⟩)) (to i : Int) (hc : ∀ t v, (pk to i)[t]? = some v → w.cell? ⟨b, off + t, none⟩ = some v)
    (h : wpList Try.prog ops Q rest (a.put o.dst (.agg #[.int .i64 10, .int .i64 to, .int .i64 9, .int .i64 0, .int .i64 i, .int .i64 0, .bool false, .bool false, .string ⟨#[]⟩, .string ⟨#[]⟩])) w) : wpList Try.prog ops Q (o :: rest) a w := by
  refine wpList_plain hg fun K hK => ?_
  unfold Oper.wp execOp
  have hld : (loadCells ⟨b, off, none⟩ (pk to i).length).run Try.prog w = .ok (pk to i).toArray w := run_loadCells_list w ⟨b, off, none⟩ (pk to i) (fun j v hv => by rw [Addr.add_lit]; exact hc j v hv)
  rw [pk_len] at hld
  obtain ⟨fs, hu⟩ := undPk
  have hagg : (isAgg 47).run Try.prog w = .ok true w := by
    unfold isAgg
    rw [Sem.run_bind, run_underlying hu w]
    rfl
  have hsz : (sizeOf 47).run Try.prog w = .ok 10 w := by kernel_rfl
  simp only [hop, hx, Instr.loadAt, Instr.sureAddr, Sem.run_bind, Sem.run_pure, Result.andThen_ok, loadVar, hagg, hsz, hld, if_true]
  exact hK _ _ h
end

end Go.Proofs.Ythgkdfllddljcaa

/-
  'append(append([]Sent{}, l...), ..)' in the reference end: rows of letters that were, copied and made longer.
  Conditions: short rows.
-/
import Derived.Test.YteifehienpeaiaaRefEnd
import Derived.Laws.OwnMore
set_option linter.unusedVariables false
set_option linter.unusedSimpArgs false
set_option maxRecDepth 100000
namespace Go.Proofs.Yteifehienpeaiaa
open Go.RowKit

theorem sent_one : ∀ (L : List St), ∀ u ∈ sentCells L, u.oneCell' = true := by
  intro L u hu
  unfold sentCells at hu
  rw [List.mem_flatten] at hu
  obtain ⟨l, hl, hu⟩ := hu
  obtain ⟨p, _, rfl⟩ := List.mem_map.1 hl
  simp only [List.mem_cons, List.not_mem_nil, or_false] at hu
  rcases hu with rfl | rfl | rfl <;> rfl

/-- A slice that reads as this list. -/
def Src (w : World) (x : Value) (L : List St) : Prop := (x = .slice none 0 0 ∧ L = []) ∨ ∃ (ad : Addr) (c : Nat), x = .slice (some ad) L.length c ∧ ∀ j u, (sentCells L)[j]? = some u → w.cell? (ad.add j) = some u

theorem SRow.src {w : World} {B : Nat} {v : Value} {L : List St} (h : SRow w B v L) : Src w v L := by
  obtain ⟨h1, ⟨rfl, h0⟩ | ⟨g, cap, cur, rfl, hb, hg, hc, hm, hs, ht⟩⟩ := h
  · exact .inl ⟨rfl, List.eq_nil_of_length_eq_zero h0⟩
  · refine .inr ⟨⟨g, 0, none⟩, cap, rfl, fun j u hj => ?_⟩
    have hjl : j < L.length * 3 := by
      apply Classical.byContradiction
      intro hn
      rw [List.getElem?_eq_none (by rw [sentCells_length]; omega)] at hj
      cases hj
    rw [Addr.add_lit, Nat.zero_add]
    refine (blk_cell hg j).trans ?_
    rw [← hj, ← ht, List.getElem?_take, if_pos hjl, Array.getElem?_toList]

theorem Src.only {w w' : World} {x : Value} {L : List St} {S : Nat → Prop} (h : Src w x L) (hk : Only S w w') (hn : ∀ b, x.ownBlock = some b → ¬ S b) : Src w' x L := by
  rcases h with h | ⟨ad, c, rfl, h⟩
  · exact .inl h
  · refine .inr ⟨ad, c, rfl, fun j u hj => cell_only hk ?_ (h j u hj)⟩
    have : (ad.add j).block = ad.block := by unfold Addr.add; split <;> rfl
    rw [this]
    exact hn ad.block rfl

section
variable (w : World)
theorem append_src (ty : TypeId) (B : Nat) (dv x : Value) (D L : List St) (hD : SRow w B dv D) (hL : Src w x L) (hB : B ≤ w.heap.size) (hl : D.length + L.length ≤ 1000000) :
    ∃ v' w', (Builtin.append_ #[73, 73] ty #[dv, x]).run Try.prog w = .ok v' w' ∧ SRow w' B v' (D ++ L) ∧ Only (fun k => dv.ownBlock = some k) w w' ∧ (∀ b, v'.ownBlock = some b → B ≤ b) := by
  obtain ⟨ih, hih, hz0, hz1, hz2⟩ := info_parts info_sent
  rcases hL with ⟨rfl, rfl⟩ | ⟨ad, c, rfl, hnews⟩
  · refine ⟨dv, w, run_append_owned_none (P := Try.prog) (w := w) B 73 ty 135 ih 3 Try.underlying73 hih dv D.length _ hD, by rw [List.append_nil]; exact hD, Only.refl _ _, fun b hb => (hD.lt b hb).1⟩
  · obtain ⟨v', w', hr, h1, h2, _⟩ := run_append_own (P := Try.prog) w B 73 ty 135 ih (.agg #[.int .i64 0, .int .i64 0, .string ⟨#[]⟩]) 3 32 Try.underlying73 hih hz0 hz1 hz2 rfl (by decide) dv D.length (sentCells D) hD ad L.length c (sentCells L) (sentCells_length L) hnews (sent_one L) (by simp [maxLen]; omega) (by omega) hB
    refine ⟨v', w', hr, ?_, (Only.of_grown h2).mono (fun k _ e => e.symm), fun b hb => (h1.lt b hb).1⟩
    unfold SRow
    rw [List.length_append, sentCells_append]
    exact h1
theorem wpList_append_src {ops : Array Oper} {rest : List Oper} {o : Oper} {a : Act} {Q : Exit → Act → World → Prop} (hgd : o.guard = none) (s x : Operand)
    (ho : o.op = .call { callee := .builtin .append, args := #[s, x], argTypes := #[73, 73] })
    (B : Nat) (dv xv : Value) (D L : List St) (hes : a.eval s = dv) (hex : a.eval x = xv) (hD : SRow w B dv D) (hL : Src w xv L) (hB : B ≤ w.heap.size) (hl : D.length + L.length ≤ 1000000)
    (h : ∀ v' w', SRow w' B v' (D ++ L) → Only (fun k => dv.ownBlock = some k) w w' → (∀ b, v'.ownBlock = some b → B ≤ b) → wpList Try.prog ops Q rest (a.put o.dst v') w') : wpList Try.prog ops Q (o :: rest) a w :=
  wpList_plain hgd fun _ hK => by
    obtain ⟨v', w', hr, h2, h3, h4⟩ := append_src w o.type B dv xv D L hD hL hB hl
    unfold Oper.wp execOp
    simp only [ho, resolve, invoke, builtin, Sem.run_bind, Sem.run_pure, Result.andThen_ok, List.map_toArray, List.map_cons, List.map_nil, hes, hex, hr]
    exact hK _ _ (h v' w' h2 h3 h4)
end

theorem sentCells_set : ∀ (L : List St) (i : Nat) (a : Int), i < L.length → sentCells (L.set i ((L.getD i st0).1, a, (L.getD i st0).2.2)) = (sentCells L).set (i * 3 + 1) (.int .i64 a)
  | [], i, _, h => absurd h (Nat.not_lt_zero _)
  | p :: L, 0, a, _ => rfl
  | p :: L, i + 1, a, h => by
    have ih := sentCells_set L i a (by simpa using h)
    have e : ∀ M : List St, sentCells (p :: M) = .int .i64 p.1 :: .int .i64 p.2.1 :: .string p.2.2 :: sentCells M := fun M => rfl
    have h0 : (i + 1) * 3 + 1 = i * 3 + 1 + 1 + 1 + 1 := by omega
    rw [e, h0]
    show sentCells (p :: L.set i ((L.getD i st0).1, a, (L.getD i st0).2.2)) = _
    rw [e, ih]
    rfl

/-- A letter's tick, stored. -/
theorem SRow.store {w : World} {B g cap : Nat} {L : List St} (h : SRow w B (.slice (some ⟨g, 0, none⟩) L.length cap) L) (i : Nat) (a : Int) (hi : i < L.length) : SRow (w.setCell ⟨g, i * 3 + 1, none⟩ (.int .i64 a)) B (.slice (some ⟨g, 0, none⟩) L.length cap) (L.set i ((L.getD i st0).1, a, (L.getD i st0).2.2)) := by
  obtain ⟨h1, ⟨h2, h0⟩ | ⟨gb, cap2, cur, h2, hb, hg, hc, hm, hs, ht⟩⟩ := h
  · cases h2
  · injection h2 with e1 e2 e3
    injection e1 with e1
    injection e1 with e1
    subst e1
    subst e3
    unfold SRow
    rw [List.length_set]
    refine ⟨by rw [sentCells_length, List.length_set], .inr ⟨g, cap, cur.setIfInBounds (i * 3 + 1) (.int .i64 a), rfl, hb, blk_set hg _ _, hc, hm, by rw [Array.size_setIfInBounds]; exact hs, ?_⟩⟩
    rw [sentCells_set L i a hi, ← ht, Array.toList_setIfInBounds, List.take_set]

/-- A letter that is sent again, as the reference keeps it. -/
def CS.updS (s : CS) (p : St) : St := if p.2.1 + s.wait ≤ s.now then (p.1, s.now, p.2.2) else p
theorem updS_W (s : CS) (l : List Sn) : (l.map s.upd).map (fun x : Sn => ((x.key, x.at_, x.data) : St)) = (l.map (fun x : Sn => ((x.key, x.at_, x.data) : St))).map s.updS := by
  rw [List.map_map, List.map_map]
  apply List.map_congr_left
  intro x _
  simp only [Function.comp, CS.updS, CS.upd, CS.due, decide_eq_true_eq]
  split <;> rfl
theorem swept_W (s : CS) (i : Nat) : (s.swept i).W = (s.W.take i).map s.updS ++ s.W.drop i := by
  unfold CS.W CS.swept
  simp only [List.map_append]
  rw [updS_W, List.map_take, List.map_drop]
theorem swept_zero (s : CS) : (s.swept 0) = s := by
  unfold CS.swept
  simp
theorem swept_next (s : CS) (i : Nat) (h : i < s.W.length) : (s.swept i).W.getD i st0 = s.W.getD i st0 ∧ (s.swept (i + 1)).W = (s.swept i).W.set i (s.updS (s.W.getD i st0)) ∧ (s.swept i).W.length = s.W.length := by
  have hl : ((s.W.take i).map s.updS).length = i := by rw [List.length_map, List.length_take]; omega
  have hg : s.W.getD i st0 = s.W[i] := by rw [List.getD_eq_getElem?_getD, List.getElem?_eq_getElem h]; rfl
  rw [swept_W, swept_W]
  refine ⟨?_, ?_, ?_⟩
  · rw [List.getD_eq_getElem?_getD, List.getElem?_append_right (by omega), hl, Nat.sub_self, List.getElem?_drop, Nat.add_zero, ← List.getD_eq_getElem?_getD]
  · rw [List.set_append_right _ _ (by omega), hl, Nat.sub_self, List.take_succ_eq_append_getElem h, List.map_append, List.drop_eq_getElem_cons h, List.set_cons_zero, hg]
    simp
  · rw [List.length_append, hl, List.length_drop]; omega

end Go.Proofs.Yteifehienpeaiaa

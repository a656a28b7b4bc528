/-
  Rows of numbers that may begin in the midst of a block: one more at the end, one less at the head; append where its run is known.
  Conditions: numbers are of the kind int, fewer than a million lie in a row.
-/
import Derived.Test.YthgkdfllddljcaaNeiPut
import Derived.Lib.SliceRun
set_option linter.unusedVariables false
set_option linter.unusedSimpArgs false
set_option maxRecDepth 100000
namespace Go.Proofs.Ythgkdfllddljcaa
open Go.RowKit

section
variable {P : Program} (w : World) {ops : Array Oper} {rest : List Oper} {o : Oper} {a : Act} {Q : Exit → Act → World → Prop}
theorem wpList_append_run (hg : o.guard = none) (s x : Operand) (t : TypeId) (ho : o.op = Op.call { callee := Callee.builtin Builtin.append, args := #[s, x], argTypes := #[t, t] }) (v u v' : Value) (w' : World) (hs : a.eval s = v) (hx : a.eval x = u)
    (hr : (Builtin.append_ #[t, t] o.type #[v, u]).run P w = .ok v' w') (h : wpList P ops Q rest (a.put o.dst v') w') : wpList P ops Q (o :: rest) a w := by
  refine wpList_plain hg fun K hK => ?_
  unfold Oper.wp execOp
  simp only [ho, resolve, invoke, builtin, Sem.run_bind, Sem.run_pure, Result.andThen_ok, List.map_toArray, List.map_cons, List.map_nil, hs, hx, hr]
  exact hK _ _ h
end

theorem infoA : (Try.prog.info? 31).map (fun i => (i.zero, i.size, i.bytes)) = some (some (.agg #[.int .i64 0, .int .i64 0, .int .i64 0, .int .i64 0, .int .i64 0]), 5, 40) := by kernel_rfl

theorem append_arp (w : World) (ty : TypeId) (B : Nat) (dv : Value) (n : Nat) (xs : List Value) (hD : w.ownsRow B 31 5 dv n xs) (a : Addr) (m c : Nat) (news : List Value) (hl : news.length = m * 5) (hnews : ∀ j u, news[j]? = some u → w.cell? (a.add j) = some u) (h1 : ∀ u ∈ news, u.oneCell' = true) (hB : B ≤ w.heap.size) (hle : n + m ≤ 1000000) :
    ∃ v' w', (Builtin.append_ #[54, 54] ty #[dv, .slice (some a) m c]).run Try.prog w = .ok v' w' ∧ w'.ownsRow B 31 5 v' (n + m) (xs ++ news) ∧ w.grownBy w' dv.ownBlock ∧ (∀ b, v'.ownBlock = some b → dv.ownBlock = some b ∨ w.heap.size ≤ b) := by
  obtain ⟨i9, hi, hz0, hz1, hz2⟩ := info_parts infoA
  have hm : n + m ≤ maxLen := by simp only [maxLen]; omega
  have hby : (n + m) * 40 ≤ 140737488355328 := by omega
  obtain ⟨v', w', hr, h2, h3, _, h5⟩ := run_append_own_at (P := Try.prog) w B 54 ty 31 i9 _ 5 40 Try.underlying54 hi hz0 hz1 hz2 rfl (by decide) dv n xs hD a m c news hl hnews h1 hm hby hB
  refine ⟨v', w', hr, h2, h3, fun b hb => ?_⟩
  rcases h5 with e | e
  · exact .inl (by rw [← e]; exact hb)
  · rw [e] at hb; cases hb; exact .inr (Nat.le_refl _)

/-- A row of numbers, from anywhere on in its block. -/
def IRow (w : World) (v : Value) (L : List Int) : Prop :=
  (v = .slice none 0 0 ∧ L = []) ∨ ∃ b off cap cur, v = .slice (some ⟨b, off, none⟩) L.length cap ∧ w.heap[b]? = some (.cells cur 3 (0, 0)) ∧ L.length ≤ cap ∧ off + cap ≤ cur.size ∧ cap ≤ maxLen ∧ ∀ j x, L[j]? = some x → cur[off + j]? = some (.int .i64 x)

theorem IRow.only {w w' : World} {v : Value} {L : List Int} {S : Nat → Prop} (h : IRow w v L) (hk : Only S w w') (hn : ∀ b, v.ownBlock = some b → ¬ S b) : IRow w' v L := by
  rcases h with h | ⟨b, off, cap, cur, rfl, hb, h1, h2, h3, h4⟩
  · exact .inl h
  · exact .inr ⟨b, off, cap, cur, rfl, hk.at hb (hn b rfl), h1, h2, h3, h4⟩
theorem IRow.blk {w : World} {v : Value} {L : List Int} (h : IRow w v L) {b : Nat} (hb : v.ownBlock = some b) : ∃ cur, w.heap[b]? = some (.cells cur 3 (0, 0)) := by
  rcases h with ⟨rfl, _⟩ | ⟨b', off, cap, cur, rfl, hg, _⟩
  · cases hb
  · cases hb; exact ⟨cur, hg⟩
theorem IRow.len {w : World} {v : Value} {L : List Int} (h : IRow w v L) : ∃ a cap, v = .slice a L.length cap := by
  rcases h with ⟨rfl, rfl⟩ | ⟨b, off, cap, cur, rfl, _⟩
  · exact ⟨none, 0, rfl⟩
  · exact ⟨_, cap, rfl⟩
/-- Its numbers lie there. -/
theorem IRow.cell {w : World} {v : Value} {L : List Int} (h : IRow w v L) {j : Nat} {x : Int} (hx : L[j]? = some x) : ∃ b off cap, v = .slice (some ⟨b, off, none⟩) L.length cap ∧ w.cell? ⟨b, off + j, none⟩ = some (.int .i64 x) := by
  rcases h with ⟨_, rfl⟩ | ⟨b, off, cap, cur, rfl, hb, h1, h2, h3, h4⟩
  · simp at hx
  · exact ⟨b, off, cap, rfl, by rw [blk_cell hb]; exact h4 j x hx⟩
/-- Without its first one. -/
theorem IRow.tail {w : World} {v : Value} {x : Int} {L : List Int} (h : IRow w v (x :: L)) : ∃ b off cap, v = .slice (some ⟨b, off, none⟩) (L.length + 1) cap ∧ L.length + 1 ≤ cap ∧ w.cell? ⟨b, off, none⟩ = some (.int .i64 x) ∧ (∀ a c, a = some ⟨b, off + 1, none⟩ → c = cap - 1 → IRow w (.slice a L.length c) L) ∧ (cap = 1 → IRow w (.slice (some ⟨b, off, none⟩) L.length 0) L) := by
  rcases h with ⟨_, h⟩ | ⟨b, off, cap, cur, rfl, hb, h1, h2, h3, h4⟩
  · cases h
  · rw [List.length_cons] at h1
    refine ⟨b, off, cap, rfl, h1, by rw [blk_cell hb]; exact h4 0 x rfl, fun a c ha hc => .inr ⟨b, off + 1, cap - 1, cur, by rw [ha, hc], hb, by omega, by omega, by omega, fun j y hy => ?_⟩, fun hc => .inr ⟨b, off, 0, cur, rfl, hb, by omega, by omega, by omega, fun j y hy => ?_⟩⟩
    · have := h4 (j + 1) y (by simpa using hy)
      rw [show off + 1 + j = off + (j + 1) by omega]; exact this
    · have : L = [] := List.eq_nil_of_length_eq_zero (by omega)
      subst this
      simp at hy

theorem append_off (w : World) (ty : TypeId) (v : Value) (L : List Int) (h : IRow w v L) (z : Nat) (i : Int) (hz : w.heap[z]? = some (.cells #[.int .i64 i] 3 (0, 0))) (hl : L.length ≤ 1000000) :
    ∃ v' w', (Builtin.append_ #[52, 52] ty #[v, .slice (some ⟨z, 0, none⟩) 1 1]).run Try.prog w = .ok v' w' ∧ IRow w' v' (L ++ [i]) ∧ (∀ b, v'.ownBlock = some b → v.ownBlock = some b ∨ w.heap.size ≤ b) ∧ Only (fun k => some k = v.ownBlock) w w' := by
  obtain ⟨i3, hi, hz0, hz1, hz2⟩ := info_parts info3
  have hnews : ∀ (j : Nat) (u : Value), [Value.int .i64 i][j]? = some u → w.cell? ((⟨z, 0, none⟩ : Addr).add j) = some u := by
    intro j u hj
    match j, hj with
    | 0, hj => rw [Addr.add_lit, blk_cell hz]; exact hj
    | j + 1, hj => simp at hj
  have h1 : ∀ u ∈ [Value.int .i64 i], u.oneCell' = true := by simp [Value.oneCell']
  -- a new block
  have hgrown : ∀ (olds : List Value) (cap : Nat), olds = L.map (Value.int .i64) → IRow (w.drew.alloc (.cells (olds.toArray ++ [Value.int .i64 i].toArray ++ Builtin.zeroCells (Value.int .i64 0).cells (grownCap w (L.length + 1) cap 3 - (L.length + 1))) 3)) (.slice (some ⟨w.heap.size, 0, none⟩) (L.length + 1) (grownCap w (L.length + 1) cap 3)) (L ++ [i]) := by
    intro olds cap ho
    have hge := grownCap_ge w (L.length + 1) cap 3
    have hcm : grownCap w (L.length + 1) cap 3 ≤ maxLen := grownCap_le_maxLen w (L.length + 1) cap 3 (by simp only [maxLen]; omega)
    refine .inr ⟨w.heap.size, 0, _, _, by simp, blk_new w.drew _, by simpa using hge, ?_, hcm, fun j x hj => ?_⟩
    · simp only [Array.size_append, List.size_toArray, size_zeroCells, ho, List.length_map]
      have : (Value.int .i64 0).cells.size = 1 := rfl
      rw [this]
      simp only [List.length_singleton]
      omega
    · rw [Nat.zero_add, ho]
      have hj2 : j < L.length + 1 := by have := (List.getElem?_eq_some_iff.1 hj).1; simpa using this
      rw [Array.getElem?_append_left (by simp; omega), List.append_toArray, List.getElem?_toArray]
      have e : L.map (Value.int .i64) ++ [Value.int .i64 i] = (L ++ [i]).map (Value.int .i64) := by simp
      rw [e, List.getElem?_map, hj]; rfl
  rcases h with ⟨rfl, rfl⟩ | ⟨b, off, cap, cur, rfl, hb, hc1, hc2, hc3, hc4⟩
  · have hown : w.ownsRow w.heap.size 3 1 (.slice none 0 0) 0 [] := World.ownsRow_nil w _ 3 1
    obtain ⟨v', w', hr, h2, h3, _, h5⟩ := run_append_own_at (P := Try.prog) w w.heap.size 52 ty 3 i3 (.int .i64 0) 1 8 Try.underlying52 hi hz0 hz1 hz2 rfl (by decide) (.slice none 0 0) 0 [] hown ⟨z, 0, none⟩ 1 1 [.int .i64 i] rfl hnews h1 (by simp only [maxLen]; omega) (by decide) (Nat.le_refl _)
    refine ⟨v', w', hr, ?_, fun b hb => ?_, Only.of_grown h3⟩
    · obtain ⟨_, ⟨_, h0⟩ | ⟨g, cap, cur, rfl, _, hg, e1, e2, e3, e4⟩⟩ := h2
      · omega
      · refine .inr ⟨g, 0, cap, cur, rfl, hg, e1, by omega, e2, fun j x hj => ?_⟩
        match j, hj with
        | 0, hj =>
          have hx : x = i := by simpa using hj.symm
          rw [hx, Nat.zero_add]
          have e5 : (cur.toList.take ((0 + 1) * 1))[0]? = some (.int .i64 i) := by rw [e4]; rfl
          rw [List.getElem?_take, if_pos (by omega), Array.getElem?_toList] at e5
          exact e5
        | j + 1, hj => simp at hj
    · rcases h5 with e | e
      · exact .inl (by rw [← e]; exact hb)
      · rw [e] at hb; cases hb; exact .inr (Nat.le_refl _)
  · by_cases hroom : L.length + 1 ≤ cap
    · have hst := run_storeCells_at Try.prog b (off + L.length) 3 [.int .i64 i] 0 cur w hb (by simp only [List.length_singleton]; omega) h1
      have hf := run_firstCells_some (P := Try.prog) w 1 1 ⟨z, 0, none⟩ 1 1 [.int .i64 i] rfl hnews
      simp only [Nat.add_zero] at hst
      refine ⟨.slice (some ⟨b, off, none⟩) (L.length + 1) cap, w.setRow b (cur.toList.take (off + L.length) ++ [Value.int .i64 i] ++ cur.toList.drop (off + L.length + [Value.int .i64 i].length)).toArray, ?_, ?_, fun b' hb' => .inl hb', ⟨rfl, rfl, rfl, by simp, fun k hk hn => setRow_other w b k _ (fun e => hn (by rw [e]; rfl))⟩⟩
      · simp [Builtin.append_, run_underlying Try.underlying52, sizeOf, typeInfo, hi, hz1, Builtin.lenOf, hroom, hf, Addr.add_lit, hst]
      · refine .inr ⟨b, off, cap, _, by simp, setRow_heap w b cur _ 3 (0, 0) hb, by simpa using hroom, ?_, hc3, fun j x hj => ?_⟩
        · simp only [List.size_toArray, List.length_append, List.length_take, List.length_drop, List.length_singleton, Array.length_toList]
          omega
        · rw [List.getElem?_toArray]
          have hj2 : j < L.length + 1 := by have := (List.getElem?_eq_some_iff.1 hj).1; simpa using this
          have hsz : cur.toList.length = cur.size := by simp
          have htl : (cur.toList.take (off + L.length)).length = off + L.length := by rw [List.length_take]; omega
          rw [List.append_assoc]
          by_cases hjl : j < L.length
          · rw [List.getElem?_append_left (by rw [htl]; omega), List.getElem?_take, if_pos (by omega), Array.getElem?_toList]
            exact hc4 j x (by rw [List.getElem?_append_left hjl] at hj; exact hj)
          · obtain rfl : j = L.length := by omega
            rw [List.getElem?_append_right (by rw [htl]; exact Nat.le_refl _), htl, Nat.sub_self]
            have : x = i := by simpa using hj.symm
            rw [this]; rfl
    · have holds : ∀ (j : Nat) (u : Value), (L.map (Value.int .i64))[j]? = some u → w.cell? ((⟨b, off, none⟩ : Addr).add j) = some u := by
        intro j u hj
        rw [List.getElem?_map] at hj
        obtain ⟨x, hx, rfl⟩ := Option.map_eq_some_iff.1 hj
        rw [Addr.add_lit, blk_cell hb]
        exact hc4 j x hx
      have hr2 := run_append_grow (P := Try.prog) w 52 ty 3 i3 (.int .i64 0) Try.underlying52 hi hz0 ⟨b, off, none⟩ L.length cap (L.map (Value.int .i64)) (by rw [hz1]; simp) holds ⟨z, 0, none⟩ 1 1 [.int .i64 i] (by rw [hz1]; rfl) hnews (by omega) (by omega) (growslice_fits (by omega) (by rw [hz2]; omega))
      refine ⟨_, _, hr2, hgrown _ cap rfl, fun b' hb' => .inr ?_, ?_⟩
      · cases hb'; exact Nat.le_refl _
      · exact ((Only.refl _ w).drew).alloc _

end Go.Proofs.Ythgkdfllddljcaa

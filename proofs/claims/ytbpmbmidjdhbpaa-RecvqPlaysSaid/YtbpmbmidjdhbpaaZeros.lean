/-
  'append(s, make([]T, n)...)': the model's append of so many zeros, onto a part of a row, of elements of one cell and one byte.
  Conditions: short rows.
-/
import Derived.Test.YtbpmbmidjdhbpaaBase
import Derived.Laws.AppendOwn
set_option linter.unusedVariables false
set_option linter.unusedSimpArgs false
namespace Go.Proofs.Ytbpmbmidjdhbpaa
open Go.RowKit

theorem zeroCells_one (z : Value) (n : Nat) : Builtin.zeroCells #[z] n = Array.replicate n z := by
  apply Array.ext
  · simp [Builtin.zeroCells]
  · intro i h1 h2
    simp [Builtin.zeroCells, Nat.mod_one]

/-- A slice, a part of one block. -/
structure PartAt (w : World) (e : TypeId) (v : Value) (n : Nat) (c : Nat → Value) : Prop where
  lies : ∃ g off cap cur, v = .slice (some ⟨g, off, none⟩) n cap ∧ w.heap[g]? = some (.cells cur e (0, 0)) ∧ n ≤ cap ∧ off + cap ≤ cur.size ∧ cap ≤ maxLen ∧ ∀ d, d < n → cur[off + d]? = some (c d)

section
variable {P : Program} (w : World)

theorem run_asInt_i (w : World) (k : IntKind) (m : Int) : (asInt (.int k m)).run P w = .ok m w := rfl

theorem run_append_zeros (t u ty e : TypeId) (i : TypeInfo) (z : Value) (ht : P.underlying t = some (.slice e)) (hu : P.underlying u = some (.int .i64)) (hi : P.info? e = some i) (hz : i.zero = some z)
    (hzc : z.cells = #[z]) (h1 : z.oneCell' = true) (hs : i.size = 1) (hb : i.bytes = 1)
    (g off L C m : Nat) (cur : Array Value) (c : Nat → Value) (hg : w.heap[g]? = some (.cells cur e (0, 0))) (hLC : L ≤ C) (hC : off + C ≤ cur.size) (hCm : C ≤ maxLen) (hc : ∀ d, d < L → cur[off + d]? = some (c d)) (hm : L + m ≤ 1000000) :
    ∃ v' w', (Builtin.append_ #[t, u] ty #[.slice (some ⟨g, off, none⟩) L C, .int .i64 m]).run P w = .ok v' w' ∧
      PartAt w' e v' (L + m) (fun d => if d < L then c d else z) ∧ Only (fun k => k = g) w w' ∧ (∀ b, v'.ownBlock = some b → b = g ∨ w.heap.size ≤ b) := by
  have hw : IntKind.i64.wrap (m : Int) = (m : Int) := by rw [IntKind.wrap_i64]; omega
  have hn0 : ¬ ((m : Int) < 0) := by omega
  have hn1 : ¬ (281474976710656 < (m : Int)) := by omega
  by_cases hm0 : m = 0
  · subst hm0
    have hw0 : IntKind.i64.wrap 0 = 0 := by decide
    refine ⟨.slice (some ⟨g, off, none⟩) L C, w, ?_, ⟨g, off, C, cur, rfl, hg, hLC, hC, hCm, ?_⟩, Only.refl _ _, ?_⟩
    · simp [Builtin.append_, run_asInt_i, run_underlying ht, run_underlying hu, sizeOf, typeInfo, zeroValue, hi, hz, hs, hb, hw0, hLC, storeCells]
    · intro d hd
      rw [if_pos (by omega)]
      exact hc d (by omega)
    · intro b hb
      simp only [Value.ownBlock, Option.some.injEq] at hb
      exact .inl hb.symm
  by_cases hroom : L + m ≤ C
  · have hst := run_storeCells_at P g (off + L) e (List.replicate m z) 0 cur w hg (by simp; omega) (by intro v hv; rw [(List.mem_replicate.1 hv).2]; exact h1)
    simp only [Nat.add_zero, List.length_replicate] at hst
    refine ⟨.slice (some ⟨g, off, none⟩) (L + m) C, w.setRow g (cur.toList.take (off + L) ++ List.replicate m z ++ cur.toList.drop (off + L + m)).toArray, ?_, ⟨g, off, C, _, rfl, setRow_heap w g cur _ e _ hg, hroom, ?_, hCm, ?_⟩, ?_, ?_⟩
    · simp [Builtin.append_, run_asInt_i, run_underlying ht, run_underlying hu, sizeOf, typeInfo, zeroValue, hi, hz, hs, hb, hw, hn0, hn1, hroom, Addr.add_lit, hst, hzc, hm0, zeroCells_one]
    · simp only [List.size_toArray, List.length_append, List.length_take, List.length_drop, List.length_replicate, Array.length_toList]
      omega
    · intro d hd
      simp only [List.getElem?_toArray]
      by_cases hdl : d < L
      · rw [if_pos hdl, List.append_assoc, List.getElem?_append_left (by simp; omega), List.getElem?_take, if_pos (by omega), Array.getElem?_toList, hc d hdl]
      · rw [if_neg hdl, List.append_assoc, List.getElem?_append_right (by simp; omega), List.getElem?_append_left (by simp; omega), List.getElem?_replicate]
        simp only [List.length_take, Array.length_toList]
        rw [if_pos (by omega)]
    · exact ⟨rfl, rfl, rfl, by simp, fun k hk hne => setRow_other w g k _ hne⟩
    · intro b hb
      simp only [Value.ownBlock, Option.some.injEq] at hb
      exact .inl hb.symm
  · have hge := grownCap_ge w (L + m) C e
    have hcm : grownCap w (L + m) C e ≤ maxLen := grownCap_le_maxLen w (L + m) C e (by simp [maxLen]; omega)
    have h63' : ¬ (9223372036854775807 < ((L : Int) + (m : Int))) := by omega
    have h48' : ¬ (281474976710656 < Builtin.nextslicecap (L + m) C) := by
      have := growslice_fits (need := L + m) (old := C) (bytes := 1) (by omega) (by omega)
      omega
    have holds : ∀ j v, ((List.range L).map c)[j]? = some v → w.drew.cell? ((⟨g, off, none⟩ : Addr).add j) = some v := by
      intro j v hj
      rw [List.getElem?_map] at hj
      have hjL : j < L := by
        apply Classical.byContradiction
        intro hn
        rw [List.getElem?_eq_none (by simp; omega)] at hj
        cases hj
      rw [List.getElem?_range hjL] at hj
      simp only [Option.map_some, Option.some.injEq] at hj
      rw [Addr.add_lit]
      have : w.drew.cell? ⟨g, off + j, none⟩ = cur[off + j]? := cell_of_row w.drew g (off + j) cur e (0, 0) hg
      rw [this, hc j hjL, hj]
    have hfo := run_firstCells_some (P := P) w.drew 1 L ⟨g, off, none⟩ L C ((List.range L).map c) (by simp) holds
    refine ⟨.slice (some ⟨w.heap.size, 0, none⟩) (L + m) (grownCap w (L + m) C e), w.drew.alloc (.cells (((List.range L).map c).toArray ++ Array.replicate m z ++ Array.replicate (grownCap w (L + m) C e - (L + m)) z) e), ?_, ⟨w.heap.size, 0, _, _, rfl, heap_alloc_new w.drew _, hge, ?_, hcm, ?_⟩, ?_, ?_⟩
    · simp [Builtin.append_, run_asInt_i, run_underlying ht, run_underlying hu, sizeOf, typeInfo, zeroValue, hi, hz, hs, hb, hw, hn0, hn1, hroom, hzc, hm0, zeroCells_one, h63', h48', Question.forced, hfo, newRow, grownCap]
    · simp
      omega
    · intro d hd
      rw [Nat.zero_add, Array.getElem?_append_left (by simp; omega)]
      by_cases hdl : d < L
      · rw [if_pos hdl, Array.getElem?_append_left (by simpa using hdl)]
        simp [hdl]
      · rw [if_neg hdl, Array.getElem?_append_right (by simp; omega)]
        simp
        rw [Array.getElem?_replicate, if_pos (by omega)]
    · exact ((Only.refl _ w).drew).alloc _
    · intro b hb
      simp only [Value.ownBlock, Option.some.injEq] at hb
      exact .inr (by omega)

theorem PartAt.only {w w' : World} {e : TypeId} {v : Value} {n : Nat} {c : Nat → Value} {S : Nat → Prop} (h : PartAt w e v n c) (hk : Only S w w') (hS : ∀ b, v.ownBlock = some b → ¬ S b) : PartAt w' e v n c := by
  obtain ⟨g, off, cap, cur, rfl, hg, h1, h2, h3, h4⟩ := h
  exact ⟨g, off, cap, cur, rfl, hk.at hg (hS g rfl), h1, h2, h3, h4⟩

/-- 'append([]T{}, s...)': a copy. -/
theorem run_append_copy (t ty e : TypeId) (i : TypeInfo) (z : Value) (ht : P.underlying t = some (.slice e)) (hi : P.info? e = some i) (hz : i.zero = some z)
    (hzc : z.cells = #[z]) (hs : i.size = 1) (hb : i.bytes = 1) (k : Nat) (v : Value) (n : Nat) (c : Nat → Value) (h : PartAt w e v n c) (h0 : 0 < n) (hm : n ≤ 1000000) :
    ∃ v' w', (Builtin.append_ #[t, t] ty #[.slice (some ⟨k, 0, none⟩) 0 0, v]).run P w = .ok v' w' ∧ PartAt w' e v' n c ∧ Only (fun _ => False) w w' ∧ (∀ b, v'.ownBlock = some b → w.heap.size ≤ b) := by
  obtain ⟨g, off, cap, cur, rfl, hg, h1, h2, h3, h4⟩ := h
  have hnews : ∀ j v, ((List.range n).map c)[j]? = some v → w.cell? ((⟨g, off, none⟩ : Addr).add j) = some v := by
    intro j v hj
    rw [List.getElem?_map] at hj
    have hjL : j < n := by
      apply Classical.byContradiction
      intro hn
      rw [List.getElem?_eq_none (by simp; omega)] at hj
      cases hj
    rw [List.getElem?_range hjL] at hj
    simp only [Option.map_some, Option.some.injEq] at hj
    rw [Addr.add_lit]
    have : w.cell? ⟨g, off + j, none⟩ = cur[off + j]? := cell_of_row w g (off + j) cur e (0, 0) hg
    rw [this, h4 j hjL, hj]
  have hr := run_append_grow (P := P) w t ty e i z ht hi hz ⟨k, 0, none⟩ 0 0 [] (by simp) (fun j v hj => by cases hj) ⟨g, off, none⟩ n cap ((List.range n).map c) (by simp [hs]) hnews (by omega) (by omega) (by
    have := growslice_fits (need := 0 + n) (old := 0) (bytes := i.bytes) (by omega) (by rw [hb]; omega)
    exact this)
  have hge := grownCap_ge w (0 + n) 0 e
  have hcm : grownCap w (0 + n) 0 e ≤ maxLen := grownCap_le_maxLen w (0 + n) 0 e (by simp [maxLen]; omega)
  rw [Nat.zero_add] at hr hge hcm
  refine ⟨_, _, hr, ⟨w.heap.size, 0, _, _, rfl, heap_alloc_new w.drew _, hge, ?_, hcm, ?_⟩, ((Only.refl _ w).drew).alloc _, ?_⟩
  · rw [hzc, zeroCells_one]
    simp
    omega
  · intro d hd
    rw [Nat.zero_add, Array.getElem?_append_left (by simp; omega), Array.getElem?_append_right (by simp)]
    simp [hd]
  · intro b hb
    simp only [Value.ownBlock, Option.some.injEq] at hb
    omega

theorem wpList_append_copy {ops : Array Oper} {rest : List Oper} {o : Oper} {a : Act} {Q : Exit → Act → World → Prop} (hgd : o.guard = none) (s x : Operand) (t : TypeId)
    (ho : o.op = .call { callee := .builtin .append, args := #[s, x], argTypes := #[t, t] })
    (e : TypeId) (i : TypeInfo) (z : Value) (ht : P.underlying t = some (.slice e)) (hi : P.info? e = some i) (hz : i.zero = some z)
    (hzc : z.cells = #[z]) (hs : i.size = 1) (hb : i.bytes = 1) (k : Nat) (v : Value) (n : Nat) (c : Nat → Value) (hes : a.eval s = .slice (some ⟨k, 0, none⟩) 0 0) (hex : a.eval x = v) (hp : PartAt w e v n c) (h0 : 0 < n) (hm : n ≤ 1000000)
    (h : ∀ v' w', PartAt w' e v' n c → Only (fun _ => False) w w' → (∀ b, v'.ownBlock = some b → w.heap.size ≤ b) → wpList P ops Q rest (a.put o.dst v') w') : wpList P ops Q (o :: rest) a w :=
  wpList_plain hgd fun _ hK => by
    obtain ⟨v', w', hr, h2, h3, h4⟩ := run_append_copy (P := P) w t o.type e i z ht hi hz hzc hs hb k v n c hp h0 hm
    unfold Oper.wp execOp
    simp only [ho, resolve, invoke, builtin, Sem.run_bind, Sem.run_pure, Result.andThen_ok, List.map_toArray, List.map_cons, List.map_nil, hes, hex, hr]
    exact hK _ _ (h v' w' h2 h3 h4)

theorem wpList_append_zeros {ops : Array Oper} {rest : List Oper} {o : Oper} {a : Act} {Q : Exit → Act → World → Prop} (hgd : o.guard = none) (s x : Operand) (t u : TypeId)
    (ho : o.op = .call { callee := .builtin .append, args := #[s, x], argTypes := #[t, u] })
    (e : TypeId) (i : TypeInfo) (z : Value) (ht : P.underlying t = some (.slice e)) (hu : P.underlying u = some (.int .i64)) (hi : P.info? e = some i) (hz : i.zero = some z)
    (hzc : z.cells = #[z]) (h1 : z.oneCell' = true) (hs : i.size = 1) (hb : i.bytes = 1)
    (g off L C m : Nat) (cur : Array Value) (c : Nat → Value) (hes : a.eval s = .slice (some ⟨g, off, none⟩) L C) (hex : a.eval x = .int .i64 m) (hg : w.heap[g]? = some (.cells cur e (0, 0))) (hLC : L ≤ C) (hC : off + C ≤ cur.size) (hCm : C ≤ maxLen) (hc : ∀ d, d < L → cur[off + d]? = some (c d)) (hm : L + m ≤ 1000000)
    (h : ∀ v' w', PartAt w' e v' (L + m) (fun d => if d < L then c d else z) → Only (fun k => k = g) w w' → (∀ b, v'.ownBlock = some b → b = g ∨ w.heap.size ≤ b) → wpList P ops Q rest (a.put o.dst v') w') : wpList P ops Q (o :: rest) a w :=
  wpList_plain hgd fun _ hK => by
    obtain ⟨v', w', hr, h2, h3, h4⟩ := run_append_zeros (P := P) w t u o.type e i z ht hu hi hz hzc h1 hs hb g off L C m cur c hg hLC hC hCm hc hm
    unfold Oper.wp execOp
    simp only [ho, resolve, invoke, builtin, Sem.run_bind, Sem.run_pure, Result.andThen_ok, List.map_toArray, List.map_cons, List.map_nil, hes, hex, hr]
    exact hK _ _ (h v' w' h2 h3 h4)
end

end Go.Proofs.Ytbpmbmidjdhbpaa

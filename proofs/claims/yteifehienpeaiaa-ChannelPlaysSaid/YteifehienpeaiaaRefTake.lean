/-
  Take of the reference end at a letter of its epoch.
  Conditions: strings within the form's reach.
-/
import Derived.Test.YteifehienpeaiaaRefGo
import Derived.Test.YteifehienpeaiaaEarlyLaw
set_option linter.unusedVariables false
set_option linter.unusedSimpArgs false
set_option maxRecDepth 100000
namespace Go.Proofs.Yteifehienpeaiaa
open Go.RowKit

theorem zero_sent (w : World) : (zeroValue 135).run Try.prog w = .ok (.agg #[.int .i64 0, .int .i64 0, .string ⟨#[]⟩]) w := by kernel_rfl
def hiA (g cap j : Nat) : Option Addr := if cap = j then some ⟨g, 0, none⟩ else some ⟨g, j * 3, none⟩
theorem size_sent (w : World) : (sizeOf (Try.prog.elem 73)).run Try.prog w = .ok 3 w := by kernel_rfl
theorem und_sents : Try.prog.underlying 73 = some (.slice (Try.prog.elem 73)) := by kernel_rfl
theorem run_low (g N cap i : Nat) (h : i ≤ cap) (w : World) : (Instr.sliceAt 73 (.slice (some ⟨g, 0, none⟩) N cap) none (some (.int .i64 i)) none).run Try.prog w = .ok (.slice (some ⟨g, 0, none⟩) i cap) w := by
  rw [run_sliceAt_slice w _ _ _ _ _ und_sents, run_slice_h w _ _ _ _ und_sents .i64 i (by omega) (by omega), size_sent]
  simp only [Result.andThen, sliced, Int.toNat_natCast, Nat.sub_zero]
  congr 2
  split
  · rfl
  · rw [Option.map_some, Addr.add_lit]
theorem run_high (g N cap j : Nat) (h : j ≤ N) (h2 : N ≤ cap) (w : World) : (Instr.sliceAt 73 (.slice (some ⟨g, 0, none⟩) N cap) (some (.int .i64 j)) none none).run Try.prog w = .ok (.slice (hiA g cap j) (N - j) (cap - j)) w := by
  rw [run_sliceAt_slice w _ _ _ _ _ und_sents, run_slice_l w _ _ _ _ und_sents .i64 j (by omega) (by omega), size_sent]
  simp only [Result.andThen, sliced, Int.toNat_natCast]
  unfold hiA
  congr 2
  split
  · rfl
  · rw [Option.map_some, Addr.add_lit, Nat.zero_add]

theorem sentCells_drop : ∀ (L : List St) (i : Nat), sentCells (L.drop i) = (sentCells L).drop (i * 3)
  | [], i => by simp [sentCells]
  | p :: L, 0 => by simp
  | p :: L, i + 1 => by
    have ih := sentCells_drop L i
    have e : sentCells (p :: L) = .int .i64 p.1 :: .int .i64 p.2.1 :: .string p.2.2 :: sentCells L := rfl
    rw [e, List.drop_succ_cons, ih, show (i + 1) * 3 = i * 3 + 1 + 1 + 1 from by omega]
    rfl
theorem sentCells_take : ∀ (L : List St) (i : Nat), sentCells (L.take i) = (sentCells L).take (i * 3)
  | [], i => by simp [sentCells]
  | p :: L, 0 => by simp [sentCells]
  | p :: L, i + 1 => by
    have ih := sentCells_take L i
    have e : sentCells (p :: L) = .int .i64 p.1 :: .int .i64 p.2.1 :: .string p.2.2 :: sentCells L := rfl
    rw [List.take_succ_cons, e, show (i + 1) * 3 = i * 3 + 1 + 1 + 1 from by omega]
    show .int .i64 p.1 :: .int .i64 p.2.1 :: .string p.2.2 :: sentCells (L.take i) = _
    rw [ih]
    rfl
theorem SRow.src_low {w : World} {B g N cap : Nat} {L : List St} (h : SRow w B (.slice (some ⟨g, 0, none⟩) N cap) L) (i : Nat) (hi : i ≤ L.length) : Src w (.slice (some ⟨g, 0, none⟩) i cap) (L.take i) := by
  rcases h.src with ⟨h1, _⟩ | ⟨ad, c, h1, h2⟩
  · cases h1
  · injection h1 with e1 e2 e3
    injection e1 with e1
    subst e1
    refine .inr ⟨⟨g, 0, none⟩, cap, by rw [List.length_take, Nat.min_eq_left hi], fun j u hj => h2 j u ?_⟩
    rw [sentCells_take, List.getElem?_take] at hj
    split at hj
    · exact hj
    · cases hj
theorem SRow.src_high {w : World} {B g N cap : Nat} {L : List St} (h : SRow w B (.slice (some ⟨g, 0, none⟩) N cap) L) (j : Nat) (hN : L.length = N) (hj : j ≤ N) (hc : N ≤ cap) : Src w (.slice (hiA g cap j) (N - j) (cap - j)) (L.drop j) := by
  rcases h.src with ⟨h1, _⟩ | ⟨ad, c, h1, h2⟩
  · cases h1
  · injection h1 with e1 e2 e3
    injection e1 with e1
    subst e1
    unfold hiA
    by_cases he : cap = j
    · rw [if_pos he]
      have hnil : L.drop j = [] := List.drop_eq_nil_of_le (by omega)
      refine .inr ⟨⟨g, 0, none⟩, cap - j, by rw [hnil]; simp; omega, fun k u hk => ?_⟩
      rw [hnil] at hk
      simp [sentCells] at hk
    · rw [if_neg he]
      refine .inr ⟨⟨g, j * 3, none⟩, cap - j, by rw [List.length_drop, hN], fun k u hk => ?_⟩
      rw [sentCells_drop, List.getElem?_drop] at hk
      have := h2 _ u hk
      rw [Addr.add_lit] at this ⊢
      rw [Nat.zero_add] at this
      exact this
theorem SRow.capLe {w : World} {B g N cap : Nat} {L : List St} (h : SRow w B (.slice (some ⟨g, 0, none⟩) N cap) L) : L.length ≤ cap ∧ L.length = N := by
  obtain ⟨h1, ⟨h2, h0⟩ | ⟨gb, cap2, cur, h2, hb, hg, hc, hm, hs, ht⟩⟩ := h
  · cases h2
  · injection h2 with e1 e2 e3
    subst e3
    exact ⟨hc, e2.symm⟩

theorem RSt.more {W w w' : World} {r : Nat} {s : CS} {wv yv v : Value} {wb eb B : Nat} (h : RSt w r s wv yv wb eb B) (hk : Only (fun k => v.ownBlock = some k) w w') (hb : ∀ z, v.ownBlock = some z → B ≤ z) : RSt w' r s wv yv wb eb B := h.only hk (fun z hz e => by have := hb z e; omega)

/-! ### Region 17 -/
def rtPh (W : World) (B r lb : Nat) (s : CS) (kk ee ro nn aa : Int) (dd : ByteArray) (wv yv : Value) (wb eb : Nat) (_ _ : Bool) (w : World) : Prop :=
  Only (fun _ => False) W w ∧ B ≤ w.heap.size ∧ RSt w r s wv yv wb eb B ∧ w.heap[lb]? = some (.cells #[.int .i64 kk, .int .i64 ee, .int .i64 ro, .int .i64 nn, .int .i64 aa, .string dd] 23 (0, 0)) ∧ lb < B
section
variable {W w w' : World} {B r lb : Nat} {s : CS} {kk ee ro nn aa : Int} {dd : ByteArray} {wv yv : Value} {wb eb : Nat} {p q : Bool}
theorem rtPh.keep (h : rtPh W B r lb s kk ee ro nn aa dd wv yv wb eb p q w) (hk : Only (fun _ => False) w w') : rtPh W B r lb s kk ee ro nn aa dd wv yv wb eb p q w' :=
  ⟨h.1.trans hk, Nat.le_trans h.2.1 hk.size, h.2.2.1.keep hk, hk.at h.2.2.2.1 (fun h => h), h.2.2.2.2⟩
theorem rtPh.more {p' q' : Bool} {v : Value} (h : rtPh W B r lb s kk ee ro nn aa dd wv yv wb eb p q w) (hW : W.heap.size ≤ B) (hk : Only (fun k => v.ownBlock = some k) w w') (hb : ∀ z, v.ownBlock = some z → B ≤ z) : rtPh W B r lb s kk ee ro nn aa dd wv yv wb eb p' q' w' :=
  ⟨h.1.then hk (fun z h1 h2 => by have := hb z h2; omega), Nat.le_trans h.2.1 hk.size, h.2.2.1.more (W := W) hk hb, hk.at h.2.2.2.1 (fun e => by have := hb lb e; have := h.2.2.2.2; omega), h.2.2.2.2⟩
theorem rtPh.c3 (h : rtPh W B r lb s kk ee ro nn aa dd wv yv wb eb p q w) : w.cell? ⟨lb, 3, none⟩ = some (.int .i64 nn) := (blk_cell h.2.2.2.1 3).trans rfl
theorem rtPh.c5 (h : rtPh W B r lb s kk ee ro nn aa dd wv yv wb eb p q w) : w.cell? ⟨lb, 5, none⟩ = some (.string dd) := (blk_cell h.2.2.2.1 5).trans rfl
end
def rtSt (B : Nat) (w : World) (i k : Nat) : Prop := (i = 6 ∧ w.heap[k]? = some (.cells #[] 135 (0, 0))) ∨ (i = 13 ∧ B ≤ k)

def rtG (B r lb : Nat) (s : CS) (kk ee ro nn aa : Int) (dd : ByteArray) (wv yv : Value) (wb eb : Nat) (L : Nat → Bool) : Nat → Value → World → Prop
  | 0, v, w' => v = .pointer (some ⟨r, 0, none⟩)
  | 1, v, w' => ∃ k, v = .slice (some ⟨k, 0, none⟩) 0 0 ∧ B ≤ k ∧ (L 6 = false → L 13 = false → w'.heap[k]? = some (.cells #[] 135 (0, 0)))
  | 2, v, w' => v = .pointer (some ⟨r, 0, none⟩)
  | 3, v, w' => v = .pointer (some ⟨r, 0, none⟩)
  | 4, v, w' => v = .pointer (some ⟨r, 15, none⟩)
  | 5, v, w' => v = yv
  | 6, v, w' => (∀ b, (v).ownBlock = some b → B ≤ b) ∧ (L 13 = false → SRow w' B (v) s.Y)
  | 7, v, w' => v = .pointer (some ⟨lb, 3, none⟩)
  | 8, v, w' => v = .int .i64 nn
  | 9, v, w' => v = .pointer (some ⟨lb, 5, none⟩)
  | 10, v, w' => v = .string dd
  | 11, v, w' => v = .agg #[.int .i64 nn, .int .i64 0, .string dd]
  | 12, v, w' => ∃ k, v = .slice (some ⟨k, 0, none⟩) 1 1 ∧ B ≤ k ∧ (L 13 = false → w'.heap[k]? = some (.cells #[.int .i64 nn, .int .i64 0, .string dd] 135 (0, 0)))
  | 13, v, w' => (∀ b, (v).ownBlock = some b → B ≤ b) ∧ SRow w' B (v) (s.Y ++ [(nn, 0, dd)])
  | 14, v, w' => v = .pointer (some ⟨r, 0, none⟩)
  | 15, v, w' => v = .pointer (some ⟨r, 15, none⟩)
  | _, _, _ => True
def rtDs : List Nat := [88, 89, 90, 91, 92, 93, 94, 95, 96, 97, 98, 99, 100, 101, 102, 103]
def rtNeed : List (List Nat) := [[], [], [], [2], [3], [4], [1, 5], [], [7], [], [9], [8, 10], [11], [6, 12], [0], [14]]
def rtGs : List (Option Bool) := []
def rtLate : List (List Nat) := [[], [6, 13], [6, 13], [6, 13], [6, 13], [6, 13], [13], [13], [13], [13], [13], [13], [13], [], [], []]
def rtEarly : List (List Nat) := [[], [], [], [], [], [], [], [], [], [], [], [], [], [6], [], []]
theorem rtG.keep {B r lb : Nat} {s : CS} {kk ee ro nn aa : Int} {dd : ByteArray} {wv yv : Value} {wb eb : Nat} : ∀ L i jx v w w', i ≠ jx → L i = false → L jx = true → rtG B r lb s kk ee ro nn aa dd wv yv wb eb L jx v w → Only (rtSt B w i) w w' → rtG B r lb s kk ee ro nn aa dd wv yv wb eb (upd L i) jx v w' := by
  intro L i jx v w w' hij hLi hLj h hO
  match jx, hij, hLj, h with
  | 0, hij, hLj, h => exact h
  | 1, hij, hLj, h => exact (by
    obtain ⟨k, e1, e2, e3⟩ := h
    refine ⟨k, e1, e2, fun h6 h18 => ?_⟩
    have hi6 : i ≠ 6 := fun e => by subst e; simp [upd] at h6
    have hi18 : i ≠ 13 := fun e => by subst e; simp [upd] at h18
    have h6' : L 6 = false := by unfold upd at h6; rwa [if_neg (fun e => hi6 e.symm)] at h6
    have h18' : L 13 = false := by unfold upd at h18; rwa [if_neg (fun e => hi18 e.symm)] at h18
    exact hO.at (e3 h6' h18') (by rintro (⟨h, _⟩ | ⟨h, _⟩) <;> first | exact hi6 h | exact hi18 h))
  | 2, hij, hLj, h => exact h
  | 3, hij, hLj, h => exact h
  | 4, hij, hLj, h => exact h
  | 5, hij, hLj, h => exact h
  | 6, hij, hLj, h => exact (by
    obtain ⟨e1, e2⟩ := h
    refine ⟨e1, fun h18 => ?_⟩
    have hi18 : i ≠ 13 := fun e => by subst e; simp [upd] at h18
    have h18' : L 13 = false := by unfold upd at h18; rwa [if_neg (fun e => hi18 e.symm)] at h18
    exact (e2 h18').only hO (by rintro b hb (⟨h, _⟩ | ⟨h, _⟩) <;> first | exact hij h | exact hi18 h))
  | 7, hij, hLj, h => exact h
  | 8, hij, hLj, h => exact h
  | 9, hij, hLj, h => exact h
  | 10, hij, hLj, h => exact h
  | 11, hij, hLj, h => exact h
  | 12, hij, hLj, h => exact (by
    obtain ⟨k, e1, e2, e3⟩ := h
    refine ⟨k, e1, e2, fun h18 => ?_⟩
    have hi18 : i ≠ 13 := fun e => by subst e; simp [upd] at h18
    have h18' : L 13 = false := by unfold upd at h18; rwa [if_neg (fun e => hi18 e.symm)] at h18
    refine hO.at (e3 h18') ?_
    rintro (⟨_, h⟩ | ⟨h, _⟩)
    · rw [e3 h18'] at h
      injection h with h
      injection h with h
      injection h with h
      cases h
    · exact hi18 h)
  | 13, hij, hLj, h => exact (by
    obtain ⟨e1, e2⟩ := h
    exact ⟨e1, e2.only hO (by rintro b hb (⟨h, hx⟩ | ⟨h, _⟩); exact e2.full (by simp) hb hx; exact hij h)⟩)
  | 14, hij, hLj, h => exact h
  | 15, hij, hLj, h => exact h
  | n + 16, hij, hLj, h => trivial
theorem rtG.guard {B r lb : Nat} {s : CS} {kk ee ro nn aa : Int} {dd : ByteArray} {wv yv : Value} {wb eb : Nat} : ∀ g' b', rtGs.getD g' none = some b' → ∀ L v w, rtG B r lb s kk ee ro nn aa dd wv yv wb eb L g' v w → v = .bool b' := by
  intro g' b' hbb L v w hgg
  match g', hbb, hgg with
  | n' + 0, hbb, hgg => exact absurd hbb (by simp [rtGs])

/-! ### Region 22 -/
def rdPh (W : World) (B r ga N cap i : Nat) (s : CS) (wv : Value) (wb eb : Nat) (_ _ : Bool) (w : World) : Prop :=
  Only (fun _ => False) W w ∧ B ≤ w.heap.size ∧ RSt w r s wv (.slice (some ⟨ga, 0, none⟩) N cap) wb eb B
section
variable {W w w' : World} {B r ga N cap i : Nat} {s : CS} {wv : Value} {wb eb : Nat} {p q : Bool}
theorem rdPh.keep (h : rdPh W B r ga N cap i s wv wb eb p q w) (hk : Only (fun _ => False) w w') : rdPh W B r ga N cap i s wv wb eb p q w' :=
  ⟨h.1.trans hk, Nat.le_trans h.2.1 hk.size, h.2.2.keep hk⟩
theorem rdPh.more {p' q' : Bool} {v : Value} (h : rdPh W B r ga N cap i s wv wb eb p q w) (hW : W.heap.size ≤ B) (hk : Only (fun k => v.ownBlock = some k) w w') (hb : ∀ z, v.ownBlock = some z → B ≤ z) : rdPh W B r ga N cap i s wv wb eb p' q' w' :=
  ⟨h.1.then hk (fun z h1 h2 => by have := hb z h2; omega), Nat.le_trans h.2.1 hk.size, h.2.2.more (W := W) hk hb⟩
end
def rdSt (B : Nat) (w : World) (i k : Nat) : Prop := (i = 8 ∧ w.heap[k]? = some (.cells #[] 135 (0, 0))) ∨ (i = 16 ∧ B ≤ k)

def rdG (B r ga N cap ii : Nat) (s : CS) (wv : Value) (wb eb : Nat) (L : Nat → Bool) : Nat → Value → World → Prop
  | 0, v, w' => v = .pointer (some ⟨r, 0, none⟩)
  | 1, v, w' => ∃ k, v = .slice (some ⟨k, 0, none⟩) 0 0 ∧ B ≤ k ∧ (L 8 = false → L 16 = false → w'.heap[k]? = some (.cells #[] 135 (0, 0)))
  | 2, v, w' => v = .pointer (some ⟨r, 0, none⟩)
  | 3, v, w' => v = .pointer (some ⟨r, 0, none⟩)
  | 4, v, w' => v = .pointer (some ⟨r, 15, none⟩)
  | 5, v, w' => v = .slice (some ⟨ga, 0, none⟩) N cap
  | 6, v, w' => v = .int .i64 ii
  | 7, v, w' => v = .slice (some ⟨ga, 0, none⟩) ii cap
  | 8, v, w' => (∀ b, (v).ownBlock = some b → B ≤ b) ∧ (L 16 = false → SRow w' B (v) (s.Y.take ii))
  | 9, v, w' => v = .pointer (some ⟨r, 0, none⟩)
  | 10, v, w' => v = .pointer (some ⟨r, 0, none⟩)
  | 11, v, w' => v = .pointer (some ⟨r, 15, none⟩)
  | 12, v, w' => v = .slice (some ⟨ga, 0, none⟩) N cap
  | 13, v, w' => v = .int .i64 ii
  | 14, v, w' => v = .int .i64 (ii + 1)
  | 15, v, w' => v = .slice (hiA ga cap (ii + 1)) (N - (ii + 1)) (cap - (ii + 1))
  | 16, v, w' => L 8 = true ∧ (∀ b, (v).ownBlock = some b → B ≤ b) ∧ SRow w' B (v) (s.Y.take ii ++ s.Y.drop (ii + 1))
  | 17, v, w' => v = .pointer (some ⟨r, 0, none⟩)
  | 18, v, w' => v = .pointer (some ⟨r, 15, none⟩)
  | _, _, _ => True
def rdDs : List Nat := [130, 131, 132, 133, 134, 135, 136, 137, 138, 139, 140, 141, 142, 143, 144, 145, 146, 147, 148]
def rdNeed : List (List Nat) := [[], [], [], [2], [3], [4], [], [5, 6], [1, 7], [], [9], [10], [11], [], [13], [12, 14], [8, 15], [0], [17]]
def rdGs : List (Option Bool) := []
def rdLate : List (List Nat) := [[], [8, 16], [8, 16], [8, 16], [8, 16], [8, 16], [8, 16], [8, 16], [16], [16], [16], [16], [16], [16], [16], [16], [], [], []]
def rdEarly : List (List Nat) := [[], [], [], [], [], [], [], [], [], [], [], [], [], [], [], [], [8], [], []]
theorem rdG.keep {B r ga N cap ii : Nat} {s : CS} {wv : Value} {wb eb : Nat} : ∀ L i jx v w w', i ≠ jx → L i = false → L jx = true → rdG B r ga N cap ii s wv wb eb L jx v w → Only (rdSt B w i) w w' → rdG B r ga N cap ii s wv wb eb (upd L i) jx v w' := by
  intro L i jx v w w' hij hLi hLj h hO
  match jx, hij, hLj, h with
  | 0, hij, hLj, h => exact h
  | 1, hij, hLj, h => exact (by
    obtain ⟨k, e1, e2, e3⟩ := h
    refine ⟨k, e1, e2, fun h6 h18 => ?_⟩
    have hi6 : i ≠ 8 := fun e => by subst e; simp [upd] at h6
    have hi18 : i ≠ 16 := fun e => by subst e; simp [upd] at h18
    have h6' : L 8 = false := by unfold upd at h6; rwa [if_neg (fun e => hi6 e.symm)] at h6
    have h18' : L 16 = false := by unfold upd at h18; rwa [if_neg (fun e => hi18 e.symm)] at h18
    exact hO.at (e3 h6' h18') (by rintro (⟨h, _⟩ | ⟨h, _⟩) <;> first | exact hi6 h | exact hi18 h))
  | 2, hij, hLj, h => exact h
  | 3, hij, hLj, h => exact h
  | 4, hij, hLj, h => exact h
  | 5, hij, hLj, h => exact h
  | 6, hij, hLj, h => exact h
  | 7, hij, hLj, h => exact h
  | 8, hij, hLj, h => exact (by
    obtain ⟨e1, e2⟩ := h
    refine ⟨e1, fun h18 => ?_⟩
    have hi18 : i ≠ 16 := fun e => by subst e; simp [upd] at h18
    have h18' : L 16 = false := by unfold upd at h18; rwa [if_neg (fun e => hi18 e.symm)] at h18
    exact (e2 h18').only hO (by rintro b hb (⟨h, _⟩ | ⟨h, _⟩) <;> first | exact hij h | exact hi18 h))
  | 9, hij, hLj, h => exact h
  | 10, hij, hLj, h => exact h
  | 11, hij, hLj, h => exact h
  | 12, hij, hLj, h => exact h
  | 13, hij, hLj, h => exact h
  | 14, hij, hLj, h => exact h
  | 15, hij, hLj, h => exact h
  | 16, hij, hLj, h => exact (by
    obtain ⟨e0, e1, e2⟩ := h
    have hi8 : i ≠ 8 := fun e => by subst e; rw [e0] at hLi; cases hLi
    exact ⟨by unfold upd; rw [if_neg (fun e => hi8 e.symm)]; exact e0, e1, e2.only hO (by rintro b hb (⟨h, _⟩ | ⟨h, _⟩); exact hi8 h; exact hij h)⟩)
  | 17, hij, hLj, h => exact h
  | 18, hij, hLj, h => exact h
  | n + 19, hij, hLj, h => trivial
theorem rdG.guard {B r ga N cap ii : Nat} {s : CS} {wv : Value} {wb eb : Nat} : ∀ g' b', rdGs.getD g' none = some b' → ∀ L v w, rdG B r ga N cap ii s wv wb eb L g' v w → v = .bool b' := by
  intro g' b' hbb L v w hgg
  match g', hbb, hgg with
  | n' + 0, hbb, hgg => exact absurd hbb (by simp [rdGs])

/-! ### The plain law -/
theorem keeps_old {s : CS} {n : Int} (d : ByteArray) (h : n ≤ s.taken) : s.keeps n d = s := if_pos (.inr (.inl h))
theorem keeps_far {s : CS} {n : Int} (d : ByteArray) (h : s.taken + s.room < n) : s.keeps n d = s := if_pos (.inr (.inr (by omega)))
theorem nexts_none {s : CS} (h : lookE s.E (s.taken + 1) = none) : s.nexts = s ∧ s.news = [] := by
  unfold CS.nexts CS.news CS.drained
  rw [drainE_none h]
  exact ⟨rfl, rfl⟩
theorem REAt.of {w : World} {r : Nat} {s : CS} {wv yv : Value} {wb eb B : Nat} (h : RSt w r s wv yv wb eb B) : REAt w r s := ⟨wv, yv, wb, eb, h.blk, h.wrow, h.erow⟩
theorem RSt.mono {w : World} {r : Nat} {s : CS} {wv yv : Value} {wb eb B B' : Nat} (h : RSt w r s wv yv wb eb B) (hB : B ≤ B') : RSt w r s wv yv wb eb B' :=
  ⟨h.blk, h.wrow, h.erow, fun b hb => Nat.lt_of_lt_of_le (h.wlt b hb) hB, fun b hb => Nat.lt_of_lt_of_le (h.elt b hb) hB, Nat.lt_of_lt_of_le h.rlt hB⟩
theorem RSt.grown {w w' : World} {r : Nat} {s : CS} {wv yv v : Value} {wb eb B base n : Nat} {xs : List Value} (h : RSt w r s wv yv wb eb B) (hrow : w.ownsRow base 9 1 v n xs) (hr : r < base) (hg : w.grownBy w' v.ownBlock) : RSt w' r s wv yv wb eb B := by
  have hk := Only.of_grown hg
  refine ⟨hk.at h.blk (fun e => by have := (hrow.lt r e.symm).1; omega), h.wrow.only hk (fun b hb e => ?_), h.erow.only hk (fun b hb e => ?_), h.wlt, h.elt, h.rlt⟩
  · obtain ⟨cur, hc⟩ := h.wrow.block hb
    exact row_sent hrow hc e.symm
  · obtain ⟨cur, hc⟩ := h.erow.block hb
    exact row_sent hrow hc e.symm
/-- The row of what came early, turned. -/
theorem RSt.store {w : World} {r : Nat} {s s' : CS} {wv yv v : Value} {wb eb B : Nat} (h : RSt w r s wv yv wb eb B) (hrow : SRow w B v s'.Y) (hw : s'.W = s.W) (hc : ∀ a b, s'.rcells a b = s.rcells a b) : REAt (w.setCell ⟨r, 15, none⟩ v) r s' := by
  have hk := (Only.refl (fun k => k = r) w).setCell ⟨r, 15, none⟩ v (fun _ => rfl)
  have hr := h.rlt
  refine ⟨wv, v, wb, B, by rw [hc]; exact (blk_set h.blk 15 v).trans rfl, ?_, hrow.only hk (fun b hb e => ?_)⟩
  · rw [hw]
    refine h.wrow.only hk (fun b hb e => ?_)
    obtain ⟨cur, hcc⟩ := h.wrow.block hb
    exact rblock_ne h.blk hcc e
  · have := (hrow.lt b hb).1
    omega
def yLen (w : World) (r : Nat) : Nat := match w.cell? ⟨r, 15, none⟩ with | some (.slice _ n _) => n | _ => 0
theorem REAt.yLen_eq {w : World} {r : Nat} {s : CS} (h : REAt w r s) : yLen w r = s.E.length := by
  obtain ⟨wv, yv, wb, eb, hg, h1, h2⟩ := h
  obtain ⟨a, cap, rfl⟩ := h2.form
  have x := (blk_cell hg 15).trans (show (s.rcells wv (.slice a s.Y.length cap))[15]? = some (.slice a s.Y.length cap) from rfl)
  unfold yLen
  rw [x]
  show s.Y.length = _
  unfold CS.Y
  rw [List.length_map]

set_option maxHeartbeats 4000000 in
theorem rtake_letter (w : World) (r : Nat) (s : CS) (S : ByteArray) (now : Int) (h : REAt w r s) (ho : s.O.length ≤ 64) (ht : 0 ≤ s.taken ∧ s.taken ≤ 4294967295) (hr : 0 ≤ s.room ∧ s.room ≤ 64) (hs : S.size ≤ 140737488355328) (hok : DecOk S) (hne : numAt S 1 4 = s.epoch) (hdE : DistE s.E) (hnx : lookE s.E (s.taken + 1) = none) (hel : s.E.length ≤ 100) (ht2 : s.taken + s.E.length + 1 ≤ 4294967295) : Calls Try.prog 57 #[.pointer (some ⟨r, 0, none⟩), .string S, .int .i64 now] w fun e w' => ∃ v, e = .returned (.tuple #[v, .int .i64 0]) ∧ w'.ownsRow w.heap.size 9 1 v (s.brings (numAt S 0 1) (numAt S 5 1) (numAt S 6 4) (numAt S 10 4) (S.extract 16 (S.size - 4)) now).length ((s.brings (numAt S 0 1) (numAt S 5 1) (numAt S 6 4) (numAt S 10 4) (S.extract 16 (S.size - 4)) now).map Value.string) ∧ REAt w' r (s.takes (numAt S 0 1) (numAt S 5 1) (numAt S 6 4) (numAt S 10 4) (S.extract 16 (S.size - 4)) now) ∧ Only (fun k => k = r) w w' := by
  have hb : (numAt S 1 4 != s.epoch) = false := by simpa using hne
  have H := Lib.hid h
  have HK := Lib.hid hok
  have HD := Lib.hid (And.intro hdE (And.intro hnx (And.intro hel ht2)))
  obtain ⟨i9, hin, hz0, hz1, hz2⟩ := info_parts info9
  have hrl0 := h.lt
  clear h hne hok hdE hnx hel ht2
  go_enter Try.func57, Try.ntmps57
  go_wp2_with fail
  refine (rdecode_ok S _ hs HK.out).mono ?_
  rintro e w1 ⟨rfl, hk⟩
  unfold letterV
  have hO := hk.alloc (.cells #[.int .i64 (numAt S 0 1), .int .i64 (numAt S 1 4), .int .i64 (numAt S 5 1), .int .i64 (numAt S 6 4), .int .i64 (numAt S 10 4), .string (S.extract 16 (S.size - 4))] 23)
  have h1 := H.out.keep hO
  have hx := blk_new w1 (.cells #[.int .i64 (numAt S 0 1), .int .i64 (numAt S 1 4), .int .i64 (numAt S 5 1), .int .i64 (numAt S 6 4), .int .i64 (numAt S 10 4), .string (S.extract 16 (S.size - 4))] 23)
  have y1 := (blk_cell hx 1).trans rfl
  obtain ⟨wv, yv, wb, eb, hg, _, _⟩ := id h1
  have x3 := (blk_cell hg 3).trans (show (s.rcells wv yv)[3]? = some (.int .i64 s.epoch) from rfl)
  have hgl : r < w1.heap.size := (H.out.keep hk).lt
  clear hk hg
  go_wp2_with fail
  generalize hlb : w1.heap.size = lb at hgl hx y1 ⊢
  generalize w1.alloc (.cells #[.int .i64 (numAt S 0 1), .int .i64 (numAt S 1 4), .int .i64 (numAt S 5 1), .int .i64 (numAt S 6 4), .int .i64 (numAt S 10 4), .string (S.extract 16 (S.size - 4))] 23) = w2 at hO y1 x3 h1 hx ⊢
  generalize numAt S 1 4 = ee at y1 hb hx ⊢
  generalize hkk : numAt S 0 1 = kk at hx ⊢
  generalize hro : numAt S 5 1 = ro at hx ⊢
  generalize hnn : numAt S 6 4 = nn at hx ⊢
  generalize haa : numAt S 10 4 = aa at hx ⊢
  generalize hdd : S.extract 16 (S.size - 4) = dd at hx ⊢
  have HNM : Hid (numAt S 0 1 = kk ∧ numAt S 5 1 = ro ∧ numAt S 6 4 = nn ∧ numAt S 10 4 = aa ∧ S.extract 16 (S.size - 4) = dd) := Lib.hid ⟨hkk, hro, hnn, haa, hdd⟩
  clear hlb hkk hro hnn haa hdd
  go_quiet (fail)
  have hO2 : Only (fun _ => False) w (w2.drewN nq) := hO.drewN nq
  have h2 := h1.keep ((Only.refl (fun _ => False) w2).drewN nq)
  have hx2 : (w2.drewN nq).heap[lb]? = some (.cells #[.int .i64 kk, .int .i64 ee, .int .i64 ro, .int .i64 nn, .int .i64 aa, .string dd] 23 (0, 0)) := hx
  generalize w2.drewN nq = w3 at hO2 h2 hx2 ⊢
  clear hO h1 hx y1 x3 w2 H
  go_wp2_with fail
  refine (rtime_any w3 r s now h2).mono ?_
  rintro e w4 ⟨rfl, h4, hk4⟩
  have hx4 := hk4.at hx2 (fun e => by omega)
  have hO4 : Only (fun k => k = r) w w4 := (hO2.mono (fun _ _ h => h.elim)).trans hk4
  obtain ⟨wv4, yv4, wb4, eb4, hg4, _, _⟩ := id h4
  have x6 := (blk_cell hg4 6).trans (show ((s.ticked now).rcells wv4 yv4)[6]? = some (.int .i64 (s.ticked now).now) from rfl)
  have f11 := blk_free hg4 11
  have hk5 := (Only.refl (fun k => k = r) w4).setCell ⟨r, 11, none⟩ (.int .i64 (s.ticked now).now) (fun _ => rfl)
  have h5 := h4.set (s' := ({ s.ticked now with hat := (s.ticked now).now } : CS)) 11 (.int .i64 (s.ticked now).now) (fun _ _ => rfl) rfl rfl
  have hx5 := hk5.at hx4 (fun e => by omega)
  have y2 : (w4.setCell ⟨r, 11, none⟩ (.int .i64 (s.ticked now).now)).cell? ⟨lb, 2, none⟩ = some (.int .i64 ro) := (blk_cell hx5 2).trans rfl
  have x11 := (blk_cell hg4 11).trans (show ((s.ticked now).rcells wv4 yv4)[11]? = some (.int .i64 (s.ticked now).hat) from rfl)
  have x12 : (w4.setCell ⟨r, 11, none⟩ (.int .i64 (s.ticked now).now)).cell? ⟨r, 12, none⟩ = some (.int .i64 (s.ticked now).hrole) := (blk_cell (blk_set hg4 11 (.int .i64 (s.ticked now).now)) 12).trans rfl
  have f12 := blk_free (blk_set hg4 11 (.int .i64 (s.ticked now).now)) 12
  have hk6 := (Only.refl (fun k => k = r) (w4.setCell ⟨r, 11, none⟩ (.int .i64 (s.ticked now).now))).setCell ⟨r, 12, none⟩ (.int .i64 ro) (fun _ => rfl)
  have h6 := h5.set (s' := ({ s.ticked now with hat := (s.ticked now).now, hrole := ro } : CS)) 12 (.int .i64 ro) (fun _ _ => rfl) rfl rfl
  have hx6 := hk6.at hx5 (fun e => by omega)
  have y4 : ((w4.setCell ⟨r, 11, none⟩ (.int .i64 (s.ticked now).now)).setCell ⟨r, 12, none⟩ (.int .i64 ro)).cell? ⟨lb, 4, none⟩ = some (.int .i64 aa) := (blk_cell hx6 4).trans rfl
  have hO6 := (hO4.trans hk5).trans hk6
  clear hk4 hx2 hO2 h2 h4 h5 hx4 hx5 hk5 hk6 hO4 hg4
  go_wp2_with fail
  refine (rack_any _ r _ aa h6 (show s.O.length ≤ 1000000 by omega)).mono ?_
  rintro e w7 ⟨rfl, h7, hk7⟩
  have hx7 := hk7.at hx6 (fun e => by omega)
  have hO7 := hO6.trans hk7
  rw [show (({ s.ticked now with hat := (s.ticked now).now, hrole := ro } : CS)).acks aa = s.hears ro aa now from rfl] at h7
  clear hk7 hx6 hO6 h6 y4 y2 f12 f11 x6 x11 x12
  have z0 := (blk_cell hx7 0).trans (show (#[Value.int .i64 kk, .int .i64 ee, .int .i64 ro, .int .i64 nn, .int .i64 aa, .string dd] : Array Value)[0]? = some (.int .i64 kk) from rfl)
  have z3 := (blk_cell hx7 3).trans (show (#[Value.int .i64 kk, .int .i64 ee, .int .i64 ro, .int .i64 nn, .int .i64 aa, .string dd] : Array Value)[3]? = some (.int .i64 nn) from rfl)
  by_cases hk2 : kk = 2
  · have d2 : (kk == 2) = true := by simpa using hk2
    obtain ⟨wv7, yv7, wb7, eb7, hg7, _, _⟩ := id h7
    have x13 := (blk_cell hg7 13).trans (show ((s.hears ro aa now).rcells wv7 yv7)[13]? = some (.int .i64 (s.hears ro aa now).hmark) from rfl)
    have f13 := blk_free hg7 13
    have h8 := h7.set (s' := ({ s.hears ro aa now with hmark := nn } : CS)) 13 (.int .i64 nn) (fun _ _ => rfl) rfl rfl
    have hk8 := (Only.refl (fun k => k = r) w7).setCell ⟨r, 13, none⟩ (.int .i64 nn) (fun _ => rfl)
    go_wp2_with fail
    go_ret2
    obtain ⟨e1, e2, e3, e4, e5⟩ := HNM.out
    rw [e1, e2, e3, e4, e5]
    refine ⟨_, rfl, ?_, ?_, hO7.trans hk8⟩
    · unfold CS.brings
      rw [if_pos hk2]
      exact World.ownsRow_nil _ _ _ _
    · unfold CS.takes
      rw [if_pos hk2]
      exact h8
  · have d2 : (kk == 2) = false := by simpa using hk2
    obtain ⟨wv7, yv7, wb7, eb7, hg7, _, _⟩ := id h7
    have x10 := (blk_cell hg7 10).trans (show ((s.hears ro aa now).rcells wv7 yv7)[10]? = some (.int .i64 (s.hears ro aa now).bat) from rfl)
    have x6 := (blk_cell hg7 6).trans (show ((s.hears ro aa now).rcells wv7 yv7)[6]? = some (.int .i64 (s.hears ro aa now).now) from rfl)
    have f10 := blk_free hg7 10
    have h8 := h7.set (s' := ({ s.hears ro aa now with bat := (s.hears ro aa now).now } : CS)) 10 (.int .i64 (s.hears ro aa now).now) (fun _ _ => rfl) rfl rfl
    have hk8 := (Only.refl (fun k => k = r) w7).setCell ⟨r, 10, none⟩ (.int .i64 (s.hears ro aa now).now) (fun _ => rfl)
    have hx8 := hk8.at hx7 (fun e => by omega)
    have hO8 := hO7.trans hk8
    clear hg7 h7 hk8 hx7 hO7
    go_upto_region 14 with fail
    generalize w7.setCell ⟨r, 10, none⟩ (.int .i64 (s.hears ro aa now).now) = w8 at h8 hx8 hO8 ⊢
    clear x10 x6 f10 z0 z3
    generalize hs7 : ({ s.hears ro aa now with bat := (s.hears ro aa now).now } : CS) = s7 at h8 ⊢
    have HS7 := Lib.hid hs7
    have ht7 : s7.taken = s.taken := by rw [← hs7]; exact (hears_frame s ro aa now).2.1
    have hr7 : s7.room = s.room := by rw [← hs7]; exact (hears_frame s ro aa now).2.2.1
    rw [← ht7] at ht
    rw [← hr7] at hr
    have HE7 : Hid (s7.E = s.E) := Lib.hid (by rw [← hs7]; exact (hears_frame s ro aa now).1)
    have HTT : Hid (s7.taken = s.taken) := Lib.hid ht7
    clear ht7 hr7
    clear hs7
    have z3 := (blk_cell hx8 3).trans (show (#[Value.int .i64 kk, .int .i64 ee, .int .i64 ro, .int .i64 nn, .int .i64 aa, .string dd] : Array Value)[3]? = some (.int .i64 nn) from rfl)
    obtain ⟨wv8, yv8, wb8, eb8, hg8, _, _⟩ := id h8
    have x9 := (blk_cell hg8 9).trans (show (s7.rcells wv8 yv8)[9]? = some (.int .i64 s7.taken) from rfl)
    have x0 := (blk_cell hg8 0).trans (show (s7.rcells wv8 yv8)[0]? = some (.int .i64 s7.room) from rfl)
    have H8 := Lib.hid h8
    have HX8 := Lib.hid hx8
    clear hg8 h8 hx8
    by_cases hc1 : nn ≤ s7.taken
    · have d1 : decide (nn ≤ s7.taken) = true := decide_eq_true hc1
      go_wp2_with fail
      go_quiet (fail)
      go_wp2_with fail
      go_ret2
      obtain ⟨e1, e2, e3, e4, e5⟩ := HNM.out
      rw [e1, e2, e3, e4, e5]
      have hkp : s7.keeps nn dd = s7 := keeps_old dd hc1
      have hnn := nexts_none (s := s7) (by rw [HE7.out, HTT.out]; exact HD.out.2.1)
      refine ⟨_, rfl, ?_, ?_, hO8.then ((Only.refl (fun _ => False) w8).drewN _) (fun _ _ h => h.elim)⟩
      · unfold CS.brings
        rw [if_neg hk2, HS7.out, hkp, hnn.2]
        exact World.ownsRow_nil _ _ _ _
      · unfold CS.takes
        rw [if_neg hk2, HS7.out, hkp, hnn.1]
        exact H8.out.keep ((Only.refl (fun _ => False) w8).drewN _)
    · have d1 : decide (nn ≤ s7.taken) = false := decide_eq_false hc1
      have hwr : IntKind.i64.wrap (s7.taken + s7.room) = s7.taken + s7.room := by rw [IntKind.wrap_i64]; omega
      by_cases hc2 : s7.taken + s7.room < nn
      · have d2 : decide (s7.taken + s7.room < nn) = true := decide_eq_true hc2
        go_wp2_with fail
        go_quiet (fail)
        go_wp2_with fail
        go_ret2
        obtain ⟨e1, e2, e3, e4, e5⟩ := HNM.out
        rw [e1, e2, e3, e4, e5]
        have hkp : s7.keeps nn dd = s7 := keeps_far dd hc2
        have hnn := nexts_none (s := s7) (by rw [HE7.out, HTT.out]; exact HD.out.2.1)
        refine ⟨_, rfl, ?_, ?_, hO8.then ((Only.refl (fun _ => False) w8).drewN _) (fun _ _ h => h.elim)⟩
        · unfold CS.brings
          rw [if_neg hk2, HS7.out, hkp, hnn.2]
          exact World.ownsRow_nil _ _ _ _
        · unfold CS.takes
          rw [if_neg hk2, HS7.out, hkp, hnn.1]
          exact H8.out.keep ((Only.refl (fun _ => False) w8).drewN _)
      · have d2 : decide (s7.taken + s7.room < nn) = false := decide_eq_false hc2
        go_wp2_with fail
        go_quiet (fail)
        have hkq := (Only.refl (fun _ => False) w8).drewN nq
        have H9 := Lib.hid (H8.out.keep hkq)
        have HX9 := Lib.hid (hkq.at HX8.out (fun h => h))
        have hO9 : Only (fun k => k = r) w (w8.drewN nq) := hO8.then hkq (fun _ _ h => h.elim)
        have z9 : (w8.drewN nq).cell? ⟨lb, 3, none⟩ = some (.int .i64 nn) := z3
        generalize w8.drewN nq = w9 at H9 HX9 hO9 z9 ⊢
        clear x9 x0 z3 H8 HX8 hO8 hkq
        go_wp2_with fail
        refine (rearly_any w9 r s7 nn H9.out (by rw [HE7.out]; have := HD.out.2.2.1; omega)).mono ?_
        rintro e _ ⟨rfl, rfl⟩
        have HFR : Hid (numAt S 0 1 = kk ∧ numAt S 5 1 = ro ∧ numAt S 6 4 = nn ∧ numAt S 10 4 = aa ∧ S.extract 16 (S.size - 4) = dd) := HNM
        cases hlk : lookE s7.E nn with
        | some d0 =>
          obtain ⟨i0, hpl, _⟩ := early_some s7.E nn d0 (by rw [HE7.out]; exact HD.out.1) hlk
          have hEN : earlyN s7.Y nn = (i0 : Int) := by
            unfold earlyN
            rw [show s7.Y = s7.E.map (fun p => (p.1, 0, p.2)) from rfl, hpl]
          rw [hEN]
          have dn : decide ((i0 : Int) < 0) = false := decide_eq_false (by omega)
          have HKP := Lib.hid (show s7.keeps nn dd = s7 from if_pos (.inl (by rw [hlk]; rfl)))
          have HFIN : Hid (s.takes kk ro nn aa dd now = s7.nexts ∧ s.brings kk ro nn aa dd now = s7.news) := Lib.hid (by
            unfold CS.takes CS.brings
            rw [if_neg hk2, if_neg hk2, HS7.out, HKP.out]
            exact ⟨rfl, rfl⟩)
          have hD8 : DistE s7.E := by rw [HE7.out]; exact HD.out.1
          have hL8 : s7.E.length ≤ 101 := by rw [HE7.out]; have := HD.out.2.2.1; omega
          have hT8 : 0 ≤ s7.taken ∧ s7.taken + s7.E.length ≤ 4294967295 := by rw [HE7.out, HTT.out]; have := HD.out.2.2.2; have := ht.1; rw [HTT.out] at this; omega
          have h8 := H9.out
          clear hlk hpl hEN HS7 HE7 HTT HKP HD H9 HX9 hk2 ht hr
          generalize s7 = S8 at *
          have hOl := hO9
          clear hO9 z9
          go_upto_region 18 with fail
          generalize w9 = wl at h8 hOl ⊢
          have H8 := Lib.hid h8
          have HO8 := Lib.hid hOl
          have HD8 := Lib.hid hD8
          have HT8 := Lib.hid hT8
          have HL8 := Lib.hid hL8
          have hrow0 := World.ownsRow_nil wl w.heap.size 9 1
          clear h8 hOl hD8 hT8 hL8
          go_wp2_with fail
          go_loopw [10] (fun ov wr => ∃ (t : Int) (E : List (Int × ByteArray)) (bs : List ByteArray), REAt wr r { S8 with taken := t, E := E } ∧ wr.ownsRow w.heap.size 9 1 ov bs.length (bs.map Value.string) ∧ S8.drained = ((drainE E.length t E).1, (drainE E.length t E).2.1, bs ++ (drainE E.length t E).2.2) ∧ DistE E ∧ 0 ≤ t ∧ t + E.length ≤ 4294967295 ∧ bs.length + E.length ≤ 101 ∧ Only (fun k => k = r) w wr) (fun _ wr => yLen wr r)
          case atStart => exact ⟨S8.taken, S8.E, [], H8.out, hrow0, rfl, HD8.out, HT8.out.1, HT8.out.2, by simpa using HL8.out, HO8.out⟩
          case round =>
            clear hrow0
            obtain ⟨t, E, bs, hQ, hrow, hdr, hdd, p0, p1, hlen, hO⟩ := hrel
            have HDR := Lib.hid hdr
            obtain ⟨wv, yv, wb, eb, hst⟩ := RSt.of hQ
            have y9 := (blk_cell hst.blk 9).trans (show (({ S8 with taken := t, E := E } : CS).rcells wv yv)[9]? = some (.int .i64 t) from rfl)
            have hwt : IntKind.i64.wrap (t + 1) = t + 1 := by rw [IntKind.wrap_i64]; omega
            have HQ := Lib.hid hQ
            have HROW := Lib.hid hrow
            have HDD := Lib.hid hdd
            have HST := Lib.hid hst
            clear hdr hQ hrow hdd hst
            go_wp2_with fail
            refine (rearly_any wr r _ (t + 1) HQ.out (show E.length ≤ 1000000 by omega)).mono ?_
            rintro e _ ⟨rfl, rfl⟩
            cases hl : lookE E (t + 1) with
            | none =>
              have hEN : earlyN ({ S8 with taken := t, E := E } : CS).Y (t + 1) = -1 := by
                unfold earlyN
                rw [show ({ S8 with taken := t, E := E } : CS).Y = E.map (fun p => (p.1, 0, p.2)) from rfl, early_none E (t + 1) hl]
              rw [hEN]
              have HFL := Lib.hid (show S8.drained = (t, E, bs) from by rw [HDR.out, drainE_none hl, List.append_nil])
              clear hEN hl
              go_wp2_with fail
              go_ret2
              obtain ⟨e1, e2, e3, e4, e5⟩ := HNM.out
              rw [e1, e2, e3, e4, e5, HFIN.out.1, HFIN.out.2]
              refine ⟨_, rfl, ?_, ?_, hO⟩
              · unfold CS.news
                rw [HFL.out]
                exact HROW.out
              · unfold CS.nexts
                rw [HFL.out]
                exact HQ.out
            | some d =>
              obtain ⟨i, hpl, hil, hat, hdel⟩ := early_some E (t + 1) d HDD.out hl
              have hEN : earlyN ({ S8 with taken := t, E := E } : CS).Y (t + 1) = (i : Int) := by
                unfold earlyN
                rw [show ({ S8 with taken := t, E := E } : CS).Y = E.map (fun p => (p.1, 0, p.2)) from rfl, hpl]
              rw [hEN]
              have HEN := Lib.hid hEN
              have hYl : ({ S8 with taken := t, E := E } : CS).Y.length = E.length := by unfold CS.Y; rw [List.length_map]
              have dn : decide ((i : Int) < 0) = false := decide_eq_false (by omega)
              have dn2 : decide (0 ≤ (i : Int)) = true := decide_eq_true (by omega)
              have HSTEP := Lib.hid (show S8.drained = ((drainE (delE E (t + 1)).length (t + 1) (delE E (t + 1))).1, (drainE (delE E (t + 1)).length (t + 1) (delE E (t + 1))).2.1, (bs ++ [d]) ++ (drainE (delE E (t + 1)).length (t + 1) (delE E (t + 1))).2.2) from by
                have hpos : E.length = (E.length - 1) + 1 := by have := List.length_pos_of_mem (lookE_mem hl); omega
                have hdl := delE_length (lookE_mem hl)
                rw [HDR.out, hpos, drainE_some hl, drainE_fuel (E.length - 1) (delE E (t + 1)).length (t + 1) (delE E (t + 1)) (by omega) (Nat.le_refl _)]
                simp)
              have HDL := Lib.hid (delE_length (lookE_mem hl))
              have HDEL := Lib.hid hdel
              have HDD2 := Lib.hid (HDD.out.del (t + 1))
              obtain ⟨va, cap, rfl⟩ := HST.out.erow.form
              have herow := HST.out.erow
              obtain ⟨ga, rfl, hgal, hc0, hc1, hc2⟩ := herow.cells i (by rw [hYl]; exact hil)
              have hgd : (({ S8 with taken := t, E := E } : CS).Y.getD i st0).2.2 = d := by
                rw [show ({ S8 with taken := t, E := E } : CS).Y = E.map (fun p => ((p.1, 0, p.2) : St)) from rfl, List.getD_eq_getElem?_getD, List.getElem?_map, hat]
                rfl
              rw [hgd] at hc2
              have y15 := HST.out.c15
              have hcap := herow.capLe.1
              rw [hYl] at hcap
              have HNL : Hid (({ S8 with taken := t, E := E } : CS).Y.length = E.length) := Lib.hid hYl
              rw [hYl] at y15 HST
              have y9 := (blk_cell HST.out.blk 9).trans (show (({ S8 with taken := t, E := E } : CS).rcells wv (.slice (some ⟨ga, 0, none⟩) E.length cap))[9]? = some (.int .i64 t) from rfl)
              have HLL : Hid (E.length ≤ 101) := Lib.hid (by omega)
              have hbl : bs.length ≤ 101 := by omega
              generalize hN : E.length = N at hil hcap y15 HST HNL HLL HDL p1 hlen
              have HN := Lib.hid hN
              clear hpl hat hEN hYl hdel hl herow hgd hc0 hc1 hN
              go_wp2_with fail
              refine (rearly_any wr r _ (t + 1) HQ.out (by show E.length ≤ 1000000; rw [HN.out]; have := HLL.out; omega)).mono ?_
              rintro e _ ⟨rfl, rfl⟩
              rw [HEN.out]
              have hsz := hO.size
              go_wp2_with (at_builtin; refine wpList_append_own _ rfl _ _ 43 rfl w.heap.size 9 i9 (.string ⟨#[]⟩) 1 16 Try.underlying43 hin hz0 hz1 hz2 rfl (by decide) _ bs.length _ rfl (HROW.out.alloc _) ⟨wr.heap.size, 0, none⟩ 1 1 [.string d] rfl rfl (cell_one_new _ _ _) (by simp [Value.oneCell']) (by simp [maxLen]; omega) (by omega) (by rw [World.size_alloc]; omega) ?_; intro v5 w5 hown hgr _)
              have hka := (Only.refl (fun _ => False) wr).alloc (.cells #[.string d] 9)
              have hrowA : (wr.alloc (.cells #[.string d] 9)).ownsRow w.heap.size 9 1 u10 bs.length (bs.map Value.string) := HROW.out.alloc _
              have hst5 := (HST.out.keep hka).grown hrowA hrl0 hgr
              have hO5 : Only (fun k => k = r) w w5 := (hO.then hka (fun _ _ h => h.elim)).then (Only.of_grown hgr) (fun k hk e => by have := (hrowA.lt _ e.symm).1; omega)
              have hown2 : w5.ownsRow w.heap.size 9 1 v5 (bs ++ [d]).length ((bs ++ [d]).map Value.string) := by
                rw [List.length_append, List.map_append]
                exact hown
              have HGS : Hid (wr.heap.size ≤ w5.heap.size) := Lib.hid (Nat.le_trans hka.size (Only.of_grown hgr).size)
              clear hown hgr hrowA hka hO hsz
              obtain ⟨B, hB⟩ : ∃ B, B = w5.heap.size := ⟨_, rfl⟩
              have HBW : Hid (w5.heap.size ≤ B) := Lib.hid (Nat.le_of_eq hB.symm)
              generalize hsq : ({ S8 with taken := t, E := E } : CS) = sq at *
              have HT : Hid (rdPh w5 B r ga N cap i sq wv wb eb false false w5.drew) := Lib.hid ⟨(Only.refl _ w5).drew, by rw [hB]; exact Nat.le_refl _, (hst5.keep (Only.refl (fun _ => False) w5).drew).mono (by rw [hB]; exact HGS.out)⟩
              have HC : Hid (i < N ∧ N ≤ cap ∧ N ≤ 101) := Lib.hid ⟨hil, hcap, HLL.out⟩
              have HL : Hid (sq.Y.length ≤ 101) := Lib.hid (by rw [HNL.out]; exact HLL.out)
              have HSQ := Lib.hid hsq
              have HOWN := Lib.hid hown2
              have HO5 := Lib.hid hO5
              have HP : Hid (0 ≤ t ∧ t + N ≤ 4294967295 ∧ bs.length + N ≤ 101) := Lib.hid ⟨p0, p1, hlen⟩
              clear hst5 hB hil hcap hsq hown2 hO5 y15 y9 hc2 hgal hwt p0 p1 hlen dn dn2 hbl
              go_upto_region 22 with fail
              refine wp_region_phasedk_tail 19 rdDs rdNeed rdGs rdLate rdEarly (fun L w' => rdPh w5 B r ga N cap i sq wv wb eb (L 8) (L 16) w') (fun i w w' => Only (rdSt B w i) w w') (rdG B r ga N cap i sq wv wb eb) rfl rfl (by kernel_rfl) (by kernel_rfl) (by kernel_rfl) (by kernel_rfl) (by kernel_rfl) (by kernel_rfl) HT.out rdG.keep rdG.guard (fun _ _ => Only.refl _ _) ?_ ?_
              · refine And.intro ?op0 (And.intro ?op1 (And.intro ?op2 (And.intro ?op3 (And.intro ?op4 (And.intro ?op5 (And.intro ?op6 (And.intro ?op7 (And.intro ?op8 (And.intro ?op9 (And.intro ?op10 (And.intro ?op11 (And.intro ?op12 (And.intro ?op13 (And.intro ?op14 (And.intro ?op15 (And.intro ?op16 (And.intro ?op17 (And.intro ?op18 trivial))))))))))))))))))
                case op0 =>
                  intro L ev w1 hLi hlate hearly hT1 hc hf hfr hG
                  rw [if_pos (by decide)]
                  have hP : rdPh w5 B r ga N cap i sq wv wb eb (L 8) (L 16) w1 := hT1
                  have h0 : ev (.tmp 0) = .pointer (some ⟨r, 0, none⟩) := hfr 0 (by decide)
                  clear hG hfr
                  refine OpSays.value (v := .pointer (some ⟨r, 0, none⟩)) (w' := w1) ?_ ⟨hT1, Only.refl _ _, rfl⟩
                  go_simp
                case op1 =>
                  intro L ev w1 hLi hlate hearly hT1 hc hf hfr hG
                  rw [if_pos (by decide)]
                  have hP : rdPh w5 B r ga N cap i sq wv wb eb (L 8) (L 16) w1 := hT1
                  obtain ⟨hl8, hl16, _⟩ := hlate
                  rw [hl8] at hP
                  rw [hl16] at hP
                  change OpSays _ _ _ _ (fun v w' => rdPh w5 B r ga N cap i sq wv wb eb (L 8) (L 16) w' ∧ _ ∧ _)
                  rw [hl8]
                  rw [hl16]
                  clear hG hfr
                  have hk := (Only.refl (fun _ => False) w1).alloc (.cells #[] 135)
                  have hP2 := hP.keep hk
                  have hBw := hP.2.1
                  refine OpSays.value (v := .slice (some ⟨w1.heap.size, 0, none⟩) 0 0) (w' := w1.alloc (.cells #[] 135)) ?_ ⟨hP2, hk.mono (fun _ _ h => h.elim), w1.heap.size, rfl, hBw, fun _ _ => blk_new w1 _⟩
                  go_simp
                case op2 =>
                  intro L ev w1 hLi hlate hearly hT1 hc hf hfr hG
                  rw [if_pos (by decide)]
                  have hP : rdPh w5 B r ga N cap i sq wv wb eb (L 8) (L 16) w1 := hT1
                  obtain ⟨hl8, hl16, _⟩ := hlate
                  rw [hl8] at hP
                  rw [hl16] at hP
                  have h0 : ev (.tmp 0) = .pointer (some ⟨r, 0, none⟩) := hfr 0 (by decide)
                  clear hG hfr
                  refine OpSays.value (v := .pointer (some ⟨r, 0, none⟩)) (w' := w1) ?_ ⟨hT1, Only.refl _ _, rfl⟩
                  go_simp
                case op3 =>
                  intro L ev w1 hLi hlate hearly hT1 hc hf hfr hG
                  rw [if_pos (by decide)]
                  have hP : rdPh w5 B r ga N cap i sq wv wb eb (L 8) (L 16) w1 := hT1
                  obtain ⟨hl8, hl16, _⟩ := hlate
                  rw [hl8] at hP
                  rw [hl16] at hP
                  have hg : (ev (.tmp 132) = .pointer (some ⟨r, 0, none⟩)) ∧ True := hG
                  obtain ⟨g2, _⟩ := hg
                  clear hG hfr
                  refine OpSays.value (v := .pointer (some ⟨r, 0, none⟩)) (w' := w1) ?_ ⟨hT1, Only.refl _ _, rfl⟩
                  go_simp
                case op4 =>
                  intro L ev w1 hLi hlate hearly hT1 hc hf hfr hG
                  rw [if_pos (by decide)]
                  have hP : rdPh w5 B r ga N cap i sq wv wb eb (L 8) (L 16) w1 := hT1
                  obtain ⟨hl8, hl16, _⟩ := hlate
                  rw [hl8] at hP
                  rw [hl16] at hP
                  have hg : (ev (.tmp 133) = .pointer (some ⟨r, 0, none⟩)) ∧ True := hG
                  obtain ⟨g3, _⟩ := hg
                  clear hG hfr
                  refine OpSays.value (v := .pointer (some ⟨r, 15, none⟩)) (w' := w1) ?_ ⟨hT1, Only.refl _ _, rfl⟩
                  go_simp
                case op5 =>
                  intro L ev w1 hLi hlate hearly hT1 hc hf hfr hG
                  rw [if_pos (by decide)]
                  have hP : rdPh w5 B r ga N cap i sq wv wb eb (L 8) (L 16) w1 := hT1
                  obtain ⟨hl8, hl16, _⟩ := hlate
                  rw [hl8] at hP
                  rw [hl16] at hP
                  have hg : (ev (.tmp 134) = .pointer (some ⟨r, 15, none⟩)) ∧ True := hG
                  obtain ⟨g4, _⟩ := hg
                  clear hG hfr
                  have x15 := hP.2.2.c15
                  refine OpSays.value (v := .slice (some ⟨ga, 0, none⟩) N cap) (w' := w1) ?_ ⟨hT1, Only.refl _ _, rfl⟩
                  go_simp
                case op6 =>
                  intro L ev w1 hLi hlate hearly hT1 hc hf hfr hG
                  rw [if_pos (by decide)]
                  have hP : rdPh w5 B r ga N cap i sq wv wb eb (L 8) (L 16) w1 := hT1
                  obtain ⟨hl8, hl16, _⟩ := hlate
                  rw [hl8] at hP
                  rw [hl16] at hP
                  have h11 : ev (.tmp 11) = .int .i64 i := hfr 11 (by decide)
                  clear hG hfr
                  refine OpSays.value (v := .int .i64 i) (w' := w1) ?_ ⟨hT1, Only.refl _ _, rfl⟩
                  go_simp
                case op7 =>
                  intro L ev w1 hLi hlate hearly hT1 hc hf hfr hG
                  rw [if_pos (by decide)]
                  have hP : rdPh w5 B r ga N cap i sq wv wb eb (L 8) (L 16) w1 := hT1
                  obtain ⟨hl8, hl16, _⟩ := hlate
                  rw [hl8] at hP
                  rw [hl16] at hP
                  have hg : (ev (.tmp 135) = .slice (some ⟨ga, 0, none⟩) N cap) ∧ (ev (.tmp 136) = .int .i64 i) ∧ True := hG
                  obtain ⟨g5, g6, _⟩ := hg
                  clear hG hfr
                  have hlo := run_low ga N cap i (by have := HC.out; omega)
                  refine OpSays.value (v := .slice (some ⟨ga, 0, none⟩) i cap) (w' := w1) ?_ ⟨hT1, Only.refl _ _, rfl⟩
                  go_simp
                case op8 =>
                  intro L ev w1 hLi hlate hearly hT1 hc hf hfr hG
                  rw [if_pos (by decide)]
                  have hP : rdPh w5 B r ga N cap i sq wv wb eb (L 8) (L 16) w1 := hT1
                  obtain ⟨hl16, _⟩ := hlate
                  rw [hLi] at hP
                  rw [hl16] at hP
                  change OpSays _ _ _ _ (fun v w' => rdPh w5 B r ga N cap i sq wv wb eb (true) (L 16) w' ∧ _ ∧ _)
                  rw [hl16]
                  have hg : (∃ k, ev (.tmp 131) = .slice (some ⟨k, 0, none⟩) 0 0 ∧ B ≤ k ∧ (L 8 = false → L 16 = false → w1.heap[k]? = some (.cells #[] 135 (0, 0)))) ∧ (ev (.tmp 137) = .slice (some ⟨ga, 0, none⟩) i cap) ∧ True := hG
                  obtain ⟨g1, g7, _⟩ := hg
                  clear hG hfr
                  obtain ⟨k, g1, hBk, hk1⟩ := g1
                  have hemp := hk1 hLi hl16
                  have hD : SRow w1 B (.slice (some ⟨k, 0, none⟩) 0 0) [] := ⟨by simp [sentCells], .inr ⟨k, 0, #[], rfl, hBk, hemp, Nat.le_refl _, by decide, by simp, by simp [sentCells]⟩⟩
                  obtain ⟨v2, w2, hr, hrow, hk, hbb⟩ := append_src w1 73 B _ _ [] (sq.Y.take i) hD (hP.2.2.erow.src_low i (by have := HC.out; have := HNL.out; omega)) hP.2.1 (by have := HL.out; simp only [List.length_nil]; rw [List.length_take]; omega)
                  rw [List.nil_append] at hrow
                  refine OpSays.value (v := v2) (w' := w2) ?_ ⟨hP.more HBW.out hk (fun z hz => by have e : k = z := Option.some.inj hz; omega), hk.mono (fun z _ h => .inl ⟨rfl, by have e : k = z := Option.some.inj h; rw [← e]; exact hemp⟩), hbb, fun _ => hrow⟩
                  unfold execOp
                  simp only [resolve, invoke, builtin, Sem.run_bind, Sem.run_pure, Result.andThen_ok, List.map_toArray, List.map_cons, List.map_nil, g1, g7, hr]
                case op9 =>
                  intro L ev w1 hLi hlate hearly hT1 hc hf hfr hG
                  rw [if_pos (by decide)]
                  have hP : rdPh w5 B r ga N cap i sq wv wb eb (L 8) (L 16) w1 := hT1
                  obtain ⟨hl16, _⟩ := hlate
                  rw [hl16] at hP
                  have h0 : ev (.tmp 0) = .pointer (some ⟨r, 0, none⟩) := hfr 0 (by decide)
                  clear hG hfr
                  refine OpSays.value (v := .pointer (some ⟨r, 0, none⟩)) (w' := w1) ?_ ⟨hT1, Only.refl _ _, rfl⟩
                  go_simp
                case op10 =>
                  intro L ev w1 hLi hlate hearly hT1 hc hf hfr hG
                  rw [if_pos (by decide)]
                  have hP : rdPh w5 B r ga N cap i sq wv wb eb (L 8) (L 16) w1 := hT1
                  obtain ⟨hl16, _⟩ := hlate
                  rw [hl16] at hP
                  have hg : (ev (.tmp 139) = .pointer (some ⟨r, 0, none⟩)) ∧ True := hG
                  obtain ⟨g9, _⟩ := hg
                  clear hG hfr
                  refine OpSays.value (v := .pointer (some ⟨r, 0, none⟩)) (w' := w1) ?_ ⟨hT1, Only.refl _ _, rfl⟩
                  go_simp
                case op11 =>
                  intro L ev w1 hLi hlate hearly hT1 hc hf hfr hG
                  rw [if_pos (by decide)]
                  have hP : rdPh w5 B r ga N cap i sq wv wb eb (L 8) (L 16) w1 := hT1
                  obtain ⟨hl16, _⟩ := hlate
                  rw [hl16] at hP
                  have hg : (ev (.tmp 140) = .pointer (some ⟨r, 0, none⟩)) ∧ True := hG
                  obtain ⟨g10, _⟩ := hg
                  clear hG hfr
                  refine OpSays.value (v := .pointer (some ⟨r, 15, none⟩)) (w' := w1) ?_ ⟨hT1, Only.refl _ _, rfl⟩
                  go_simp
                case op12 =>
                  intro L ev w1 hLi hlate hearly hT1 hc hf hfr hG
                  rw [if_pos (by decide)]
                  have hP : rdPh w5 B r ga N cap i sq wv wb eb (L 8) (L 16) w1 := hT1
                  obtain ⟨hl16, _⟩ := hlate
                  rw [hl16] at hP
                  have hg : (ev (.tmp 141) = .pointer (some ⟨r, 15, none⟩)) ∧ True := hG
                  obtain ⟨g11, _⟩ := hg
                  clear hG hfr
                  have x15 := hP.2.2.c15
                  refine OpSays.value (v := .slice (some ⟨ga, 0, none⟩) N cap) (w' := w1) ?_ ⟨hT1, Only.refl _ _, rfl⟩
                  go_simp
                case op13 =>
                  intro L ev w1 hLi hlate hearly hT1 hc hf hfr hG
                  rw [if_pos (by decide)]
                  have hP : rdPh w5 B r ga N cap i sq wv wb eb (L 8) (L 16) w1 := hT1
                  obtain ⟨hl16, _⟩ := hlate
                  rw [hl16] at hP
                  have h11 : ev (.tmp 11) = .int .i64 i := hfr 11 (by decide)
                  clear hG hfr
                  refine OpSays.value (v := .int .i64 i) (w' := w1) ?_ ⟨hT1, Only.refl _ _, rfl⟩
                  go_simp
                case op14 =>
                  intro L ev w1 hLi hlate hearly hT1 hc hf hfr hG
                  rw [if_pos (by decide)]
                  have hP : rdPh w5 B r ga N cap i sq wv wb eb (L 8) (L 16) w1 := hT1
                  obtain ⟨hl16, _⟩ := hlate
                  rw [hl16] at hP
                  have hg : (ev (.tmp 143) = .int .i64 i) ∧ True := hG
                  obtain ⟨g13, _⟩ := hg
                  clear hG hfr
                  have hwi : IntKind.i64.wrap ((i : Int) + 1) = (i : Int) + 1 := by rw [IntKind.wrap_i64]; have := HC.out; omega
                  refine OpSays.value (v := .int .i64 (i + 1)) (w' := w1) ?_ ⟨hT1, Only.refl _ _, rfl⟩
                  go_simp
                case op15 =>
                  intro L ev w1 hLi hlate hearly hT1 hc hf hfr hG
                  rw [if_pos (by decide)]
                  have hP : rdPh w5 B r ga N cap i sq wv wb eb (L 8) (L 16) w1 := hT1
                  obtain ⟨hl16, _⟩ := hlate
                  rw [hl16] at hP
                  have hg : (ev (.tmp 142) = .slice (some ⟨ga, 0, none⟩) N cap) ∧ (ev (.tmp 144) = .int .i64 (i + 1)) ∧ True := hG
                  obtain ⟨g12, g14, _⟩ := hg
                  clear hG hfr
                  have hhi := run_high ga N cap (i + 1) (by have := HC.out; omega) (by have := HC.out; omega)
                  push_cast at hhi
                  refine OpSays.value (v := .slice (hiA ga cap (i + 1)) (N - (i + 1)) (cap - (i + 1))) (w' := w1) ?_ ⟨hT1, Only.refl _ _, rfl⟩
                  go_simp
                case op16 =>
                  intro L ev w1 hLi hlate hearly hT1 hc hf hfr hG
                  rw [if_pos (by decide)]
                  have hP : rdPh w5 B r ga N cap i sq wv wb eb (L 8) (L 16) w1 := hT1
                  obtain ⟨he8, _⟩ := hearly
                  rw [he8] at hP
                  rw [hLi] at hP
                  change OpSays _ _ _ _ (fun v w' => rdPh w5 B r ga N cap i sq wv wb eb (L 8) (true) w' ∧ _ ∧ _)
                  rw [he8]
                  have hg : ((∀ b, (ev (.tmp 138)).ownBlock = some b → B ≤ b) ∧ (L 16 = false → SRow w1 B (ev (.tmp 138)) (sq.Y.take i))) ∧ (ev (.tmp 145) = .slice (hiA ga cap (i + 1)) (N - (i + 1)) (cap - (i + 1))) ∧ True := hG
                  obtain ⟨g8, g15, _⟩ := hg
                  clear hG hfr
                  obtain ⟨hb6, hrow6⟩ := g8
                  have hr6 := hrow6 hLi
                  have hsrc := hP.2.2.erow.src_high (i + 1) HNL.out (by have := HC.out; omega) (by have := HC.out; omega)
                  obtain ⟨v2, w2, hr, hrow, hk, hbb⟩ := append_src w1 73 B _ _ (sq.Y.take i) _ hr6 hsrc hP.2.1 (by have := HL.out; rw [List.length_take, List.length_drop]; omega)
                  refine OpSays.value (v := v2) (w' := w2) ?_ ⟨hP.more HBW.out hk hb6, hk.mono (fun z _ h => .inr ⟨rfl, hb6 z h⟩), (by first | rfl | exact he8 | simp [upd, he8]), hbb, hrow⟩
                  unfold execOp
                  simp only [resolve, invoke, builtin, Sem.run_bind, Sem.run_pure, Result.andThen_ok, List.map_toArray, List.map_cons, List.map_nil, g15, hr]
                case op17 =>
                  intro L ev w1 hLi hlate hearly hT1 hc hf hfr hG
                  rw [if_pos (by decide)]
                  have hP : rdPh w5 B r ga N cap i sq wv wb eb (L 8) (L 16) w1 := hT1
                  have hg : (ev (.tmp 130) = .pointer (some ⟨r, 0, none⟩)) ∧ True := hG
                  obtain ⟨g0, _⟩ := hg
                  clear hG hfr
                  refine OpSays.value (v := .pointer (some ⟨r, 0, none⟩)) (w' := w1) ?_ ⟨hT1, Only.refl _ _, rfl⟩
                  go_simp
                case op18 =>
                  intro L ev w1 hLi hlate hearly hT1 hc hf hfr hG
                  rw [if_pos (by decide)]
                  have hP : rdPh w5 B r ga N cap i sq wv wb eb (L 8) (L 16) w1 := hT1
                  have hg : (ev (.tmp 147) = .pointer (some ⟨r, 0, none⟩)) ∧ True := hG
                  obtain ⟨g17, _⟩ := hg
                  clear hG hfr
                  refine OpSays.value (v := .pointer (some ⟨r, 15, none⟩)) (w' := w1) ?_ ⟨hT1, Only.refl _ _, rfl⟩
                  go_simp
              rintro L ⟨tm, df⟩ w9 hL hT1 hsz hdf hfr hG
              have hPE : rdPh w5 B r ga N cap i sq wv wb eb (true) (true) w9 := by
                have hP : rdPh w5 B r ga N cap i sq wv wb eb (L 8) (L 16) w9 := hT1
                have hm := fun k (hk : k ∈ List.range 19) => AllB.get hL k hk
                rw [hm 8 (by decide)] at hP
                rw [hm 16 (by decide)] at hP
                exact hP
              clear hT1 hL
              have k0 : tm.getD 0 undef = .pointer (some ⟨r, 0, none⟩) := hfr 0 (by decide)
              have k1 : tm.getD 1 undef = Value.string S := hfr 1 (by decide)
              have k2 : tm.getD 2 undef = Value.int IntKind.i64 now := hfr 2 (by decide)
              have k3 : tm.getD 3 undef = undef := hfr 3 (by decide)
              have k4 : tm.getD 4 undef = undef := hfr 4 (by decide)
              have k5 : tm.getD 5 undef = undef := hfr 5 (by decide)
              have k6 : tm.getD 6 undef = Value.slice none 0 0 := hfr 6 (by decide)
              have k7 : tm.getD 7 undef = Value.int IntKind.i64 0 := hfr 7 (by decide)
              have k8 : tm.getD 8 undef = Value.pointer (some { block := lb, off := 0 }) := hfr 8 (by decide)
              have k9 : tm.getD 9 undef = Value.int IntKind.i64 0 := hfr 9 (by decide)
              have k12 : tm.getD 12 undef = Value.tuple #[Value.agg #[Value.int IntKind.i64 kk, Value.int IntKind.i64 ee, Value.int IntKind.i64 ro, Value.int IntKind.i64 nn, Value.int IntKind.i64 aa, Value.string dd], Value.int IntKind.i64 0] := hfr 12 (by decide)
              have k13 : tm.getD 13 undef = Value.string S := hfr 13 (by decide)
              have k14 : tm.getD 14 undef = Value.tuple #[Value.agg #[Value.int IntKind.i64 kk, Value.int IntKind.i64 ee, Value.int IntKind.i64 ro, Value.int IntKind.i64 nn, Value.int IntKind.i64 aa, Value.string dd], Value.int IntKind.i64 0] := hfr 14 (by decide)
              have k15 : tm.getD 15 undef = Value.agg #[Value.int IntKind.i64 kk, Value.int IntKind.i64 ee, Value.int IntKind.i64 ro, Value.int IntKind.i64 nn, Value.int IntKind.i64 aa, Value.string dd] := hfr 15 (by decide)
              have k16 : tm.getD 16 undef = Value.int IntKind.i64 0 := hfr 16 (by decide)
              have k17 : tm.getD 17 undef = Value.int IntKind.i64 0 := hfr 17 (by decide)
              have k18 : tm.getD 18 undef = Value.bool false := hfr 18 (by decide)
              have k19 : tm.getD 19 undef = undef := hfr 19 (by decide)
              have k20 : tm.getD 20 undef = Value.pointer (some { block := lb, off := 1 }) := hfr 20 (by decide)
              have k21 : tm.getD 21 undef = Value.int IntKind.i64 ee := hfr 21 (by decide)
              have k22 : tm.getD 22 undef = Value.pointer (some { block := r, off := 0 }) := hfr 22 (by decide)
              have k23 : tm.getD 23 undef = Value.pointer (some { block := r, off := 0 }) := hfr 23 (by decide)
              have k24 : tm.getD 24 undef = Value.pointer (some { block := r, off := 3 }) := hfr 24 (by decide)
              have k25 : tm.getD 25 undef = Value.int IntKind.i64 s.epoch := hfr 25 (by decide)
              have k26 : tm.getD 26 undef = Value.bool false := hfr 26 (by decide)
              have k27 : tm.getD 27 undef = Value.pointer (some { block := r, off := 0 }) := hfr 27 (by decide)
              have k28 : tm.getD 28 undef = Value.int IntKind.i64 now := hfr 28 (by decide)
              have k29 : tm.getD 29 undef = Value.tuple #[] := hfr 29 (by decide)
              have k30 : tm.getD 30 undef = Value.pointer (some { block := r, off := 0 }) := hfr 30 (by decide)
              have k31 : tm.getD 31 undef = Value.pointer (some { block := r, off := 0 }) := hfr 31 (by decide)
              have k32 : tm.getD 32 undef = Value.pointer (some { block := r, off := 0 }) := hfr 32 (by decide)
              have k33 : tm.getD 33 undef = Value.pointer (some { block := r, off := 6 }) := hfr 33 (by decide)
              have k34 : tm.getD 34 undef = Value.int IntKind.i64 (s.ticked now).now := hfr 34 (by decide)
              have k35 : tm.getD 35 undef = Value.pointer (some { block := r, off := 0 }) := hfr 35 (by decide)
              have k36 : tm.getD 36 undef = Value.pointer (some { block := r, off := 11 }) := hfr 36 (by decide)
              have k37 : tm.getD 37 undef = Value.pointer (some { block := r, off := 0 }) := hfr 37 (by decide)
              have k38 : tm.getD 38 undef = Value.pointer (some { block := lb, off := 2 }) := hfr 38 (by decide)
              have k39 : tm.getD 39 undef = Value.int IntKind.i64 ro := hfr 39 (by decide)
              have k40 : tm.getD 40 undef = Value.pointer (some { block := r, off := 0 }) := hfr 40 (by decide)
              have k41 : tm.getD 41 undef = Value.pointer (some { block := r, off := 12 }) := hfr 41 (by decide)
              have k42 : tm.getD 42 undef = Value.pointer (some { block := r, off := 0 }) := hfr 42 (by decide)
              have k43 : tm.getD 43 undef = Value.pointer (some { block := lb, off := 4 }) := hfr 43 (by decide)
              have k44 : tm.getD 44 undef = Value.int IntKind.i64 aa := hfr 44 (by decide)
              have k45 : tm.getD 45 undef = Value.tuple #[] := hfr 45 (by decide)
              have k46 : tm.getD 46 undef = Value.pointer (some { block := lb, off := 0 }) := hfr 46 (by decide)
              have k47 : tm.getD 47 undef = Value.int IntKind.i64 kk := hfr 47 (by decide)
              have k48 : tm.getD 48 undef = Value.bool false := hfr 48 (by decide)
              have k49 : tm.getD 49 undef = undef := hfr 49 (by decide)
              have k50 : tm.getD 50 undef = undef := hfr 50 (by decide)
              have k51 : tm.getD 51 undef = undef := hfr 51 (by decide)
              have k52 : tm.getD 52 undef = undef := hfr 52 (by decide)
              have k53 : tm.getD 53 undef = undef := hfr 53 (by decide)
              have k54 : tm.getD 54 undef = Value.pointer (some { block := r, off := 0 }) := hfr 54 (by decide)
              have k55 : tm.getD 55 undef = Value.pointer (some { block := r, off := 0 }) := hfr 55 (by decide)
              have k56 : tm.getD 56 undef = Value.pointer (some { block := r, off := 0 }) := hfr 56 (by decide)
              have k57 : tm.getD 57 undef = Value.pointer (some { block := r, off := 6 }) := hfr 57 (by decide)
              have k58 : tm.getD 58 undef = Value.int IntKind.i64 (s.hears ro aa now).now := hfr 58 (by decide)
              have k59 : tm.getD 59 undef = Value.pointer (some { block := r, off := 0 }) := hfr 59 (by decide)
              have k60 : tm.getD 60 undef = Value.pointer (some { block := r, off := 10 }) := hfr 60 (by decide)
              have k61 : tm.getD 61 undef = Value.pointer (some { block := lb, off := 3 }) := hfr 61 (by decide)
              have k62 : tm.getD 62 undef = Value.int IntKind.i64 nn := hfr 62 (by decide)
              have k63 : tm.getD 63 undef = Value.pointer (some { block := r, off := 0 }) := hfr 63 (by decide)
              have k64 : tm.getD 64 undef = Value.pointer (some { block := r, off := 0 }) := hfr 64 (by decide)
              have k65 : tm.getD 65 undef = Value.pointer (some { block := r, off := 9 }) := hfr 65 (by decide)
              have k66 : tm.getD 66 undef = Value.int IntKind.i64 S8.taken := hfr 66 (by decide)
              have k67 : tm.getD 67 undef = Value.bool false := hfr 67 (by decide)
              have k68 : tm.getD 68 undef = Value.bool false := hfr 68 (by decide)
              have k69 : tm.getD 69 undef = Value.pointer (some { block := lb, off := 3 }) := hfr 69 (by decide)
              have k70 : tm.getD 70 undef = Value.int IntKind.i64 nn := hfr 70 (by decide)
              have k71 : tm.getD 71 undef = Value.pointer (some { block := r, off := 0 }) := hfr 71 (by decide)
              have k72 : tm.getD 72 undef = Value.pointer (some { block := r, off := 0 }) := hfr 72 (by decide)
              have k73 : tm.getD 73 undef = Value.pointer (some { block := r, off := 9 }) := hfr 73 (by decide)
              have k74 : tm.getD 74 undef = Value.int IntKind.i64 S8.taken := hfr 74 (by decide)
              have k75 : tm.getD 75 undef = Value.pointer (some { block := r, off := 0 }) := hfr 75 (by decide)
              have k76 : tm.getD 76 undef = Value.pointer (some { block := r, off := 0 }) := hfr 76 (by decide)
              have k77 : tm.getD 77 undef = Value.pointer (some { block := r, off := 0 }) := hfr 77 (by decide)
              have k78 : tm.getD 78 undef = Value.pointer (some { block := r, off := 0 }) := hfr 78 (by decide)
              have k79 : tm.getD 79 undef = Value.int IntKind.i64 S8.room := hfr 79 (by decide)
              have k80 : tm.getD 80 undef = Value.int IntKind.i64 (S8.taken + S8.room) := hfr 80 (by decide)
              have k81 : tm.getD 81 undef = Value.bool false := hfr 81 (by decide)
              have k82 : tm.getD 82 undef = Value.bool false := hfr 82 (by decide)
              have k83 : tm.getD 83 undef = Value.pointer (some { block := r, off := 0 }) := hfr 83 (by decide)
              have k84 : tm.getD 84 undef = Value.pointer (some { block := lb, off := 3 }) := hfr 84 (by decide)
              have k85 : tm.getD 85 undef = Value.int IntKind.i64 nn := hfr 85 (by decide)
              have k86 : tm.getD 86 undef = Value.int IntKind.i64 ↑i0 := hfr 86 (by decide)
              have k87 : tm.getD 87 undef = Value.bool false := hfr 87 (by decide)
              have k88 : tm.getD 88 undef = undef := hfr 88 (by decide)
              have k89 : tm.getD 89 undef = undef := hfr 89 (by decide)
              have k90 : tm.getD 90 undef = undef := hfr 90 (by decide)
              have k91 : tm.getD 91 undef = undef := hfr 91 (by decide)
              have k92 : tm.getD 92 undef = undef := hfr 92 (by decide)
              have k93 : tm.getD 93 undef = undef := hfr 93 (by decide)
              have k94 : tm.getD 94 undef = undef := hfr 94 (by decide)
              have k95 : tm.getD 95 undef = undef := hfr 95 (by decide)
              have k96 : tm.getD 96 undef = undef := hfr 96 (by decide)
              have k97 : tm.getD 97 undef = undef := hfr 97 (by decide)
              have k98 : tm.getD 98 undef = undef := hfr 98 (by decide)
              have k99 : tm.getD 99 undef = undef := hfr 99 (by decide)
              have k100 : tm.getD 100 undef = undef := hfr 100 (by decide)
              have k101 : tm.getD 101 undef = undef := hfr 101 (by decide)
              have k102 : tm.getD 102 undef = undef := hfr 102 (by decide)
              have k103 : tm.getD 103 undef = undef := hfr 103 (by decide)
              have k156 : tm.getD 156 undef = undef := hfr 156 (by decide)
              have k11 : tm.getD 11 undef = .int .i64 i := hfr 11 (by decide)
              have k10 : tm.getD 10 undef = v5 := hfr 10 (by decide)
              have k148 : tm.getD 148 undef = .pointer (some ⟨r, 15, none⟩) := AllG.get hG 18 (by decide)
              obtain ⟨_, hv146, hr146⟩ : _ ∧ (∀ b, (tm.getD 146 undef).ownBlock = some b → B ≤ b) ∧ SRow w9 B (tm.getD 146 undef) (sq.Y.take i ++ sq.Y.drop (i + 1)) := AllG.get hG 16 (by decide)
              have he : tm = #[tm.getD 0 undef, tm.getD 1 undef, tm.getD 2 undef, tm.getD 3 undef, tm.getD 4 undef, tm.getD 5 undef, tm.getD 6 undef, tm.getD 7 undef, tm.getD 8 undef, tm.getD 9 undef, tm.getD 10 undef, tm.getD 11 undef, tm.getD 12 undef, tm.getD 13 undef, tm.getD 14 undef, tm.getD 15 undef, tm.getD 16 undef, tm.getD 17 undef, tm.getD 18 undef, tm.getD 19 undef, tm.getD 20 undef, tm.getD 21 undef, tm.getD 22 undef, tm.getD 23 undef, tm.getD 24 undef, tm.getD 25 undef, tm.getD 26 undef, tm.getD 27 undef, tm.getD 28 undef, tm.getD 29 undef, tm.getD 30 undef, tm.getD 31 undef, tm.getD 32 undef, tm.getD 33 undef, tm.getD 34 undef, tm.getD 35 undef, tm.getD 36 undef, tm.getD 37 undef, tm.getD 38 undef, tm.getD 39 undef, tm.getD 40 undef, tm.getD 41 undef, tm.getD 42 undef, tm.getD 43 undef, tm.getD 44 undef, tm.getD 45 undef, tm.getD 46 undef, tm.getD 47 undef, tm.getD 48 undef, tm.getD 49 undef, tm.getD 50 undef, tm.getD 51 undef, tm.getD 52 undef, tm.getD 53 undef, tm.getD 54 undef, tm.getD 55 undef, tm.getD 56 undef, tm.getD 57 undef, tm.getD 58 undef, tm.getD 59 undef, tm.getD 60 undef, tm.getD 61 undef, tm.getD 62 undef, tm.getD 63 undef, tm.getD 64 undef, tm.getD 65 undef, tm.getD 66 undef, tm.getD 67 undef, tm.getD 68 undef, tm.getD 69 undef, tm.getD 70 undef, tm.getD 71 undef, tm.getD 72 undef, tm.getD 73 undef, tm.getD 74 undef, tm.getD 75 undef, tm.getD 76 undef, tm.getD 77 undef, tm.getD 78 undef, tm.getD 79 undef, tm.getD 80 undef, tm.getD 81 undef, tm.getD 82 undef, tm.getD 83 undef, tm.getD 84 undef, tm.getD 85 undef, tm.getD 86 undef, tm.getD 87 undef, tm.getD 88 undef, tm.getD 89 undef, tm.getD 90 undef, tm.getD 91 undef, tm.getD 92 undef, tm.getD 93 undef, tm.getD 94 undef, tm.getD 95 undef, tm.getD 96 undef, tm.getD 97 undef, tm.getD 98 undef, tm.getD 99 undef, tm.getD 100 undef, tm.getD 101 undef, tm.getD 102 undef, tm.getD 103 undef, tm.getD 104 undef, tm.getD 105 undef, tm.getD 106 undef, tm.getD 107 undef, tm.getD 108 undef, tm.getD 109 undef, tm.getD 110 undef, tm.getD 111 undef, tm.getD 112 undef, tm.getD 113 undef, tm.getD 114 undef, tm.getD 115 undef, tm.getD 116 undef, tm.getD 117 undef, tm.getD 118 undef, tm.getD 119 undef, tm.getD 120 undef, tm.getD 121 undef, tm.getD 122 undef, tm.getD 123 undef, tm.getD 124 undef, tm.getD 125 undef, tm.getD 126 undef, tm.getD 127 undef, tm.getD 128 undef, tm.getD 129 undef, tm.getD 130 undef, tm.getD 131 undef, tm.getD 132 undef, tm.getD 133 undef, tm.getD 134 undef, tm.getD 135 undef, tm.getD 136 undef, tm.getD 137 undef, tm.getD 138 undef, tm.getD 139 undef, tm.getD 140 undef, tm.getD 141 undef, tm.getD 142 undef, tm.getD 143 undef, tm.getD 144 undef, tm.getD 145 undef, tm.getD 146 undef, tm.getD 147 undef, tm.getD 148 undef, tm.getD 149 undef, tm.getD 150 undef, tm.getD 151 undef, tm.getD 152 undef, tm.getD 153 undef, tm.getD 154 undef, tm.getD 155 undef, tm.getD 156 undef] := arr_eta (n := 157) hsz
              replace hdf : df = [] := hdf
              subst hdf
              clear hsz hfr hG
              rw [he, k0, k1, k2, k3, k4, k5, k6, k7, k8, k9, k12, k13, k14, k15, k16, k17, k18, k19, k20, k21, k22, k23, k24, k25, k26, k27, k28, k29, k30, k31, k32, k33, k34, k35, k36, k37, k38, k39, k40, k41, k42, k43, k44, k45, k46, k47, k48, k49, k50, k51, k52, k53, k54, k55, k56, k57, k58, k59, k60, k61, k62, k63, k64, k65, k66, k67, k68, k69, k70, k71, k72, k73, k74, k75, k76, k77, k78, k79, k80, k81, k82, k83, k84, k85, k86, k87, k88, k89, k90, k91, k92, k93, k94, k95, k96, k97, k98, k99, k100, k101, k102, k103, k156, k11, k10, k148]
              clear he k0 k1 k2 k3 k4 k5 k6 k7 k8 k9 k12 k13 k14 k15 k16 k17 k18 k19 k20 k21 k22 k23 k24 k25 k26 k27 k28 k29 k30 k31 k32 k33 k34 k35 k36 k37 k38 k39 k40 k41 k42 k43 k44 k45 k46 k47 k48 k49 k50 k51 k52 k53 k54 k55 k56 k57 k58 k59 k60 k61 k62 k63 k64 k65 k66 k67 k68 k69 k70 k71 k72 k73 k74 k75 k76 k77 k78 k79 k80 k81 k82 k83 k84 k85 k86 k87 k88 k89 k90 k91 k92 k93 k94 k95 k96 k97 k98 k99 k100 k101 k102 k103 k156 k11 k10 k148
              generalize tm.getD 104 undef = x104
              generalize tm.getD 105 undef = x105
              generalize tm.getD 106 undef = x106
              generalize tm.getD 107 undef = x107
              generalize tm.getD 108 undef = x108
              generalize tm.getD 109 undef = x109
              generalize tm.getD 110 undef = x110
              generalize tm.getD 111 undef = x111
              generalize tm.getD 112 undef = x112
              generalize tm.getD 113 undef = x113
              generalize tm.getD 114 undef = x114
              generalize tm.getD 115 undef = x115
              generalize tm.getD 116 undef = x116
              generalize tm.getD 117 undef = x117
              generalize tm.getD 118 undef = x118
              generalize tm.getD 119 undef = x119
              generalize tm.getD 120 undef = x120
              generalize tm.getD 121 undef = x121
              generalize tm.getD 122 undef = x122
              generalize tm.getD 123 undef = x123
              generalize tm.getD 124 undef = x124
              generalize tm.getD 125 undef = x125
              generalize tm.getD 126 undef = x126
              generalize tm.getD 127 undef = x127
              generalize tm.getD 128 undef = x128
              generalize tm.getD 129 undef = x129
              generalize tm.getD 130 undef = x130
              generalize tm.getD 131 undef = x131
              generalize tm.getD 132 undef = x132
              generalize tm.getD 133 undef = x133
              generalize tm.getD 134 undef = x134
              generalize tm.getD 135 undef = x135
              generalize tm.getD 136 undef = x136
              generalize tm.getD 137 undef = x137
              generalize tm.getD 138 undef = x138
              generalize tm.getD 139 undef = x139
              generalize tm.getD 140 undef = x140
              generalize tm.getD 141 undef = x141
              generalize tm.getD 142 undef = x142
              generalize tm.getD 143 undef = x143
              generalize tm.getD 144 undef = x144
              generalize tm.getD 145 undef = x145
              generalize tm.getD 146 undef = v146 at hv146 hr146 ⊢
              generalize tm.getD 147 undef = x147
              generalize tm.getD 149 undef = x149
              generalize tm.getD 150 undef = x150
              generalize tm.getD 151 undef = x151
              generalize tm.getD 152 undef = x152
              generalize tm.getD 153 undef = x153
              generalize tm.getD 154 undef = x154
              generalize tm.getD 155 undef = x155
              simp only [List.drop_succ_cons, List.drop_zero]
              obtain ⟨hO9, hB9, hst9⟩ := hPE
              have hYD : ({ S8 with taken := t, E := delE E (t + 1) } : CS).Y = sq.Y.take i ++ sq.Y.drop (i + 1) := by
                rw [← HSQ.out]
                show (delE E (t + 1)).map (fun p => ((p.1, 0, p.2) : St)) = (E.map (fun p => ((p.1, 0, p.2) : St))).take i ++ (E.map (fun p => ((p.1, 0, p.2) : St))).drop (i + 1)
                rw [HDEL.out, List.map_append, List.map_take, List.map_drop]
              rw [← hYD] at hr146
              obtain ⟨a146, c146, rfl⟩ := hr146.form
              generalize ({ S8 with taken := t, E := delE E (t + 1) } : CS).Y.length = M at hr146 hv146 ⊢
              have y15 := hst9.c15
              have f15 := blk_free hst9.blk 15
              have hRE := hst9.store (s' := { S8 with taken := t, E := delE E (t + 1) }) (v := .slice a146 M c146) hr146 (by rw [← HSQ.out]; rfl) (fun _ _ => by rw [← HSQ.out]; rfl)
              have hks := (Only.refl (fun k => k = r) w9).setCell ⟨r, 15, none⟩ (.slice a146 M c146) (fun _ => rfl)
              have hO10 : Only (fun k => k = r) w (w9.setCell ⟨r, 15, none⟩ (.slice a146 M c146)) := (HO5.out.then hO9 (fun _ _ h => h.elim)).trans hks
              have hown9 := row_own (row_only HOWN.out hO9 (fun _ _ h => h)) hks (fun k hk e => by have := (HOWN.out.lt k hk).1; omega)
              clear hYD hr146 hv146 hst9 hO9 hB9 hks HT
              go_upto_region 23 with fail
              generalize w9.setCell ⟨r, 15, none⟩ (.slice a146 M c146) = w10 at hRE hO10 hown9 ⊢
              clear y15 f15
              obtain ⟨wv10, yv10, wb10, eb10, hg10, _, _⟩ := id hRE
              have y9 := (blk_cell hg10 9).trans (show (({ S8 with taken := t, E := delE E (t + 1) } : CS).rcells wv10 yv10)[9]? = some (.int .i64 t) from rfl)
              have f9 := blk_free hg10 9
              have hwt : IntKind.i64.wrap (t + 1) = t + 1 := by rw [IntKind.wrap_i64]; have := HP.out; omega
              have hRE2 := hRE.set (s' := ({ S8 with taken := t + 1, E := delE E (t + 1) } : CS)) 9 (.int .i64 (t + 1)) (fun _ _ => rfl) rfl rfl
              have hks := (Only.refl (fun k => k = r) w10).setCell ⟨r, 9, none⟩ (.int .i64 (t + 1)) (fun _ => rfl)
              have hO11 := hO10.trans hks
              have hown11 := row_own hown9 hks (fun k hk e => by have := (hown9.lt k hk).1; omega)
              have HRE := Lib.hid hRE2
              have HOW := Lib.hid hown11
              have HYL := Lib.hid (show yLen wr r = N from by rw [HQ.out.yLen_eq, ← HSQ.out]; exact HN.out)
              have HYM := Lib.hid hRE2.yLen_eq
              clear hg10 hRE hks hO10 hown9 hRE2 hown11
              go_wp2_with fail
              go_roundw
              case rel => first | exact ⟨t + 1, delE E (t + 1), bs ++ [d], HRE.out, HOW.out, HSTEP.out, HDD2.out, by have := HP.out; omega, by have := HP.out; have := HDL.out; omega, by have := HP.out; have := HDL.out; rw [List.length_append]; simp only [List.length_cons, List.length_nil]; omega, hO11⟩ | exact ⟨t + 1, delE E (t + 1), HRE.out, bs ++ [d], HOW.out, HSTEP.out, HDD2.out, by have := HP.out; omega, by have := HP.out; have := HDL.out; omega, by have := HP.out; have := HDL.out; rw [List.length_append]; simp only [List.length_cons, List.length_nil]; omega, hO11⟩ | exact ⟨t + 1, delE E (t + 1), HRE.out, bs ++ [d], HOW.out, HSTEP.out, HDD2.out, by have := HP.out; omega, by have := HP.out; have := HDL.out; omega, by have := HP.out; have := HDL.out; rw [List.length_append]; simp only [List.length_cons, List.length_nil]; omega⟩
              case measure => rw [HYM.out, HYL.out]; exact HDL.out

        | none =>
          have hEN : earlyN s7.Y nn = -1 := by
            unfold earlyN
            rw [show s7.Y = s7.E.map (fun p => (p.1, 0, p.2)) from rfl, early_none s7.E nn hlk]
          rw [hEN]
          obtain ⟨wv, yv, wb, eb, hst⟩ := RSt.of (H9.out.keep (Only.refl (fun _ => False) w9).drew)
          have HLK := Lib.hid hlk
          have HL : Hid (s7.Y.length ≤ 100) := Lib.hid (by unfold CS.Y; rw [List.length_map, HE7.out]; exact HD.out.2.2.1)
          have HT : Hid (rtPh w9 w9.heap.size r lb s7 kk ee ro nn aa dd wv yv wb eb false false w9.drew) := Lib.hid ⟨(Only.refl _ w9).drew, Nat.le_refl _, hst, (Only.refl (fun _ => False) w9).drew.at HX9.out (fun h => h), heap_lt HX9.out⟩
          have hBd : ∃ B, B = w9.heap.size := ⟨_, rfl⟩
          obtain ⟨B, hB⟩ := hBd
          have HBW : Hid (w9.heap.size ≤ B) := Lib.hid (Nat.le_of_eq hB.symm)
          rw [← hB] at HT
          have HB := Lib.hid hB
          clear hst hB hlk hEN z9
          go_upto_region 17 with fail
          refine wp_region_phasedk_tail 16 rtDs rtNeed rtGs rtLate rtEarly (fun L w' => rtPh w9 B r lb s7 kk ee ro nn aa dd wv yv wb eb (L 6) (L 13) w') (fun i w w' => Only (rtSt B w i) w w') (rtG B r lb s7 kk ee ro nn aa dd wv yv wb eb) rfl rfl (by kernel_rfl) (by kernel_rfl) (by kernel_rfl) (by kernel_rfl) (by kernel_rfl) (by kernel_rfl) HT.out rtG.keep rtG.guard (fun _ _ => Only.refl _ _) ?_ ?_
          · refine And.intro ?op0 (And.intro ?op1 (And.intro ?op2 (And.intro ?op3 (And.intro ?op4 (And.intro ?op5 (And.intro ?op6 (And.intro ?op7 (And.intro ?op8 (And.intro ?op9 (And.intro ?op10 (And.intro ?op11 (And.intro ?op12 (And.intro ?op13 (And.intro ?op14 (And.intro ?op15 trivial)))))))))))))))
            case op0 =>
              intro L ev w1 hLi hlate hearly hT1 hc hf hfr hG
              rw [if_pos (by decide)]
              have hP : rtPh w9 B r lb s7 kk ee ro nn aa dd wv yv wb eb (L 6) (L 13) w1 := hT1
              have h0 : ev (.tmp 0) = .pointer (some ⟨r, 0, none⟩) := hfr 0 (by decide)
              clear hG hfr
              refine OpSays.value (v := .pointer (some ⟨r, 0, none⟩)) (w' := w1) ?_ ⟨hT1, Only.refl _ _, rfl⟩
              go_simp
            case op1 =>
              intro L ev w1 hLi hlate hearly hT1 hc hf hfr hG
              rw [if_pos (by decide)]
              have hP : rtPh w9 B r lb s7 kk ee ro nn aa dd wv yv wb eb (L 6) (L 13) w1 := hT1
              obtain ⟨hl6, hl13, _⟩ := hlate
              rw [hl6] at hP
              rw [hl13] at hP
              change OpSays _ _ _ _ (fun v w' => rtPh w9 B r lb s7 kk ee ro nn aa dd wv yv wb eb (L 6) (L 13) w' ∧ _ ∧ _)
              rw [hl6]
              rw [hl13]
              clear hG hfr
              have hk := (Only.refl (fun _ => False) w1).alloc (.cells #[] 135)
              have hP2 := hP.keep hk
              have hBw := hP.2.1
              refine OpSays.value (v := .slice (some ⟨w1.heap.size, 0, none⟩) 0 0) (w' := w1.alloc (.cells #[] 135)) ?_ ⟨hP2, hk.mono (fun _ _ h => h.elim), w1.heap.size, rfl, hBw, fun _ _ => blk_new w1 _⟩
              go_simp
            case op2 =>
              intro L ev w1 hLi hlate hearly hT1 hc hf hfr hG
              rw [if_pos (by decide)]
              have hP : rtPh w9 B r lb s7 kk ee ro nn aa dd wv yv wb eb (L 6) (L 13) w1 := hT1
              obtain ⟨hl6, hl13, _⟩ := hlate
              rw [hl6] at hP
              rw [hl13] at hP
              have h0 : ev (.tmp 0) = .pointer (some ⟨r, 0, none⟩) := hfr 0 (by decide)
              clear hG hfr
              refine OpSays.value (v := .pointer (some ⟨r, 0, none⟩)) (w' := w1) ?_ ⟨hT1, Only.refl _ _, rfl⟩
              go_simp
            case op3 =>
              intro L ev w1 hLi hlate hearly hT1 hc hf hfr hG
              rw [if_pos (by decide)]
              have hP : rtPh w9 B r lb s7 kk ee ro nn aa dd wv yv wb eb (L 6) (L 13) w1 := hT1
              obtain ⟨hl6, hl13, _⟩ := hlate
              rw [hl6] at hP
              rw [hl13] at hP
              have hg : (ev (.tmp 90) = .pointer (some ⟨r, 0, none⟩)) ∧ True := hG
              obtain ⟨g2, _⟩ := hg
              clear hG hfr
              refine OpSays.value (v := .pointer (some ⟨r, 0, none⟩)) (w' := w1) ?_ ⟨hT1, Only.refl _ _, rfl⟩
              go_simp
            case op4 =>
              intro L ev w1 hLi hlate hearly hT1 hc hf hfr hG
              rw [if_pos (by decide)]
              have hP : rtPh w9 B r lb s7 kk ee ro nn aa dd wv yv wb eb (L 6) (L 13) w1 := hT1
              obtain ⟨hl6, hl13, _⟩ := hlate
              rw [hl6] at hP
              rw [hl13] at hP
              have hg : (ev (.tmp 91) = .pointer (some ⟨r, 0, none⟩)) ∧ True := hG
              obtain ⟨g3, _⟩ := hg
              clear hG hfr
              refine OpSays.value (v := .pointer (some ⟨r, 15, none⟩)) (w' := w1) ?_ ⟨hT1, Only.refl _ _, rfl⟩
              go_simp
            case op5 =>
              intro L ev w1 hLi hlate hearly hT1 hc hf hfr hG
              rw [if_pos (by decide)]
              have hP : rtPh w9 B r lb s7 kk ee ro nn aa dd wv yv wb eb (L 6) (L 13) w1 := hT1
              obtain ⟨hl6, hl13, _⟩ := hlate
              rw [hl6] at hP
              rw [hl13] at hP
              have hg : (ev (.tmp 92) = .pointer (some ⟨r, 15, none⟩)) ∧ True := hG
              obtain ⟨g4, _⟩ := hg
              clear hG hfr
              have x15 := hP.2.2.1.c15
              refine OpSays.value (v := yv) (w' := w1) ?_ ⟨hT1, Only.refl _ _, rfl⟩
              go_simp
            case op6 =>
              intro L ev w1 hLi hlate hearly hT1 hc hf hfr hG
              rw [if_pos (by decide)]
              have hP : rtPh w9 B r lb s7 kk ee ro nn aa dd wv yv wb eb (L 6) (L 13) w1 := hT1
              obtain ⟨hl13, _⟩ := hlate
              rw [hLi] at hP
              rw [hl13] at hP
              change OpSays _ _ _ _ (fun v w' => rtPh w9 B r lb s7 kk ee ro nn aa dd wv yv wb eb (true) (L 13) w' ∧ _ ∧ _)
              rw [hl13]
              have hg : (∃ k, ev (.tmp 89) = .slice (some ⟨k, 0, none⟩) 0 0 ∧ B ≤ k ∧ (L 6 = false → L 13 = false → w1.heap[k]? = some (.cells #[] 135 (0, 0)))) ∧ (ev (.tmp 93) = yv) ∧ True := hG
              obtain ⟨g1, g5, _⟩ := hg
              clear hG hfr
              obtain ⟨k, g1, hBk, hk1⟩ := g1
              have hemp := hk1 hLi hl13
              have hD : SRow w1 B (.slice (some ⟨k, 0, none⟩) 0 0) [] := ⟨by simp [sentCells], .inr ⟨k, 0, #[], rfl, hBk, hemp, Nat.le_refl _, by decide, by simp, by simp [sentCells]⟩⟩
              obtain ⟨v2, w2, hr, hrow, hk, hbb⟩ := append_src w1 73 B _ _ [] s7.Y hD hP.2.2.1.erow.src hP.2.1 (by have := HL.out; simp only [List.length_nil]; omega)
              rw [List.nil_append] at hrow
              refine OpSays.value (v := v2) (w' := w2) ?_ ⟨hP.more HBW.out hk (fun z hz => by have e : k = z := Option.some.inj hz; omega), hk.mono (fun z _ h => .inl ⟨rfl, by have e : k = z := Option.some.inj h; rw [← e]; exact hemp⟩), hbb, fun _ => hrow⟩
              unfold execOp
              simp only [resolve, invoke, builtin, Sem.run_bind, Sem.run_pure, Result.andThen_ok, List.map_toArray, List.map_cons, List.map_nil, g1, g5, hr]
            case op7 =>
              intro L ev w1 hLi hlate hearly hT1 hc hf hfr hG
              rw [if_pos (by decide)]
              have hP : rtPh w9 B r lb s7 kk ee ro nn aa dd wv yv wb eb (L 6) (L 13) w1 := hT1
              obtain ⟨hl13, _⟩ := hlate
              rw [hl13] at hP
              have h8 : ev (.tmp 8) = .pointer (some ⟨lb, 0, none⟩) := hfr 8 (by decide)
              clear hG hfr
              refine OpSays.value (v := .pointer (some ⟨lb, 3, none⟩)) (w' := w1) ?_ ⟨hT1, Only.refl _ _, rfl⟩
              go_simp
            case op8 =>
              intro L ev w1 hLi hlate hearly hT1 hc hf hfr hG
              rw [if_pos (by decide)]
              have hP : rtPh w9 B r lb s7 kk ee ro nn aa dd wv yv wb eb (L 6) (L 13) w1 := hT1
              obtain ⟨hl13, _⟩ := hlate
              rw [hl13] at hP
              have hg : (ev (.tmp 95) = .pointer (some ⟨lb, 3, none⟩)) ∧ True := hG
              obtain ⟨g7, _⟩ := hg
              clear hG hfr
              have z3 := hP.c3
              refine OpSays.value (v := .int .i64 nn) (w' := w1) ?_ ⟨hT1, Only.refl _ _, rfl⟩
              go_simp
            case op9 =>
              intro L ev w1 hLi hlate hearly hT1 hc hf hfr hG
              rw [if_pos (by decide)]
              have hP : rtPh w9 B r lb s7 kk ee ro nn aa dd wv yv wb eb (L 6) (L 13) w1 := hT1
              obtain ⟨hl13, _⟩ := hlate
              rw [hl13] at hP
              have h8 : ev (.tmp 8) = .pointer (some ⟨lb, 0, none⟩) := hfr 8 (by decide)
              clear hG hfr
              refine OpSays.value (v := .pointer (some ⟨lb, 5, none⟩)) (w' := w1) ?_ ⟨hT1, Only.refl _ _, rfl⟩
              go_simp
            case op10 =>
              intro L ev w1 hLi hlate hearly hT1 hc hf hfr hG
              rw [if_pos (by decide)]
              have hP : rtPh w9 B r lb s7 kk ee ro nn aa dd wv yv wb eb (L 6) (L 13) w1 := hT1
              obtain ⟨hl13, _⟩ := hlate
              rw [hl13] at hP
              have hg : (ev (.tmp 97) = .pointer (some ⟨lb, 5, none⟩)) ∧ True := hG
              obtain ⟨g9, _⟩ := hg
              clear hG hfr
              have z5 := hP.c5
              refine OpSays.value (v := .string dd) (w' := w1) ?_ ⟨hT1, Only.refl _ _, rfl⟩
              go_simp
            case op11 =>
              intro L ev w1 hLi hlate hearly hT1 hc hf hfr hG
              rw [if_pos (by decide)]
              have hP : rtPh w9 B r lb s7 kk ee ro nn aa dd wv yv wb eb (L 6) (L 13) w1 := hT1
              obtain ⟨hl13, _⟩ := hlate
              rw [hl13] at hP
              have hg : (ev (.tmp 96) = .int .i64 nn) ∧ (ev (.tmp 98) = .string dd) ∧ True := hG
              obtain ⟨g8, g10, _⟩ := hg
              clear hG hfr
              have hzz := @zero_sent
              refine OpSays.value (v := .agg #[.int .i64 nn, .int .i64 0, .string dd]) (w' := w1) ?_ ⟨hT1, Only.refl _ _, rfl⟩
              go_simp
            case op12 =>
              intro L ev w1 hLi hlate hearly hT1 hc hf hfr hG
              rw [if_pos (by decide)]
              have hP : rtPh w9 B r lb s7 kk ee ro nn aa dd wv yv wb eb (L 6) (L 13) w1 := hT1
              obtain ⟨hl13, _⟩ := hlate
              rw [hl13] at hP
              change OpSays _ _ _ _ (fun v w' => rtPh w9 B r lb s7 kk ee ro nn aa dd wv yv wb eb (L 6) (L 13) w' ∧ _ ∧ _)
              rw [hl13]
              have hg : (ev (.tmp 99) = .agg #[.int .i64 nn, .int .i64 0, .string dd]) ∧ True := hG
              obtain ⟨g11, _⟩ := hg
              clear hG hfr
              have hk := (Only.refl (fun _ => False) w1).alloc (.cells #[.int .i64 nn, .int .i64 0, .string dd] 135)
              have hP2 := hP.keep hk
              have hBw := hP.2.1
              refine OpSays.value (v := .slice (some ⟨w1.heap.size, 0, none⟩) 1 1) (w' := w1.alloc (.cells #[.int .i64 nn, .int .i64 0, .string dd] 135)) ?_ ⟨hP2, hk.mono (fun _ _ h => h.elim), w1.heap.size, rfl, hBw, fun _ => blk_new w1 _⟩
              go_simp
            case op13 =>
              intro L ev w1 hLi hlate hearly hT1 hc hf hfr hG
              rw [if_pos (by decide)]
              have hP : rtPh w9 B r lb s7 kk ee ro nn aa dd wv yv wb eb (L 6) (L 13) w1 := hT1
              obtain ⟨he6, _⟩ := hearly
              rw [he6] at hP
              rw [hLi] at hP
              change OpSays _ _ _ _ (fun v w' => rtPh w9 B r lb s7 kk ee ro nn aa dd wv yv wb eb (L 6) (true) w' ∧ _ ∧ _)
              rw [he6]
              have hg : ((∀ b, (ev (.tmp 94)).ownBlock = some b → B ≤ b) ∧ (L 13 = false → SRow w1 B (ev (.tmp 94)) s7.Y)) ∧ (∃ k, ev (.tmp 100) = .slice (some ⟨k, 0, none⟩) 1 1 ∧ B ≤ k ∧ (L 13 = false → w1.heap[k]? = some (.cells #[.int .i64 nn, .int .i64 0, .string dd] 135 (0, 0)))) ∧ True := hG
              obtain ⟨g6, g12, _⟩ := hg
              clear hG hfr
              obtain ⟨hb6, hrow6⟩ := g6
              have hr6 := hrow6 hLi
              obtain ⟨k, g12, hBk, hk17⟩ := g12
              have hc17 := hk17 hLi
              have hsrc : Src w1 (.slice (some ⟨k, 0, none⟩) 1 1) [(nn, 0, dd)] := .inr ⟨⟨k, 0, none⟩, 1, rfl, fun j u hj => by rw [Addr.add_lit, Nat.zero_add]; exact (blk_cell hc17 j).trans (by simpa [sentCells] using hj)⟩
              obtain ⟨v2, w2, hr, hrow, hk, hbb⟩ := append_src w1 73 B _ _ s7.Y _ hr6 hsrc hP.2.1 (by have := HL.out; simp only [List.length_cons, List.length_nil]; omega)
              refine OpSays.value (v := v2) (w' := w2) ?_ ⟨hP.more HBW.out hk hb6, hk.mono (fun z _ h => .inr ⟨rfl, hb6 z h⟩), hbb, hrow⟩
              unfold execOp
              simp only [resolve, invoke, builtin, Sem.run_bind, Sem.run_pure, Result.andThen_ok, List.map_toArray, List.map_cons, List.map_nil, g12, hr]
            case op14 =>
              intro L ev w1 hLi hlate hearly hT1 hc hf hfr hG
              rw [if_pos (by decide)]
              have hP : rtPh w9 B r lb s7 kk ee ro nn aa dd wv yv wb eb (L 6) (L 13) w1 := hT1
              have hg : (ev (.tmp 88) = .pointer (some ⟨r, 0, none⟩)) ∧ True := hG
              obtain ⟨g0, _⟩ := hg
              clear hG hfr
              refine OpSays.value (v := .pointer (some ⟨r, 0, none⟩)) (w' := w1) ?_ ⟨hT1, Only.refl _ _, rfl⟩
              go_simp
            case op15 =>
              intro L ev w1 hLi hlate hearly hT1 hc hf hfr hG
              rw [if_pos (by decide)]
              have hP : rtPh w9 B r lb s7 kk ee ro nn aa dd wv yv wb eb (L 6) (L 13) w1 := hT1
              have hg : (ev (.tmp 102) = .pointer (some ⟨r, 0, none⟩)) ∧ True := hG
              obtain ⟨g14, _⟩ := hg
              clear hG hfr
              refine OpSays.value (v := .pointer (some ⟨r, 15, none⟩)) (w' := w1) ?_ ⟨hT1, Only.refl _ _, rfl⟩
              go_simp
          rintro L ⟨tm, df⟩ w10 hL hT1 hsz hdf hfr hG
          have hPE : rtPh w9 B r lb s7 kk ee ro nn aa dd wv yv wb eb (true) (true) w10 := by
            have hP : rtPh w9 B r lb s7 kk ee ro nn aa dd wv yv wb eb (L 6) (L 13) w10 := hT1
            have hm := fun k (hk : k ∈ List.range 16) => AllB.get hL k hk
            rw [hm 6 (by decide)] at hP
            rw [hm 13 (by decide)] at hP
            exact hP
          clear hT1 hL
          have k0 : tm.getD 0 undef = .pointer (some ⟨r, 0, none⟩) := hfr 0 (by decide)
          have k8 : tm.getD 8 undef = .pointer (some ⟨lb, 0, none⟩) := hfr 8 (by decide)
          have k103 : tm.getD 103 undef = .pointer (some ⟨r, 15, none⟩) := AllG.get hG 15 (by decide)
          obtain ⟨hv101, hr101⟩ : (∀ b, (tm.getD 101 undef).ownBlock = some b → B ≤ b) ∧ SRow w10 B (tm.getD 101 undef) (s7.Y ++ [(nn, 0, dd)]) := AllG.get hG 13 (by decide)
          have he : tm = #[tm.getD 0 undef, tm.getD 1 undef, tm.getD 2 undef, tm.getD 3 undef, tm.getD 4 undef, tm.getD 5 undef, tm.getD 6 undef, tm.getD 7 undef, tm.getD 8 undef, tm.getD 9 undef, tm.getD 10 undef, tm.getD 11 undef, tm.getD 12 undef, tm.getD 13 undef, tm.getD 14 undef, tm.getD 15 undef, tm.getD 16 undef, tm.getD 17 undef, tm.getD 18 undef, tm.getD 19 undef, tm.getD 20 undef, tm.getD 21 undef, tm.getD 22 undef, tm.getD 23 undef, tm.getD 24 undef, tm.getD 25 undef, tm.getD 26 undef, tm.getD 27 undef, tm.getD 28 undef, tm.getD 29 undef, tm.getD 30 undef, tm.getD 31 undef, tm.getD 32 undef, tm.getD 33 undef, tm.getD 34 undef, tm.getD 35 undef, tm.getD 36 undef, tm.getD 37 undef, tm.getD 38 undef, tm.getD 39 undef, tm.getD 40 undef, tm.getD 41 undef, tm.getD 42 undef, tm.getD 43 undef, tm.getD 44 undef, tm.getD 45 undef, tm.getD 46 undef, tm.getD 47 undef, tm.getD 48 undef, tm.getD 49 undef, tm.getD 50 undef, tm.getD 51 undef, tm.getD 52 undef, tm.getD 53 undef, tm.getD 54 undef, tm.getD 55 undef, tm.getD 56 undef, tm.getD 57 undef, tm.getD 58 undef, tm.getD 59 undef, tm.getD 60 undef, tm.getD 61 undef, tm.getD 62 undef, tm.getD 63 undef, tm.getD 64 undef, tm.getD 65 undef, tm.getD 66 undef, tm.getD 67 undef, tm.getD 68 undef, tm.getD 69 undef, tm.getD 70 undef, tm.getD 71 undef, tm.getD 72 undef, tm.getD 73 undef, tm.getD 74 undef, tm.getD 75 undef, tm.getD 76 undef, tm.getD 77 undef, tm.getD 78 undef, tm.getD 79 undef, tm.getD 80 undef, tm.getD 81 undef, tm.getD 82 undef, tm.getD 83 undef, tm.getD 84 undef, tm.getD 85 undef, tm.getD 86 undef, tm.getD 87 undef, tm.getD 88 undef, tm.getD 89 undef, tm.getD 90 undef, tm.getD 91 undef, tm.getD 92 undef, tm.getD 93 undef, tm.getD 94 undef, tm.getD 95 undef, tm.getD 96 undef, tm.getD 97 undef, tm.getD 98 undef, tm.getD 99 undef, tm.getD 100 undef, tm.getD 101 undef, tm.getD 102 undef, tm.getD 103 undef, tm.getD 104 undef, tm.getD 105 undef, tm.getD 106 undef, tm.getD 107 undef, tm.getD 108 undef, tm.getD 109 undef, tm.getD 110 undef, tm.getD 111 undef, tm.getD 112 undef, tm.getD 113 undef, tm.getD 114 undef, tm.getD 115 undef, tm.getD 116 undef, tm.getD 117 undef, tm.getD 118 undef, tm.getD 119 undef, tm.getD 120 undef, tm.getD 121 undef, tm.getD 122 undef, tm.getD 123 undef, tm.getD 124 undef, tm.getD 125 undef, tm.getD 126 undef, tm.getD 127 undef, tm.getD 128 undef, tm.getD 129 undef, tm.getD 130 undef, tm.getD 131 undef, tm.getD 132 undef, tm.getD 133 undef, tm.getD 134 undef, tm.getD 135 undef, tm.getD 136 undef, tm.getD 137 undef, tm.getD 138 undef, tm.getD 139 undef, tm.getD 140 undef, tm.getD 141 undef, tm.getD 142 undef, tm.getD 143 undef, tm.getD 144 undef, tm.getD 145 undef, tm.getD 146 undef, tm.getD 147 undef, tm.getD 148 undef, tm.getD 149 undef, tm.getD 150 undef, tm.getD 151 undef, tm.getD 152 undef, tm.getD 153 undef, tm.getD 154 undef, tm.getD 155 undef, tm.getD 156 undef] := arr_eta (n := 157) hsz
          replace hdf : df = [] := hdf
          subst hdf
          clear hsz hfr hG
          rw [he, k0, k8, k103]
          clear he k0 k8 k103
          generalize tm.getD 1 undef = x1
          generalize tm.getD 2 undef = x2
          generalize tm.getD 3 undef = x3
          generalize tm.getD 4 undef = x4
          generalize tm.getD 5 undef = x5
          generalize tm.getD 6 undef = x6
          generalize tm.getD 7 undef = x7
          generalize tm.getD 9 undef = x9
          generalize tm.getD 10 undef = x10
          generalize tm.getD 11 undef = x11
          generalize tm.getD 12 undef = x12
          generalize tm.getD 13 undef = x13
          generalize tm.getD 14 undef = x14
          generalize tm.getD 15 undef = x15
          generalize tm.getD 16 undef = x16
          generalize tm.getD 17 undef = x17
          generalize tm.getD 18 undef = x18
          generalize tm.getD 19 undef = x19
          generalize tm.getD 20 undef = x20
          generalize tm.getD 21 undef = x21
          generalize tm.getD 22 undef = x22
          generalize tm.getD 23 undef = x23
          generalize tm.getD 24 undef = x24
          generalize tm.getD 25 undef = x25
          generalize tm.getD 26 undef = x26
          generalize tm.getD 27 undef = x27
          generalize tm.getD 28 undef = x28
          generalize tm.getD 29 undef = x29
          generalize tm.getD 30 undef = x30
          generalize tm.getD 31 undef = x31
          generalize tm.getD 32 undef = x32
          generalize tm.getD 33 undef = x33
          generalize tm.getD 34 undef = x34
          generalize tm.getD 35 undef = x35
          generalize tm.getD 36 undef = x36
          generalize tm.getD 37 undef = x37
          generalize tm.getD 38 undef = x38
          generalize tm.getD 39 undef = x39
          generalize tm.getD 40 undef = x40
          generalize tm.getD 41 undef = x41
          generalize tm.getD 42 undef = x42
          generalize tm.getD 43 undef = x43
          generalize tm.getD 44 undef = x44
          generalize tm.getD 45 undef = x45
          generalize tm.getD 46 undef = x46
          generalize tm.getD 47 undef = x47
          generalize tm.getD 48 undef = x48
          generalize tm.getD 49 undef = x49
          generalize tm.getD 50 undef = x50
          generalize tm.getD 51 undef = x51
          generalize tm.getD 52 undef = x52
          generalize tm.getD 53 undef = x53
          generalize tm.getD 54 undef = x54
          generalize tm.getD 55 undef = x55
          generalize tm.getD 56 undef = x56
          generalize tm.getD 57 undef = x57
          generalize tm.getD 58 undef = x58
          generalize tm.getD 59 undef = x59
          generalize tm.getD 60 undef = x60
          generalize tm.getD 61 undef = x61
          generalize tm.getD 62 undef = x62
          generalize tm.getD 63 undef = x63
          generalize tm.getD 64 undef = x64
          generalize tm.getD 65 undef = x65
          generalize tm.getD 66 undef = x66
          generalize tm.getD 67 undef = x67
          generalize tm.getD 68 undef = x68
          generalize tm.getD 69 undef = x69
          generalize tm.getD 70 undef = x70
          generalize tm.getD 71 undef = x71
          generalize tm.getD 72 undef = x72
          generalize tm.getD 73 undef = x73
          generalize tm.getD 74 undef = x74
          generalize tm.getD 75 undef = x75
          generalize tm.getD 76 undef = x76
          generalize tm.getD 77 undef = x77
          generalize tm.getD 78 undef = x78
          generalize tm.getD 79 undef = x79
          generalize tm.getD 80 undef = x80
          generalize tm.getD 81 undef = x81
          generalize tm.getD 82 undef = x82
          generalize tm.getD 83 undef = x83
          generalize tm.getD 84 undef = x84
          generalize tm.getD 85 undef = x85
          generalize tm.getD 86 undef = x86
          generalize tm.getD 87 undef = x87
          generalize tm.getD 88 undef = x88
          generalize tm.getD 89 undef = x89
          generalize tm.getD 90 undef = x90
          generalize tm.getD 91 undef = x91
          generalize tm.getD 92 undef = x92
          generalize tm.getD 93 undef = x93
          generalize tm.getD 94 undef = x94
          generalize tm.getD 95 undef = x95
          generalize tm.getD 96 undef = x96
          generalize tm.getD 97 undef = x97
          generalize tm.getD 98 undef = x98
          generalize tm.getD 99 undef = x99
          generalize tm.getD 100 undef = x100
          generalize tm.getD 101 undef = v101 at hv101 hr101 ⊢
          generalize tm.getD 102 undef = x102
          generalize tm.getD 104 undef = x104
          generalize tm.getD 105 undef = x105
          generalize tm.getD 106 undef = x106
          generalize tm.getD 107 undef = x107
          generalize tm.getD 108 undef = x108
          generalize tm.getD 109 undef = x109
          generalize tm.getD 110 undef = x110
          generalize tm.getD 111 undef = x111
          generalize tm.getD 112 undef = x112
          generalize tm.getD 113 undef = x113
          generalize tm.getD 114 undef = x114
          generalize tm.getD 115 undef = x115
          generalize tm.getD 116 undef = x116
          generalize tm.getD 117 undef = x117
          generalize tm.getD 118 undef = x118
          generalize tm.getD 119 undef = x119
          generalize tm.getD 120 undef = x120
          generalize tm.getD 121 undef = x121
          generalize tm.getD 122 undef = x122
          generalize tm.getD 123 undef = x123
          generalize tm.getD 124 undef = x124
          generalize tm.getD 125 undef = x125
          generalize tm.getD 126 undef = x126
          generalize tm.getD 127 undef = x127
          generalize tm.getD 128 undef = x128
          generalize tm.getD 129 undef = x129
          generalize tm.getD 130 undef = x130
          generalize tm.getD 131 undef = x131
          generalize tm.getD 132 undef = x132
          generalize tm.getD 133 undef = x133
          generalize tm.getD 134 undef = x134
          generalize tm.getD 135 undef = x135
          generalize tm.getD 136 undef = x136
          generalize tm.getD 137 undef = x137
          generalize tm.getD 138 undef = x138
          generalize tm.getD 139 undef = x139
          generalize tm.getD 140 undef = x140
          generalize tm.getD 141 undef = x141
          generalize tm.getD 142 undef = x142
          generalize tm.getD 143 undef = x143
          generalize tm.getD 144 undef = x144
          generalize tm.getD 145 undef = x145
          generalize tm.getD 146 undef = x146
          generalize tm.getD 147 undef = x147
          generalize tm.getD 148 undef = x148
          generalize tm.getD 149 undef = x149
          generalize tm.getD 150 undef = x150
          generalize tm.getD 151 undef = x151
          generalize tm.getD 152 undef = x152
          generalize tm.getD 153 undef = x153
          generalize tm.getD 154 undef = x154
          generalize tm.getD 155 undef = x155
          generalize tm.getD 156 undef = x156
          simp only [List.drop_succ_cons, List.drop_zero]
          obtain ⟨hO10, hB10, hst10, hx10, _⟩ := hPE
          obtain ⟨a101, c101, rfl⟩ := hr101.form
          rw [List.length_append] at hr101 hv101
          rw [List.length_append]
          change ∀ b, (Value.slice a101 (s7.Y.length + 1) c101).ownBlock = some b → B ≤ b at hv101
          change SRow w10 B (.slice a101 (s7.Y.length + 1) c101) _ at hr101
          have x15 := hst10.c15
          have f15 := blk_free hst10.blk 15
          have hRE := hst10.store (s' := ({ s7 with E := s7.E ++ [(nn, dd)] } : CS)) (v := .slice a101 (s7.Y.length + 1) c101) (by
            show SRow w10 B _ ((s7.E ++ [(nn, dd)]).map (fun p => ((p.1, 0, p.2) : St)))
            rw [List.map_append]
            exact hr101) rfl (fun _ _ => rfl)
          have hk11 := (Only.refl (fun k => k = r) w10).setCell ⟨r, 15, none⟩ (.slice a101 (s7.Y.length + 1) c101) (fun _ => rfl)
          have hOl : Only (fun k => k = r) w (w10.setCell ⟨r, 15, none⟩ (.slice a101 (s7.Y.length + 1) c101)) := (hO9.then hO10 (fun _ _ h => h.elim)).trans hk11
          have HKP := Lib.hid (show s7.keeps nn dd = { s7 with E := s7.E ++ [(nn, dd)] } from if_neg (by
            rw [HLK.out]
            rintro (h | h | h)
            · cases h
            · omega
            · omega))
          have HFIN : Hid (s.takes kk ro nn aa dd now = ({ s7 with E := s7.E ++ [(nn, dd)] } : CS).nexts ∧ s.brings kk ro nn aa dd now = ({ s7 with E := s7.E ++ [(nn, dd)] } : CS).news) := Lib.hid (by
            unfold CS.takes CS.brings
            rw [if_neg hk2, if_neg hk2, HS7.out, HKP.out]
            exact ⟨rfl, rfl⟩)
          have hD8 : DistE ({ s7 with E := s7.E ++ [(nn, dd)] } : CS).E := by
            have h1 : DistE s7.E := by rw [HE7.out]; exact HD.out.1
            exact h1.add dd HLK.out
          have hl8 : ({ s7 with E := s7.E ++ [(nn, dd)] } : CS).E.length = s.E.length + 1 := by
            show (s7.E ++ [(nn, dd)]).length = _
            rw [List.length_append, HE7.out]
            rfl
          have hL8 : ({ s7 with E := s7.E ++ [(nn, dd)] } : CS).E.length ≤ 101 := by rw [hl8]; have := HD.out.2.2.1; omega
          have hT8 : 0 ≤ ({ s7 with E := s7.E ++ [(nn, dd)] } : CS).taken ∧ ({ s7 with E := s7.E ++ [(nn, dd)] } : CS).taken + ({ s7 with E := s7.E ++ [(nn, dd)] } : CS).E.length ≤ 4294967295 := by
            rw [hl8]
            show 0 ≤ s7.taken ∧ s7.taken + _ ≤ _
            rw [HTT.out]
            have := HD.out.2.2.2
            have := ht.1
            rw [HTT.out] at this
            push_cast
            omega
          have h8 := hRE
          have HY := Lib.hid hst10
          clear hl8 HLK HS7 HE7 HTT HKP HD H9 HX9 hk2 ht hr hst10 hx10 hO10 hB10 hr101 hv101 hRE hk11 HT HL HB HBW hO9
          go_upto_region 18 with fail
          generalize w10.setCell ⟨r, 15, none⟩ (.slice a101 (s7.Y.length + 1) c101) = wl at h8 hOl ⊢
          generalize ({ s7 with E := s7.E ++ [(nn, dd)] } : CS) = S8 at h8 HFIN hD8 hL8 hT8
          clear x15 f15 HY
          have H8 := Lib.hid h8
          have HO8 := Lib.hid hOl
          have HD8 := Lib.hid hD8
          have HT8 := Lib.hid hT8
          have HL8 := Lib.hid hL8
          have hrow0 := World.ownsRow_nil wl w.heap.size 9 1
          clear h8 hOl hD8 hT8 hL8
          go_wp2_with fail
          go_loopw [10] (fun ov wr => ∃ (t : Int) (E : List (Int × ByteArray)) (bs : List ByteArray), REAt wr r { S8 with taken := t, E := E } ∧ wr.ownsRow w.heap.size 9 1 ov bs.length (bs.map Value.string) ∧ S8.drained = ((drainE E.length t E).1, (drainE E.length t E).2.1, bs ++ (drainE E.length t E).2.2) ∧ DistE E ∧ 0 ≤ t ∧ t + E.length ≤ 4294967295 ∧ bs.length + E.length ≤ 101 ∧ Only (fun k => k = r) w wr) (fun _ wr => yLen wr r)
          case atStart => exact ⟨S8.taken, S8.E, [], H8.out, hrow0, rfl, HD8.out, HT8.out.1, HT8.out.2, by simpa using HL8.out, HO8.out⟩
          case round =>
            clear hrow0
            obtain ⟨t, E, bs, hQ, hrow, hdr, hdd, p0, p1, hlen, hO⟩ := hrel
            have HDR := Lib.hid hdr
            obtain ⟨wv, yv, wb, eb, hst⟩ := RSt.of hQ
            have y9 := (blk_cell hst.blk 9).trans (show (({ S8 with taken := t, E := E } : CS).rcells wv yv)[9]? = some (.int .i64 t) from rfl)
            have hwt : IntKind.i64.wrap (t + 1) = t + 1 := by rw [IntKind.wrap_i64]; omega
            have HQ := Lib.hid hQ
            have HROW := Lib.hid hrow
            have HDD := Lib.hid hdd
            have HST := Lib.hid hst
            clear hdr hQ hrow hdd hst
            go_wp2_with fail
            refine (rearly_any wr r _ (t + 1) HQ.out (show E.length ≤ 1000000 by omega)).mono ?_
            rintro e _ ⟨rfl, rfl⟩
            cases hl : lookE E (t + 1) with
            | none =>
              have hEN : earlyN ({ S8 with taken := t, E := E } : CS).Y (t + 1) = -1 := by
                unfold earlyN
                rw [show ({ S8 with taken := t, E := E } : CS).Y = E.map (fun p => (p.1, 0, p.2)) from rfl, early_none E (t + 1) hl]
              rw [hEN]
              have HFL := Lib.hid (show S8.drained = (t, E, bs) from by rw [HDR.out, drainE_none hl, List.append_nil])
              clear hEN hl
              go_wp2_with fail
              go_ret2
              obtain ⟨e1, e2, e3, e4, e5⟩ := HNM.out
              rw [e1, e2, e3, e4, e5, HFIN.out.1, HFIN.out.2]
              refine ⟨_, rfl, ?_, ?_, hO⟩
              · unfold CS.news
                rw [HFL.out]
                exact HROW.out
              · unfold CS.nexts
                rw [HFL.out]
                exact HQ.out
            | some d =>
              obtain ⟨i, hpl, hil, hat, hdel⟩ := early_some E (t + 1) d HDD.out hl
              have hEN : earlyN ({ S8 with taken := t, E := E } : CS).Y (t + 1) = (i : Int) := by
                unfold earlyN
                rw [show ({ S8 with taken := t, E := E } : CS).Y = E.map (fun p => (p.1, 0, p.2)) from rfl, hpl]
              rw [hEN]
              have HEN := Lib.hid hEN
              have hYl : ({ S8 with taken := t, E := E } : CS).Y.length = E.length := by unfold CS.Y; rw [List.length_map]
              have dn : decide ((i : Int) < 0) = false := decide_eq_false (by omega)
              have dn2 : decide (0 ≤ (i : Int)) = true := decide_eq_true (by omega)
              have HSTEP := Lib.hid (show S8.drained = ((drainE (delE E (t + 1)).length (t + 1) (delE E (t + 1))).1, (drainE (delE E (t + 1)).length (t + 1) (delE E (t + 1))).2.1, (bs ++ [d]) ++ (drainE (delE E (t + 1)).length (t + 1) (delE E (t + 1))).2.2) from by
                have hpos : E.length = (E.length - 1) + 1 := by have := List.length_pos_of_mem (lookE_mem hl); omega
                have hdl := delE_length (lookE_mem hl)
                rw [HDR.out, hpos, drainE_some hl, drainE_fuel (E.length - 1) (delE E (t + 1)).length (t + 1) (delE E (t + 1)) (by omega) (Nat.le_refl _)]
                simp)
              have HDL := Lib.hid (delE_length (lookE_mem hl))
              have HDEL := Lib.hid hdel
              have HDD2 := Lib.hid (HDD.out.del (t + 1))
              obtain ⟨va, cap, rfl⟩ := HST.out.erow.form
              have herow := HST.out.erow
              obtain ⟨ga, rfl, hgal, hc0, hc1, hc2⟩ := herow.cells i (by rw [hYl]; exact hil)
              have hgd : (({ S8 with taken := t, E := E } : CS).Y.getD i st0).2.2 = d := by
                rw [show ({ S8 with taken := t, E := E } : CS).Y = E.map (fun p => ((p.1, 0, p.2) : St)) from rfl, List.getD_eq_getElem?_getD, List.getElem?_map, hat]
                rfl
              rw [hgd] at hc2
              have y15 := HST.out.c15
              have hcap := herow.capLe.1
              rw [hYl] at hcap
              have HNL : Hid (({ S8 with taken := t, E := E } : CS).Y.length = E.length) := Lib.hid hYl
              rw [hYl] at y15 HST
              have y9 := (blk_cell HST.out.blk 9).trans (show (({ S8 with taken := t, E := E } : CS).rcells wv (.slice (some ⟨ga, 0, none⟩) E.length cap))[9]? = some (.int .i64 t) from rfl)
              have HLL : Hid (E.length ≤ 101) := Lib.hid (by omega)
              have hbl : bs.length ≤ 101 := by omega
              generalize hN : E.length = N at hil hcap y15 HST HNL HLL HDL p1 hlen
              have HN := Lib.hid hN
              clear hpl hat hEN hYl hdel hl herow hgd hc0 hc1 hN
              go_wp2_with fail
              refine (rearly_any wr r _ (t + 1) HQ.out (by show E.length ≤ 1000000; rw [HN.out]; have := HLL.out; omega)).mono ?_
              rintro e _ ⟨rfl, rfl⟩
              rw [HEN.out]
              have hsz := hO.size
              go_wp2_with (at_builtin; refine wpList_append_own _ rfl _ _ 43 rfl w.heap.size 9 i9 (.string ⟨#[]⟩) 1 16 Try.underlying43 hin hz0 hz1 hz2 rfl (by decide) _ bs.length _ rfl (HROW.out.alloc _) ⟨wr.heap.size, 0, none⟩ 1 1 [.string d] rfl rfl (cell_one_new _ _ _) (by simp [Value.oneCell']) (by simp [maxLen]; omega) (by omega) (by rw [World.size_alloc]; omega) ?_; intro v5 w5 hown hgr _)
              have hka := (Only.refl (fun _ => False) wr).alloc (.cells #[.string d] 9)
              have hrowA : (wr.alloc (.cells #[.string d] 9)).ownsRow w.heap.size 9 1 u10 bs.length (bs.map Value.string) := HROW.out.alloc _
              have hst5 := (HST.out.keep hka).grown hrowA hrl0 hgr
              have hO5 : Only (fun k => k = r) w w5 := (hO.then hka (fun _ _ h => h.elim)).then (Only.of_grown hgr) (fun k hk e => by have := (hrowA.lt _ e.symm).1; omega)
              have hown2 : w5.ownsRow w.heap.size 9 1 v5 (bs ++ [d]).length ((bs ++ [d]).map Value.string) := by
                rw [List.length_append, List.map_append]
                exact hown
              have HGS : Hid (wr.heap.size ≤ w5.heap.size) := Lib.hid (Nat.le_trans hka.size (Only.of_grown hgr).size)
              clear hown hgr hrowA hka hO hsz
              obtain ⟨B, hB⟩ : ∃ B, B = w5.heap.size := ⟨_, rfl⟩
              have HBW : Hid (w5.heap.size ≤ B) := Lib.hid (Nat.le_of_eq hB.symm)
              generalize hsq : ({ S8 with taken := t, E := E } : CS) = sq at *
              have HT : Hid (rdPh w5 B r ga N cap i sq wv wb eb false false w5.drew) := Lib.hid ⟨(Only.refl _ w5).drew, by rw [hB]; exact Nat.le_refl _, (hst5.keep (Only.refl (fun _ => False) w5).drew).mono (by rw [hB]; exact HGS.out)⟩
              have HC : Hid (i < N ∧ N ≤ cap ∧ N ≤ 101) := Lib.hid ⟨hil, hcap, HLL.out⟩
              have HL : Hid (sq.Y.length ≤ 101) := Lib.hid (by rw [HNL.out]; exact HLL.out)
              have HSQ := Lib.hid hsq
              have HOWN := Lib.hid hown2
              have HO5 := Lib.hid hO5
              have HP : Hid (0 ≤ t ∧ t + N ≤ 4294967295 ∧ bs.length + N ≤ 101) := Lib.hid ⟨p0, p1, hlen⟩
              clear hst5 hB hil hcap hsq hown2 hO5 y15 y9 hc2 hgal hwt p0 p1 hlen dn dn2 hbl
              go_upto_region 22 with fail
              refine wp_region_phasedk_tail 19 rdDs rdNeed rdGs rdLate rdEarly (fun L w' => rdPh w5 B r ga N cap i sq wv wb eb (L 8) (L 16) w') (fun i w w' => Only (rdSt B w i) w w') (rdG B r ga N cap i sq wv wb eb) rfl rfl (by kernel_rfl) (by kernel_rfl) (by kernel_rfl) (by kernel_rfl) (by kernel_rfl) (by kernel_rfl) HT.out rdG.keep rdG.guard (fun _ _ => Only.refl _ _) ?_ ?_
              · refine And.intro ?op0 (And.intro ?op1 (And.intro ?op2 (And.intro ?op3 (And.intro ?op4 (And.intro ?op5 (And.intro ?op6 (And.intro ?op7 (And.intro ?op8 (And.intro ?op9 (And.intro ?op10 (And.intro ?op11 (And.intro ?op12 (And.intro ?op13 (And.intro ?op14 (And.intro ?op15 (And.intro ?op16 (And.intro ?op17 (And.intro ?op18 trivial))))))))))))))))))
                case op0 =>
                  intro L ev w1 hLi hlate hearly hT1 hc hf hfr hG
                  rw [if_pos (by decide)]
                  have hP : rdPh w5 B r ga N cap i sq wv wb eb (L 8) (L 16) w1 := hT1
                  have h0 : ev (.tmp 0) = .pointer (some ⟨r, 0, none⟩) := hfr 0 (by decide)
                  clear hG hfr
                  refine OpSays.value (v := .pointer (some ⟨r, 0, none⟩)) (w' := w1) ?_ ⟨hT1, Only.refl _ _, rfl⟩
                  go_simp
                case op1 =>
                  intro L ev w1 hLi hlate hearly hT1 hc hf hfr hG
                  rw [if_pos (by decide)]
                  have hP : rdPh w5 B r ga N cap i sq wv wb eb (L 8) (L 16) w1 := hT1
                  obtain ⟨hl8, hl16, _⟩ := hlate
                  rw [hl8] at hP
                  rw [hl16] at hP
                  change OpSays _ _ _ _ (fun v w' => rdPh w5 B r ga N cap i sq wv wb eb (L 8) (L 16) w' ∧ _ ∧ _)
                  rw [hl8]
                  rw [hl16]
                  clear hG hfr
                  have hk := (Only.refl (fun _ => False) w1).alloc (.cells #[] 135)
                  have hP2 := hP.keep hk
                  have hBw := hP.2.1
                  refine OpSays.value (v := .slice (some ⟨w1.heap.size, 0, none⟩) 0 0) (w' := w1.alloc (.cells #[] 135)) ?_ ⟨hP2, hk.mono (fun _ _ h => h.elim), w1.heap.size, rfl, hBw, fun _ _ => blk_new w1 _⟩
                  go_simp
                case op2 =>
                  intro L ev w1 hLi hlate hearly hT1 hc hf hfr hG
                  rw [if_pos (by decide)]
                  have hP : rdPh w5 B r ga N cap i sq wv wb eb (L 8) (L 16) w1 := hT1
                  obtain ⟨hl8, hl16, _⟩ := hlate
                  rw [hl8] at hP
                  rw [hl16] at hP
                  have h0 : ev (.tmp 0) = .pointer (some ⟨r, 0, none⟩) := hfr 0 (by decide)
                  clear hG hfr
                  refine OpSays.value (v := .pointer (some ⟨r, 0, none⟩)) (w' := w1) ?_ ⟨hT1, Only.refl _ _, rfl⟩
                  go_simp
                case op3 =>
                  intro L ev w1 hLi hlate hearly hT1 hc hf hfr hG
                  rw [if_pos (by decide)]
                  have hP : rdPh w5 B r ga N cap i sq wv wb eb (L 8) (L 16) w1 := hT1
                  obtain ⟨hl8, hl16, _⟩ := hlate
                  rw [hl8] at hP
                  rw [hl16] at hP
                  have hg : (ev (.tmp 132) = .pointer (some ⟨r, 0, none⟩)) ∧ True := hG
                  obtain ⟨g2, _⟩ := hg
                  clear hG hfr
                  refine OpSays.value (v := .pointer (some ⟨r, 0, none⟩)) (w' := w1) ?_ ⟨hT1, Only.refl _ _, rfl⟩
                  go_simp
                case op4 =>
                  intro L ev w1 hLi hlate hearly hT1 hc hf hfr hG
                  rw [if_pos (by decide)]
                  have hP : rdPh w5 B r ga N cap i sq wv wb eb (L 8) (L 16) w1 := hT1
                  obtain ⟨hl8, hl16, _⟩ := hlate
                  rw [hl8] at hP
                  rw [hl16] at hP
                  have hg : (ev (.tmp 133) = .pointer (some ⟨r, 0, none⟩)) ∧ True := hG
                  obtain ⟨g3, _⟩ := hg
                  clear hG hfr
                  refine OpSays.value (v := .pointer (some ⟨r, 15, none⟩)) (w' := w1) ?_ ⟨hT1, Only.refl _ _, rfl⟩
                  go_simp
                case op5 =>
                  intro L ev w1 hLi hlate hearly hT1 hc hf hfr hG
                  rw [if_pos (by decide)]
                  have hP : rdPh w5 B r ga N cap i sq wv wb eb (L 8) (L 16) w1 := hT1
                  obtain ⟨hl8, hl16, _⟩ := hlate
                  rw [hl8] at hP
                  rw [hl16] at hP
                  have hg : (ev (.tmp 134) = .pointer (some ⟨r, 15, none⟩)) ∧ True := hG
                  obtain ⟨g4, _⟩ := hg
                  clear hG hfr
                  have x15 := hP.2.2.c15
                  refine OpSays.value (v := .slice (some ⟨ga, 0, none⟩) N cap) (w' := w1) ?_ ⟨hT1, Only.refl _ _, rfl⟩
                  go_simp
                case op6 =>
                  intro L ev w1 hLi hlate hearly hT1 hc hf hfr hG
                  rw [if_pos (by decide)]
                  have hP : rdPh w5 B r ga N cap i sq wv wb eb (L 8) (L 16) w1 := hT1
                  obtain ⟨hl8, hl16, _⟩ := hlate
                  rw [hl8] at hP
                  rw [hl16] at hP
                  have h11 : ev (.tmp 11) = .int .i64 i := hfr 11 (by decide)
                  clear hG hfr
                  refine OpSays.value (v := .int .i64 i) (w' := w1) ?_ ⟨hT1, Only.refl _ _, rfl⟩
                  go_simp
                case op7 =>
                  intro L ev w1 hLi hlate hearly hT1 hc hf hfr hG
                  rw [if_pos (by decide)]
                  have hP : rdPh w5 B r ga N cap i sq wv wb eb (L 8) (L 16) w1 := hT1
                  obtain ⟨hl8, hl16, _⟩ := hlate
                  rw [hl8] at hP
                  rw [hl16] at hP
                  have hg : (ev (.tmp 135) = .slice (some ⟨ga, 0, none⟩) N cap) ∧ (ev (.tmp 136) = .int .i64 i) ∧ True := hG
                  obtain ⟨g5, g6, _⟩ := hg
                  clear hG hfr
                  have hlo := run_low ga N cap i (by have := HC.out; omega)
                  refine OpSays.value (v := .slice (some ⟨ga, 0, none⟩) i cap) (w' := w1) ?_ ⟨hT1, Only.refl _ _, rfl⟩
                  go_simp
                case op8 =>
                  intro L ev w1 hLi hlate hearly hT1 hc hf hfr hG
                  rw [if_pos (by decide)]
                  have hP : rdPh w5 B r ga N cap i sq wv wb eb (L 8) (L 16) w1 := hT1
                  obtain ⟨hl16, _⟩ := hlate
                  rw [hLi] at hP
                  rw [hl16] at hP
                  change OpSays _ _ _ _ (fun v w' => rdPh w5 B r ga N cap i sq wv wb eb (true) (L 16) w' ∧ _ ∧ _)
                  rw [hl16]
                  have hg : (∃ k, ev (.tmp 131) = .slice (some ⟨k, 0, none⟩) 0 0 ∧ B ≤ k ∧ (L 8 = false → L 16 = false → w1.heap[k]? = some (.cells #[] 135 (0, 0)))) ∧ (ev (.tmp 137) = .slice (some ⟨ga, 0, none⟩) i cap) ∧ True := hG
                  obtain ⟨g1, g7, _⟩ := hg
                  clear hG hfr
                  obtain ⟨k, g1, hBk, hk1⟩ := g1
                  have hemp := hk1 hLi hl16
                  have hD : SRow w1 B (.slice (some ⟨k, 0, none⟩) 0 0) [] := ⟨by simp [sentCells], .inr ⟨k, 0, #[], rfl, hBk, hemp, Nat.le_refl _, by decide, by simp, by simp [sentCells]⟩⟩
                  obtain ⟨v2, w2, hr, hrow, hk, hbb⟩ := append_src w1 73 B _ _ [] (sq.Y.take i) hD (hP.2.2.erow.src_low i (by have := HC.out; have := HNL.out; omega)) hP.2.1 (by have := HL.out; simp only [List.length_nil]; rw [List.length_take]; omega)
                  rw [List.nil_append] at hrow
                  refine OpSays.value (v := v2) (w' := w2) ?_ ⟨hP.more HBW.out hk (fun z hz => by have e : k = z := Option.some.inj hz; omega), hk.mono (fun z _ h => .inl ⟨rfl, by have e : k = z := Option.some.inj h; rw [← e]; exact hemp⟩), hbb, fun _ => hrow⟩
                  unfold execOp
                  simp only [resolve, invoke, builtin, Sem.run_bind, Sem.run_pure, Result.andThen_ok, List.map_toArray, List.map_cons, List.map_nil, g1, g7, hr]
                case op9 =>
                  intro L ev w1 hLi hlate hearly hT1 hc hf hfr hG
                  rw [if_pos (by decide)]
                  have hP : rdPh w5 B r ga N cap i sq wv wb eb (L 8) (L 16) w1 := hT1
                  obtain ⟨hl16, _⟩ := hlate
                  rw [hl16] at hP
                  have h0 : ev (.tmp 0) = .pointer (some ⟨r, 0, none⟩) := hfr 0 (by decide)
                  clear hG hfr
                  refine OpSays.value (v := .pointer (some ⟨r, 0, none⟩)) (w' := w1) ?_ ⟨hT1, Only.refl _ _, rfl⟩
                  go_simp
                case op10 =>
                  intro L ev w1 hLi hlate hearly hT1 hc hf hfr hG
                  rw [if_pos (by decide)]
                  have hP : rdPh w5 B r ga N cap i sq wv wb eb (L 8) (L 16) w1 := hT1
                  obtain ⟨hl16, _⟩ := hlate
                  rw [hl16] at hP
                  have hg : (ev (.tmp 139) = .pointer (some ⟨r, 0, none⟩)) ∧ True := hG
                  obtain ⟨g9, _⟩ := hg
                  clear hG hfr
                  refine OpSays.value (v := .pointer (some ⟨r, 0, none⟩)) (w' := w1) ?_ ⟨hT1, Only.refl _ _, rfl⟩
                  go_simp
                case op11 =>
                  intro L ev w1 hLi hlate hearly hT1 hc hf hfr hG
                  rw [if_pos (by decide)]
                  have hP : rdPh w5 B r ga N cap i sq wv wb eb (L 8) (L 16) w1 := hT1
                  obtain ⟨hl16, _⟩ := hlate
                  rw [hl16] at hP
                  have hg : (ev (.tmp 140) = .pointer (some ⟨r, 0, none⟩)) ∧ True := hG
                  obtain ⟨g10, _⟩ := hg
                  clear hG hfr
                  refine OpSays.value (v := .pointer (some ⟨r, 15, none⟩)) (w' := w1) ?_ ⟨hT1, Only.refl _ _, rfl⟩
                  go_simp
                case op12 =>
                  intro L ev w1 hLi hlate hearly hT1 hc hf hfr hG
                  rw [if_pos (by decide)]
                  have hP : rdPh w5 B r ga N cap i sq wv wb eb (L 8) (L 16) w1 := hT1
                  obtain ⟨hl16, _⟩ := hlate
                  rw [hl16] at hP
                  have hg : (ev (.tmp 141) = .pointer (some ⟨r, 15, none⟩)) ∧ True := hG
                  obtain ⟨g11, _⟩ := hg
                  clear hG hfr
                  have x15 := hP.2.2.c15
                  refine OpSays.value (v := .slice (some ⟨ga, 0, none⟩) N cap) (w' := w1) ?_ ⟨hT1, Only.refl _ _, rfl⟩
                  go_simp
                case op13 =>
                  intro L ev w1 hLi hlate hearly hT1 hc hf hfr hG
                  rw [if_pos (by decide)]
                  have hP : rdPh w5 B r ga N cap i sq wv wb eb (L 8) (L 16) w1 := hT1
                  obtain ⟨hl16, _⟩ := hlate
                  rw [hl16] at hP
                  have h11 : ev (.tmp 11) = .int .i64 i := hfr 11 (by decide)
                  clear hG hfr
                  refine OpSays.value (v := .int .i64 i) (w' := w1) ?_ ⟨hT1, Only.refl _ _, rfl⟩
                  go_simp
                case op14 =>
                  intro L ev w1 hLi hlate hearly hT1 hc hf hfr hG
                  rw [if_pos (by decide)]
                  have hP : rdPh w5 B r ga N cap i sq wv wb eb (L 8) (L 16) w1 := hT1
                  obtain ⟨hl16, _⟩ := hlate
                  rw [hl16] at hP
                  have hg : (ev (.tmp 143) = .int .i64 i) ∧ True := hG
                  obtain ⟨g13, _⟩ := hg
                  clear hG hfr
                  have hwi : IntKind.i64.wrap ((i : Int) + 1) = (i : Int) + 1 := by rw [IntKind.wrap_i64]; have := HC.out; omega
                  refine OpSays.value (v := .int .i64 (i + 1)) (w' := w1) ?_ ⟨hT1, Only.refl _ _, rfl⟩
                  go_simp
                case op15 =>
                  intro L ev w1 hLi hlate hearly hT1 hc hf hfr hG
                  rw [if_pos (by decide)]
                  have hP : rdPh w5 B r ga N cap i sq wv wb eb (L 8) (L 16) w1 := hT1
                  obtain ⟨hl16, _⟩ := hlate
                  rw [hl16] at hP
                  have hg : (ev (.tmp 142) = .slice (some ⟨ga, 0, none⟩) N cap) ∧ (ev (.tmp 144) = .int .i64 (i + 1)) ∧ True := hG
                  obtain ⟨g12, g14, _⟩ := hg
                  clear hG hfr
                  have hhi := run_high ga N cap (i + 1) (by have := HC.out; omega) (by have := HC.out; omega)
                  push_cast at hhi
                  refine OpSays.value (v := .slice (hiA ga cap (i + 1)) (N - (i + 1)) (cap - (i + 1))) (w' := w1) ?_ ⟨hT1, Only.refl _ _, rfl⟩
                  go_simp
                case op16 =>
                  intro L ev w1 hLi hlate hearly hT1 hc hf hfr hG
                  rw [if_pos (by decide)]
                  have hP : rdPh w5 B r ga N cap i sq wv wb eb (L 8) (L 16) w1 := hT1
                  obtain ⟨he8, _⟩ := hearly
                  rw [he8] at hP
                  rw [hLi] at hP
                  change OpSays _ _ _ _ (fun v w' => rdPh w5 B r ga N cap i sq wv wb eb (L 8) (true) w' ∧ _ ∧ _)
                  rw [he8]
                  have hg : ((∀ b, (ev (.tmp 138)).ownBlock = some b → B ≤ b) ∧ (L 16 = false → SRow w1 B (ev (.tmp 138)) (sq.Y.take i))) ∧ (ev (.tmp 145) = .slice (hiA ga cap (i + 1)) (N - (i + 1)) (cap - (i + 1))) ∧ True := hG
                  obtain ⟨g8, g15, _⟩ := hg
                  clear hG hfr
                  obtain ⟨hb6, hrow6⟩ := g8
                  have hr6 := hrow6 hLi
                  have hsrc := hP.2.2.erow.src_high (i + 1) HNL.out (by have := HC.out; omega) (by have := HC.out; omega)
                  obtain ⟨v2, w2, hr, hrow, hk, hbb⟩ := append_src w1 73 B _ _ (sq.Y.take i) _ hr6 hsrc hP.2.1 (by have := HL.out; rw [List.length_take, List.length_drop]; omega)
                  refine OpSays.value (v := v2) (w' := w2) ?_ ⟨hP.more HBW.out hk hb6, hk.mono (fun z _ h => .inr ⟨rfl, hb6 z h⟩), (by first | rfl | exact he8 | simp [upd, he8]), hbb, hrow⟩
                  unfold execOp
                  simp only [resolve, invoke, builtin, Sem.run_bind, Sem.run_pure, Result.andThen_ok, List.map_toArray, List.map_cons, List.map_nil, g15, hr]
                case op17 =>
                  intro L ev w1 hLi hlate hearly hT1 hc hf hfr hG
                  rw [if_pos (by decide)]
                  have hP : rdPh w5 B r ga N cap i sq wv wb eb (L 8) (L 16) w1 := hT1
                  have hg : (ev (.tmp 130) = .pointer (some ⟨r, 0, none⟩)) ∧ True := hG
                  obtain ⟨g0, _⟩ := hg
                  clear hG hfr
                  refine OpSays.value (v := .pointer (some ⟨r, 0, none⟩)) (w' := w1) ?_ ⟨hT1, Only.refl _ _, rfl⟩
                  go_simp
                case op18 =>
                  intro L ev w1 hLi hlate hearly hT1 hc hf hfr hG
                  rw [if_pos (by decide)]
                  have hP : rdPh w5 B r ga N cap i sq wv wb eb (L 8) (L 16) w1 := hT1
                  have hg : (ev (.tmp 147) = .pointer (some ⟨r, 0, none⟩)) ∧ True := hG
                  obtain ⟨g17, _⟩ := hg
                  clear hG hfr
                  refine OpSays.value (v := .pointer (some ⟨r, 15, none⟩)) (w' := w1) ?_ ⟨hT1, Only.refl _ _, rfl⟩
                  go_simp
              rintro L ⟨tm, df⟩ w9 hL hT1 hsz hdf hfr hG
              have hPE : rdPh w5 B r ga N cap i sq wv wb eb (true) (true) w9 := by
                have hP : rdPh w5 B r ga N cap i sq wv wb eb (L 8) (L 16) w9 := hT1
                have hm := fun k (hk : k ∈ List.range 19) => AllB.get hL k hk
                rw [hm 8 (by decide)] at hP
                rw [hm 16 (by decide)] at hP
                exact hP
              clear hT1 hL
              have k0 : tm.getD 0 undef = .pointer (some ⟨r, 0, none⟩) := hfr 0 (by decide)
              have k1 : tm.getD 1 undef = x1 := hfr 1 (by decide)
              have k2 : tm.getD 2 undef = x2 := hfr 2 (by decide)
              have k3 : tm.getD 3 undef = x3 := hfr 3 (by decide)
              have k4 : tm.getD 4 undef = x4 := hfr 4 (by decide)
              have k5 : tm.getD 5 undef = x5 := hfr 5 (by decide)
              have k6 : tm.getD 6 undef = x6 := hfr 6 (by decide)
              have k7 : tm.getD 7 undef = x7 := hfr 7 (by decide)
              have k8 : tm.getD 8 undef = Value.pointer (some { block := lb, off := 0 }) := hfr 8 (by decide)
              have k9 : tm.getD 9 undef = x9 := hfr 9 (by decide)
              have k12 : tm.getD 12 undef = x12 := hfr 12 (by decide)
              have k13 : tm.getD 13 undef = x13 := hfr 13 (by decide)
              have k14 : tm.getD 14 undef = x14 := hfr 14 (by decide)
              have k15 : tm.getD 15 undef = x15 := hfr 15 (by decide)
              have k16 : tm.getD 16 undef = x16 := hfr 16 (by decide)
              have k17 : tm.getD 17 undef = x17 := hfr 17 (by decide)
              have k18 : tm.getD 18 undef = x18 := hfr 18 (by decide)
              have k19 : tm.getD 19 undef = x19 := hfr 19 (by decide)
              have k20 : tm.getD 20 undef = x20 := hfr 20 (by decide)
              have k21 : tm.getD 21 undef = x21 := hfr 21 (by decide)
              have k22 : tm.getD 22 undef = x22 := hfr 22 (by decide)
              have k23 : tm.getD 23 undef = x23 := hfr 23 (by decide)
              have k24 : tm.getD 24 undef = x24 := hfr 24 (by decide)
              have k25 : tm.getD 25 undef = x25 := hfr 25 (by decide)
              have k26 : tm.getD 26 undef = x26 := hfr 26 (by decide)
              have k27 : tm.getD 27 undef = x27 := hfr 27 (by decide)
              have k28 : tm.getD 28 undef = x28 := hfr 28 (by decide)
              have k29 : tm.getD 29 undef = x29 := hfr 29 (by decide)
              have k30 : tm.getD 30 undef = x30 := hfr 30 (by decide)
              have k31 : tm.getD 31 undef = x31 := hfr 31 (by decide)
              have k32 : tm.getD 32 undef = x32 := hfr 32 (by decide)
              have k33 : tm.getD 33 undef = x33 := hfr 33 (by decide)
              have k34 : tm.getD 34 undef = x34 := hfr 34 (by decide)
              have k35 : tm.getD 35 undef = x35 := hfr 35 (by decide)
              have k36 : tm.getD 36 undef = x36 := hfr 36 (by decide)
              have k37 : tm.getD 37 undef = x37 := hfr 37 (by decide)
              have k38 : tm.getD 38 undef = x38 := hfr 38 (by decide)
              have k39 : tm.getD 39 undef = x39 := hfr 39 (by decide)
              have k40 : tm.getD 40 undef = x40 := hfr 40 (by decide)
              have k41 : tm.getD 41 undef = x41 := hfr 41 (by decide)
              have k42 : tm.getD 42 undef = x42 := hfr 42 (by decide)
              have k43 : tm.getD 43 undef = x43 := hfr 43 (by decide)
              have k44 : tm.getD 44 undef = x44 := hfr 44 (by decide)
              have k45 : tm.getD 45 undef = x45 := hfr 45 (by decide)
              have k46 : tm.getD 46 undef = x46 := hfr 46 (by decide)
              have k47 : tm.getD 47 undef = x47 := hfr 47 (by decide)
              have k48 : tm.getD 48 undef = x48 := hfr 48 (by decide)
              have k49 : tm.getD 49 undef = x49 := hfr 49 (by decide)
              have k50 : tm.getD 50 undef = x50 := hfr 50 (by decide)
              have k51 : tm.getD 51 undef = x51 := hfr 51 (by decide)
              have k52 : tm.getD 52 undef = x52 := hfr 52 (by decide)
              have k53 : tm.getD 53 undef = x53 := hfr 53 (by decide)
              have k54 : tm.getD 54 undef = x54 := hfr 54 (by decide)
              have k55 : tm.getD 55 undef = x55 := hfr 55 (by decide)
              have k56 : tm.getD 56 undef = x56 := hfr 56 (by decide)
              have k57 : tm.getD 57 undef = x57 := hfr 57 (by decide)
              have k58 : tm.getD 58 undef = x58 := hfr 58 (by decide)
              have k59 : tm.getD 59 undef = x59 := hfr 59 (by decide)
              have k60 : tm.getD 60 undef = x60 := hfr 60 (by decide)
              have k61 : tm.getD 61 undef = x61 := hfr 61 (by decide)
              have k62 : tm.getD 62 undef = x62 := hfr 62 (by decide)
              have k63 : tm.getD 63 undef = x63 := hfr 63 (by decide)
              have k64 : tm.getD 64 undef = x64 := hfr 64 (by decide)
              have k65 : tm.getD 65 undef = x65 := hfr 65 (by decide)
              have k66 : tm.getD 66 undef = x66 := hfr 66 (by decide)
              have k67 : tm.getD 67 undef = x67 := hfr 67 (by decide)
              have k68 : tm.getD 68 undef = x68 := hfr 68 (by decide)
              have k69 : tm.getD 69 undef = x69 := hfr 69 (by decide)
              have k70 : tm.getD 70 undef = x70 := hfr 70 (by decide)
              have k71 : tm.getD 71 undef = x71 := hfr 71 (by decide)
              have k72 : tm.getD 72 undef = x72 := hfr 72 (by decide)
              have k73 : tm.getD 73 undef = x73 := hfr 73 (by decide)
              have k74 : tm.getD 74 undef = x74 := hfr 74 (by decide)
              have k75 : tm.getD 75 undef = x75 := hfr 75 (by decide)
              have k76 : tm.getD 76 undef = x76 := hfr 76 (by decide)
              have k77 : tm.getD 77 undef = x77 := hfr 77 (by decide)
              have k78 : tm.getD 78 undef = x78 := hfr 78 (by decide)
              have k79 : tm.getD 79 undef = x79 := hfr 79 (by decide)
              have k80 : tm.getD 80 undef = x80 := hfr 80 (by decide)
              have k81 : tm.getD 81 undef = x81 := hfr 81 (by decide)
              have k82 : tm.getD 82 undef = x82 := hfr 82 (by decide)
              have k83 : tm.getD 83 undef = x83 := hfr 83 (by decide)
              have k84 : tm.getD 84 undef = x84 := hfr 84 (by decide)
              have k85 : tm.getD 85 undef = x85 := hfr 85 (by decide)
              have k86 : tm.getD 86 undef = x86 := hfr 86 (by decide)
              have k87 : tm.getD 87 undef = x87 := hfr 87 (by decide)
              have k88 : tm.getD 88 undef = x88 := hfr 88 (by decide)
              have k89 : tm.getD 89 undef = x89 := hfr 89 (by decide)
              have k90 : tm.getD 90 undef = x90 := hfr 90 (by decide)
              have k91 : tm.getD 91 undef = x91 := hfr 91 (by decide)
              have k92 : tm.getD 92 undef = x92 := hfr 92 (by decide)
              have k93 : tm.getD 93 undef = x93 := hfr 93 (by decide)
              have k94 : tm.getD 94 undef = x94 := hfr 94 (by decide)
              have k95 : tm.getD 95 undef = x95 := hfr 95 (by decide)
              have k96 : tm.getD 96 undef = x96 := hfr 96 (by decide)
              have k97 : tm.getD 97 undef = x97 := hfr 97 (by decide)
              have k98 : tm.getD 98 undef = x98 := hfr 98 (by decide)
              have k99 : tm.getD 99 undef = x99 := hfr 99 (by decide)
              have k100 : tm.getD 100 undef = x100 := hfr 100 (by decide)
              have k101 : tm.getD 101 undef = Value.slice a101 (s7.Y.length + 1) c101 := hfr 101 (by decide)
              have k102 : tm.getD 102 undef = x102 := hfr 102 (by decide)
              have k103 : tm.getD 103 undef = Value.pointer (some { block := r, off := 15 }) := hfr 103 (by decide)
              have k156 : tm.getD 156 undef = x156 := hfr 156 (by decide)
              have k11 : tm.getD 11 undef = .int .i64 i := hfr 11 (by decide)
              have k10 : tm.getD 10 undef = v5 := hfr 10 (by decide)
              have k148 : tm.getD 148 undef = .pointer (some ⟨r, 15, none⟩) := AllG.get hG 18 (by decide)
              obtain ⟨_, hv146, hr146⟩ : _ ∧ (∀ b, (tm.getD 146 undef).ownBlock = some b → B ≤ b) ∧ SRow w9 B (tm.getD 146 undef) (sq.Y.take i ++ sq.Y.drop (i + 1)) := AllG.get hG 16 (by decide)
              have he : tm = #[tm.getD 0 undef, tm.getD 1 undef, tm.getD 2 undef, tm.getD 3 undef, tm.getD 4 undef, tm.getD 5 undef, tm.getD 6 undef, tm.getD 7 undef, tm.getD 8 undef, tm.getD 9 undef, tm.getD 10 undef, tm.getD 11 undef, tm.getD 12 undef, tm.getD 13 undef, tm.getD 14 undef, tm.getD 15 undef, tm.getD 16 undef, tm.getD 17 undef, tm.getD 18 undef, tm.getD 19 undef, tm.getD 20 undef, tm.getD 21 undef, tm.getD 22 undef, tm.getD 23 undef, tm.getD 24 undef, tm.getD 25 undef, tm.getD 26 undef, tm.getD 27 undef, tm.getD 28 undef, tm.getD 29 undef, tm.getD 30 undef, tm.getD 31 undef, tm.getD 32 undef, tm.getD 33 undef, tm.getD 34 undef, tm.getD 35 undef, tm.getD 36 undef, tm.getD 37 undef, tm.getD 38 undef, tm.getD 39 undef, tm.getD 40 undef, tm.getD 41 undef, tm.getD 42 undef, tm.getD 43 undef, tm.getD 44 undef, tm.getD 45 undef, tm.getD 46 undef, tm.getD 47 undef, tm.getD 48 undef, tm.getD 49 undef, tm.getD 50 undef, tm.getD 51 undef, tm.getD 52 undef, tm.getD 53 undef, tm.getD 54 undef, tm.getD 55 undef, tm.getD 56 undef, tm.getD 57 undef, tm.getD 58 undef, tm.getD 59 undef, tm.getD 60 undef, tm.getD 61 undef, tm.getD 62 undef, tm.getD 63 undef, tm.getD 64 undef, tm.getD 65 undef, tm.getD 66 undef, tm.getD 67 undef, tm.getD 68 undef, tm.getD 69 undef, tm.getD 70 undef, tm.getD 71 undef, tm.getD 72 undef, tm.getD 73 undef, tm.getD 74 undef, tm.getD 75 undef, tm.getD 76 undef, tm.getD 77 undef, tm.getD 78 undef, tm.getD 79 undef, tm.getD 80 undef, tm.getD 81 undef, tm.getD 82 undef, tm.getD 83 undef, tm.getD 84 undef, tm.getD 85 undef, tm.getD 86 undef, tm.getD 87 undef, tm.getD 88 undef, tm.getD 89 undef, tm.getD 90 undef, tm.getD 91 undef, tm.getD 92 undef, tm.getD 93 undef, tm.getD 94 undef, tm.getD 95 undef, tm.getD 96 undef, tm.getD 97 undef, tm.getD 98 undef, tm.getD 99 undef, tm.getD 100 undef, tm.getD 101 undef, tm.getD 102 undef, tm.getD 103 undef, tm.getD 104 undef, tm.getD 105 undef, tm.getD 106 undef, tm.getD 107 undef, tm.getD 108 undef, tm.getD 109 undef, tm.getD 110 undef, tm.getD 111 undef, tm.getD 112 undef, tm.getD 113 undef, tm.getD 114 undef, tm.getD 115 undef, tm.getD 116 undef, tm.getD 117 undef, tm.getD 118 undef, tm.getD 119 undef, tm.getD 120 undef, tm.getD 121 undef, tm.getD 122 undef, tm.getD 123 undef, tm.getD 124 undef, tm.getD 125 undef, tm.getD 126 undef, tm.getD 127 undef, tm.getD 128 undef, tm.getD 129 undef, tm.getD 130 undef, tm.getD 131 undef, tm.getD 132 undef, tm.getD 133 undef, tm.getD 134 undef, tm.getD 135 undef, tm.getD 136 undef, tm.getD 137 undef, tm.getD 138 undef, tm.getD 139 undef, tm.getD 140 undef, tm.getD 141 undef, tm.getD 142 undef, tm.getD 143 undef, tm.getD 144 undef, tm.getD 145 undef, tm.getD 146 undef, tm.getD 147 undef, tm.getD 148 undef, tm.getD 149 undef, tm.getD 150 undef, tm.getD 151 undef, tm.getD 152 undef, tm.getD 153 undef, tm.getD 154 undef, tm.getD 155 undef, tm.getD 156 undef] := arr_eta (n := 157) hsz
              replace hdf : df = [] := hdf
              subst hdf
              clear hsz hfr hG
              rw [he, k0, k1, k2, k3, k4, k5, k6, k7, k8, k9, k12, k13, k14, k15, k16, k17, k18, k19, k20, k21, k22, k23, k24, k25, k26, k27, k28, k29, k30, k31, k32, k33, k34, k35, k36, k37, k38, k39, k40, k41, k42, k43, k44, k45, k46, k47, k48, k49, k50, k51, k52, k53, k54, k55, k56, k57, k58, k59, k60, k61, k62, k63, k64, k65, k66, k67, k68, k69, k70, k71, k72, k73, k74, k75, k76, k77, k78, k79, k80, k81, k82, k83, k84, k85, k86, k87, k88, k89, k90, k91, k92, k93, k94, k95, k96, k97, k98, k99, k100, k101, k102, k103, k156, k11, k10, k148]
              clear he k0 k1 k2 k3 k4 k5 k6 k7 k8 k9 k12 k13 k14 k15 k16 k17 k18 k19 k20 k21 k22 k23 k24 k25 k26 k27 k28 k29 k30 k31 k32 k33 k34 k35 k36 k37 k38 k39 k40 k41 k42 k43 k44 k45 k46 k47 k48 k49 k50 k51 k52 k53 k54 k55 k56 k57 k58 k59 k60 k61 k62 k63 k64 k65 k66 k67 k68 k69 k70 k71 k72 k73 k74 k75 k76 k77 k78 k79 k80 k81 k82 k83 k84 k85 k86 k87 k88 k89 k90 k91 k92 k93 k94 k95 k96 k97 k98 k99 k100 k101 k102 k103 k156 k11 k10 k148
              generalize tm.getD 104 undef = x104
              generalize tm.getD 105 undef = x105
              generalize tm.getD 106 undef = x106
              generalize tm.getD 107 undef = x107
              generalize tm.getD 108 undef = x108
              generalize tm.getD 109 undef = x109
              generalize tm.getD 110 undef = x110
              generalize tm.getD 111 undef = x111
              generalize tm.getD 112 undef = x112
              generalize tm.getD 113 undef = x113
              generalize tm.getD 114 undef = x114
              generalize tm.getD 115 undef = x115
              generalize tm.getD 116 undef = x116
              generalize tm.getD 117 undef = x117
              generalize tm.getD 118 undef = x118
              generalize tm.getD 119 undef = x119
              generalize tm.getD 120 undef = x120
              generalize tm.getD 121 undef = x121
              generalize tm.getD 122 undef = x122
              generalize tm.getD 123 undef = x123
              generalize tm.getD 124 undef = x124
              generalize tm.getD 125 undef = x125
              generalize tm.getD 126 undef = x126
              generalize tm.getD 127 undef = x127
              generalize tm.getD 128 undef = x128
              generalize tm.getD 129 undef = x129
              generalize tm.getD 130 undef = x130
              generalize tm.getD 131 undef = x131
              generalize tm.getD 132 undef = x132
              generalize tm.getD 133 undef = x133
              generalize tm.getD 134 undef = x134
              generalize tm.getD 135 undef = x135
              generalize tm.getD 136 undef = x136
              generalize tm.getD 137 undef = x137
              generalize tm.getD 138 undef = x138
              generalize tm.getD 139 undef = x139
              generalize tm.getD 140 undef = x140
              generalize tm.getD 141 undef = x141
              generalize tm.getD 142 undef = x142
              generalize tm.getD 143 undef = x143
              generalize tm.getD 144 undef = x144
              generalize tm.getD 145 undef = x145
              generalize tm.getD 146 undef = v146 at hv146 hr146 ⊢
              generalize tm.getD 147 undef = x147
              generalize tm.getD 149 undef = x149
              generalize tm.getD 150 undef = x150
              generalize tm.getD 151 undef = x151
              generalize tm.getD 152 undef = x152
              generalize tm.getD 153 undef = x153
              generalize tm.getD 154 undef = x154
              generalize tm.getD 155 undef = x155
              simp only [List.drop_succ_cons, List.drop_zero]
              obtain ⟨hO9, hB9, hst9⟩ := hPE
              have hYD : ({ S8 with taken := t, E := delE E (t + 1) } : CS).Y = sq.Y.take i ++ sq.Y.drop (i + 1) := by
                rw [← HSQ.out]
                show (delE E (t + 1)).map (fun p => ((p.1, 0, p.2) : St)) = (E.map (fun p => ((p.1, 0, p.2) : St))).take i ++ (E.map (fun p => ((p.1, 0, p.2) : St))).drop (i + 1)
                rw [HDEL.out, List.map_append, List.map_take, List.map_drop]
              rw [← hYD] at hr146
              obtain ⟨a146, c146, rfl⟩ := hr146.form
              generalize ({ S8 with taken := t, E := delE E (t + 1) } : CS).Y.length = M at hr146 hv146 ⊢
              have y15 := hst9.c15
              have f15 := blk_free hst9.blk 15
              have hRE := hst9.store (s' := { S8 with taken := t, E := delE E (t + 1) }) (v := .slice a146 M c146) hr146 (by rw [← HSQ.out]; rfl) (fun _ _ => by rw [← HSQ.out]; rfl)
              have hks := (Only.refl (fun k => k = r) w9).setCell ⟨r, 15, none⟩ (.slice a146 M c146) (fun _ => rfl)
              have hO10 : Only (fun k => k = r) w (w9.setCell ⟨r, 15, none⟩ (.slice a146 M c146)) := (HO5.out.then hO9 (fun _ _ h => h.elim)).trans hks
              have hown9 := row_own (row_only HOWN.out hO9 (fun _ _ h => h)) hks (fun k hk e => by have := (HOWN.out.lt k hk).1; omega)
              clear hYD hr146 hv146 hst9 hO9 hB9 hks HT
              go_upto_region 23 with fail
              generalize w9.setCell ⟨r, 15, none⟩ (.slice a146 M c146) = w10 at hRE hO10 hown9 ⊢
              clear y15 f15
              obtain ⟨wv10, yv10, wb10, eb10, hg10, _, _⟩ := id hRE
              have y9 := (blk_cell hg10 9).trans (show (({ S8 with taken := t, E := delE E (t + 1) } : CS).rcells wv10 yv10)[9]? = some (.int .i64 t) from rfl)
              have f9 := blk_free hg10 9
              have hwt : IntKind.i64.wrap (t + 1) = t + 1 := by rw [IntKind.wrap_i64]; have := HP.out; omega
              have hRE2 := hRE.set (s' := ({ S8 with taken := t + 1, E := delE E (t + 1) } : CS)) 9 (.int .i64 (t + 1)) (fun _ _ => rfl) rfl rfl
              have hks := (Only.refl (fun k => k = r) w10).setCell ⟨r, 9, none⟩ (.int .i64 (t + 1)) (fun _ => rfl)
              have hO11 := hO10.trans hks
              have hown11 := row_own hown9 hks (fun k hk e => by have := (hown9.lt k hk).1; omega)
              have HRE := Lib.hid hRE2
              have HOW := Lib.hid hown11
              have HYL := Lib.hid (show yLen wr r = N from by rw [HQ.out.yLen_eq, ← HSQ.out]; exact HN.out)
              have HYM := Lib.hid hRE2.yLen_eq
              clear hg10 hRE hks hO10 hown9 hRE2 hown11
              go_wp2_with fail
              go_roundw
              case rel => first | exact ⟨t + 1, delE E (t + 1), bs ++ [d], HRE.out, HOW.out, HSTEP.out, HDD2.out, by have := HP.out; omega, by have := HP.out; have := HDL.out; omega, by have := HP.out; have := HDL.out; rw [List.length_append]; simp only [List.length_cons, List.length_nil]; omega, hO11⟩ | exact ⟨t + 1, delE E (t + 1), HRE.out, bs ++ [d], HOW.out, HSTEP.out, HDD2.out, by have := HP.out; omega, by have := HP.out; have := HDL.out; omega, by have := HP.out; have := HDL.out; rw [List.length_append]; simp only [List.length_cons, List.length_nil]; omega, hO11⟩ | exact ⟨t + 1, delE E (t + 1), HRE.out, bs ++ [d], HOW.out, HSTEP.out, HDD2.out, by have := HP.out; omega, by have := HP.out; have := HDL.out; omega, by have := HP.out; have := HDL.out; rw [List.length_append]; simp only [List.length_cons, List.length_nil]; omega⟩
              case measure => rw [HYM.out, HYL.out]; exact HDL.out


end Go.Proofs.Yteifehienpeaiaa

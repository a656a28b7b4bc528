/-
  The facts of the drawn regions of the law ChannelBrings.
  No conditions.
-/
import Derived.Test.YteifehienpeaiaaDoes
import Derived.Test.YteifehienpeaiaaBringsLaw
import Derived.Test.YteifehienpeaiaaOpen

import Derived.Deep.CutBlock
import Derived.Deep.CutRange
set_option linter.unusedVariables false
set_option linter.unusedSimpArgs false
set_option maxRecDepth 100000
namespace Go.Proofs.Yteifehienpeaiaa
open Go.RowKit

def b0tG (W : World) (B p q : Nat) (g mo me : Nat → Nat) (rv : Nat → Value) (S : PS) (kd nn : Int) (tx : ByteArray) (sec : Bool) (L : Nat → Bool) : Nat → Value → World → Prop
  | 0, v, w' => v = .pointer (some ⟨p, 0, none⟩)
  | 1, v, w' => v = .int .i64 0
  | 2, v, w' => v = .int .i64 1
  | 3, v, w' => v = .pointer (some ⟨p, 0, none⟩)
  | 4, v, w' => v = .int .i64 0
  | 5, v, w' => v = .int .i64 1
  | 6, v, w' => v = .pointer (some ⟨p, 0, none⟩)
  | 7, v, w' => v = .pointer (some ⟨p, 2, none⟩)
  | 8, v, w' => v = .pointer (some ⟨p, 3, none⟩)
  | 9, v, w' => v = rv 1
  | 10, v, w' => v = .pointer (some ⟨p, 0, none⟩)
  | 11, v, w' => v = .int .i64 0
  | 12, v, w' => v = .pointer (some ⟨p, 0, none⟩)
  | 13, v, w' => v = .pointer (some ⟨p, 0, none⟩)
  | 14, v, w' => v = .pointer (some ⟨p, 0, none⟩)
  | 15, v, w' => v = .pointer (some ⟨g 0, 0, none⟩)
  | 16, v, w' => v = .pointer (some ⟨p, 0, none⟩)
  | 17, v, w' => v = .pointer (some ⟨p, 0, none⟩)
  | 18, v, w' => v = .pointer (some ⟨p, 8, none⟩)
  | 19, v, w' => v = .int .i64 S.now
  | 20, v, w' => w'.ownsRow B 9 1 (v) ((S.s 0).outs S.now).length (((S.s 0).outs S.now).map Value.string) ∧ (∀ b, (rv 1).ownBlock = some b → b < B) ∧ (L 21 = false → PAt W w' 6 p g mo me rv { S with s := put S.s 0 ((S.s 0).ticks S.now) })
  | 21, v, w' => w'.ownsRow W.heap.size 9 1 (v) (S.L 1 ++ ((S.s 0).outs S.now)).length ((S.L 1 ++ ((S.s 0).outs S.now)).map Value.string) ∧ (∀ b, (v).ownBlock = some b → (rv 1).ownBlock = some b ∨ B ≤ b) ∧ (L 20 = true ∧ PAt W w' 1 p g mo me rv { S with s := put S.s 0 ((S.s 0).ticks S.now) })
  | 22, v, w' => v = .pointer (some ⟨p, 0, none⟩)
  | 23, v, w' => v = .pointer (some ⟨p, 2, none⟩)
  | 24, v, w' => v = .pointer (some ⟨p, 3, none⟩)
  | _, _, _ => True
def b0tDs : List Nat := [66, 67, 68, 69, 70, 71, 72, 73, 74, 75, 76, 77, 78, 79, 80, 81, 82, 83, 84, 85, 86, 87, 88, 89, 90]
def b0tNeed : List (List Nat) := [[], [], [1], [], [], [4], [3], [6], [5, 7], [8], [], [], [10], [12], [11, 13], [14], [], [16], [17], [18], [15, 19], [9, 20], [0], [22], [2, 23]]
def b0tGs : List (Option Bool) := []
def b0tLate : List (List Nat) := [[], [], [], [21], [21], [21], [21], [21], [21], [21], [20, 21], [20, 21], [20, 21], [20, 21], [20, 21], [20, 21], [20, 21], [20, 21], [20, 21], [20, 21], [21], [], [], [], []]
def b0tEarly : List (List Nat) := [[], [], [], [], [], [], [], [], [], [], [], [], [], [], [], [], [], [], [], [], [], [20], [], [], []]
theorem b0tG.keep {W : World} {B p q : Nat} {g mo me : Nat → Nat} {rv : Nat → Value} {S : PS} {kd nn : Int} {tx : ByteArray} {sec : Bool} : ∀ L i jx v w w', i ≠ jx → L i = false → L jx = true → b0tG W B p q g mo me rv S kd nn tx sec L jx v w → Only (p2St 20 21 (rv 1) i) w w' → b0tG W B p q g mo me rv S kd nn tx sec (upd L i) jx v w' := by
  intro L i jx v w w' hij hLi hLj h hO
  match jx, hij, hLj, h with
  | 0, hij, hLj, h => exact h
  | 1, hij, hLj, h => exact h
  | 2, hij, hLj, h => exact h
  | 3, hij, hLj, h => exact h
  | 4, hij, hLj, h => exact h
  | 5, hij, hLj, h => exact h
  | 6, hij, hLj, h => exact h
  | 7, hij, hLj, h => exact h
  | 8, hij, hLj, h => exact h
  | 9, hij, hLj, h => exact h
  | 10, hij, hLj, h => exact h
  | 11, hij, hLj, h => exact h
  | 12, hij, hLj, h => exact h
  | 13, hij, hLj, h => exact h
  | 14, hij, hLj, h => exact h
  | 15, hij, hLj, h => exact h
  | 16, hij, hLj, h => exact h
  | 17, hij, hLj, h => exact h
  | 18, hij, hLj, h => exact h
  | 19, hij, hLj, h => exact h
  | 20, hij, hLj, h => exact (by
    obtain ⟨e1, e2, e3⟩ := h
    refine ⟨row_keepS e1 hO (fun b hb hx => ?_), e2, fun hL => ?_⟩
    · rcases hx with hx | ⟨_, hx⟩
      · exact hij hx
      · have h1 := e2 b hx.symm
        have h2 := (e1.lt b hb).1
        omega
    · have hi : i ≠ 21 := fun e => by subst e; simp [upd] at hL
      have hL' : L 21 = false := by unfold upd at hL; rwa [if_neg (fun e => hi e.symm)] at hL
      exact (e3 hL').keep (hO.mono (fun _ _ hx => hx.elim hij (fun hx => hi hx.1))))
  | 21, hij, hLj, h => exact (by
    obtain ⟨e1, e2, e0, e3⟩ := h
    have hi : i ≠ 20 := fun e => by subst e; rw [e0] at hLi; cases hLi
    have h0 := hO.mono (S' := fun _ => False) (fun _ _ e => e.elim hi (fun e => hij e.1))
    exact ⟨row_keepS e1 h0 (fun _ _ h => h), e2, by unfold upd; rw [if_neg (fun e => hi e.symm)]; exact e0, e3.keep h0⟩)
  | 22, hij, hLj, h => exact h
  | 23, hij, hLj, h => exact h
  | 24, hij, hLj, h => exact h
  | n + 25, hij, hLj, h => trivial
theorem b0tG.guard {W : World} {B p q : Nat} {g mo me : Nat → Nat} {rv : Nat → Value} {S : PS} {kd nn : Int} {tx : ByteArray} {sec : Bool} : ∀ g' b', b0tGs.getD g' none = some b' → ∀ L v w, b0tG W B p q g mo me rv S kd nn tx sec L g' v w → v = .bool b' := by
  intro g' b' hbb L v w hgg
  match g', hbb, hgg with
  | n' + 0, hbb, hgg => exact absurd hbb (by simp [b0tGs])
def b1tG (W : World) (B p q : Nat) (g mo me : Nat → Nat) (rv : Nat → Value) (S : PS) (kd nn : Int) (tx : ByteArray) (sec : Bool) (L : Nat → Bool) : Nat → Value → World → Prop
  | 0, v, w' => v = .pointer (some ⟨p, 0, none⟩)
  | 1, v, w' => v = .int .i64 1
  | 2, v, w' => v = .int .i64 0
  | 3, v, w' => v = .pointer (some ⟨p, 0, none⟩)
  | 4, v, w' => v = .int .i64 1
  | 5, v, w' => v = .int .i64 0
  | 6, v, w' => v = .pointer (some ⟨p, 0, none⟩)
  | 7, v, w' => v = .pointer (some ⟨p, 2, none⟩)
  | 8, v, w' => v = .pointer (some ⟨p, 2, none⟩)
  | 9, v, w' => v = rv 0
  | 10, v, w' => v = .pointer (some ⟨p, 0, none⟩)
  | 11, v, w' => v = .int .i64 1
  | 12, v, w' => v = .pointer (some ⟨p, 0, none⟩)
  | 13, v, w' => v = .pointer (some ⟨p, 0, none⟩)
  | 14, v, w' => v = .pointer (some ⟨p, 1, none⟩)
  | 15, v, w' => v = .pointer (some ⟨g 1, 0, none⟩)
  | 16, v, w' => v = .pointer (some ⟨p, 0, none⟩)
  | 17, v, w' => v = .pointer (some ⟨p, 0, none⟩)
  | 18, v, w' => v = .pointer (some ⟨p, 8, none⟩)
  | 19, v, w' => v = .int .i64 S.now
  | 20, v, w' => w'.ownsRow B 9 1 (v) ((S.s 1).outs S.now).length (((S.s 1).outs S.now).map Value.string) ∧ (∀ b, (rv 0).ownBlock = some b → b < B) ∧ (L 21 = false → PAt W w' 6 p g mo me rv { S with s := put S.s 1 ((S.s 1).ticks S.now) })
  | 21, v, w' => w'.ownsRow W.heap.size 9 1 (v) (S.L 0 ++ ((S.s 1).outs S.now)).length ((S.L 0 ++ ((S.s 1).outs S.now)).map Value.string) ∧ (∀ b, (v).ownBlock = some b → (rv 0).ownBlock = some b ∨ B ≤ b) ∧ (L 20 = true ∧ PAt W w' 0 p g mo me rv { S with s := put S.s 1 ((S.s 1).ticks S.now) })
  | 22, v, w' => v = .pointer (some ⟨p, 0, none⟩)
  | 23, v, w' => v = .pointer (some ⟨p, 2, none⟩)
  | 24, v, w' => v = .pointer (some ⟨p, 2, none⟩)
  | _, _, _ => True
def b1tDs : List Nat := [66, 67, 68, 69, 70, 71, 72, 73, 74, 75, 76, 77, 78, 79, 80, 81, 82, 83, 84, 85, 86, 87, 88, 89, 90]
def b1tNeed : List (List Nat) := [[], [], [1], [], [], [4], [3], [6], [5, 7], [8], [], [], [10], [12], [11, 13], [14], [], [16], [17], [18], [15, 19], [9, 20], [0], [22], [2, 23]]
def b1tGs : List (Option Bool) := []
def b1tLate : List (List Nat) := [[], [], [], [21], [21], [21], [21], [21], [21], [21], [20, 21], [20, 21], [20, 21], [20, 21], [20, 21], [20, 21], [20, 21], [20, 21], [20, 21], [20, 21], [21], [], [], [], []]
def b1tEarly : List (List Nat) := [[], [], [], [], [], [], [], [], [], [], [], [], [], [], [], [], [], [], [], [], [], [20], [], [], []]
theorem b1tG.keep {W : World} {B p q : Nat} {g mo me : Nat → Nat} {rv : Nat → Value} {S : PS} {kd nn : Int} {tx : ByteArray} {sec : Bool} : ∀ L i jx v w w', i ≠ jx → L i = false → L jx = true → b1tG W B p q g mo me rv S kd nn tx sec L jx v w → Only (p2St 20 21 (rv 0) i) w w' → b1tG W B p q g mo me rv S kd nn tx sec (upd L i) jx v w' := by
  intro L i jx v w w' hij hLi hLj h hO
  match jx, hij, hLj, h with
  | 0, hij, hLj, h => exact h
  | 1, hij, hLj, h => exact h
  | 2, hij, hLj, h => exact h
  | 3, hij, hLj, h => exact h
  | 4, hij, hLj, h => exact h
  | 5, hij, hLj, h => exact h
  | 6, hij, hLj, h => exact h
  | 7, hij, hLj, h => exact h
  | 8, hij, hLj, h => exact h
  | 9, hij, hLj, h => exact h
  | 10, hij, hLj, h => exact h
  | 11, hij, hLj, h => exact h
  | 12, hij, hLj, h => exact h
  | 13, hij, hLj, h => exact h
  | 14, hij, hLj, h => exact h
  | 15, hij, hLj, h => exact h
  | 16, hij, hLj, h => exact h
  | 17, hij, hLj, h => exact h
  | 18, hij, hLj, h => exact h
  | 19, hij, hLj, h => exact h
  | 20, hij, hLj, h => exact (by
    obtain ⟨e1, e2, e3⟩ := h
    refine ⟨row_keepS e1 hO (fun b hb hx => ?_), e2, fun hL => ?_⟩
    · rcases hx with hx | ⟨_, hx⟩
      · exact hij hx
      · have h1 := e2 b hx.symm
        have h2 := (e1.lt b hb).1
        omega
    · have hi : i ≠ 21 := fun e => by subst e; simp [upd] at hL
      have hL' : L 21 = false := by unfold upd at hL; rwa [if_neg (fun e => hi e.symm)] at hL
      exact (e3 hL').keep (hO.mono (fun _ _ hx => hx.elim hij (fun hx => hi hx.1))))
  | 21, hij, hLj, h => exact (by
    obtain ⟨e1, e2, e0, e3⟩ := h
    have hi : i ≠ 20 := fun e => by subst e; rw [e0] at hLi; cases hLi
    have h0 := hO.mono (S' := fun _ => False) (fun _ _ e => e.elim hi (fun e => hij e.1))
    exact ⟨row_keepS e1 h0 (fun _ _ h => h), e2, by unfold upd; rw [if_neg (fun e => hi e.symm)]; exact e0, e3.keep h0⟩)
  | 22, hij, hLj, h => exact h
  | 23, hij, hLj, h => exact h
  | 24, hij, hLj, h => exact h
  | n + 25, hij, hLj, h => trivial
theorem b1tG.guard {W : World} {B p q : Nat} {g mo me : Nat → Nat} {rv : Nat → Value} {S : PS} {kd nn : Int} {tx : ByteArray} {sec : Bool} : ∀ g' b', b1tGs.getD g' none = some b' → ∀ L v w, b1tG W B p q g mo me rv S kd nn tx sec L g' v w → v = .bool b' := by
  intro g' b' hbb L v w hgg
  match g', hbb, hgg with
  | n' + 0, hbb, hgg => exact absurd hbb (by simp [b1tGs])
def b0kG (W : World) (B p q : Nat) (g mo me : Nat → Nat) (rv : Nat → Value) (S : PS) (kd nn : Int) (tx : ByteArray) (sec : Bool) (X : ByteArray) (W1 : World) (L : Nat → Bool) : Nat → Value → World → Prop
  | 0, v, w' => v = .pointer (some ⟨p, 0, none⟩)
  | 1, v, w' => v = .int .i64 0
  | 2, v, w' => v = .pointer (some ⟨p, 0, none⟩)
  | 3, v, w' => v = .pointer (some ⟨p, 0, none⟩)
  | 4, v, w' => v = .pointer (some ⟨p, 0, none⟩)
  | 5, v, w' => v = .pointer (some ⟨g 0, 0, none⟩)
  | 6, v, w' => v = .string X
  | 7, v, w' => v = .pointer (some ⟨p, 0, none⟩)
  | 8, v, w' => v = .pointer (some ⟨p, 0, none⟩)
  | 9, v, w' => v = .pointer (some ⟨p, 8, none⟩)
  | 10, v, w' => v = .int .i64 S.now
  | 11, v, w' => ∃ (u : Value) (c : Int), v = .tuple #[u, .int .i64 c] ∧ w'.ownsRow B 9 1 u (took (S.s 0) X S.now).2.length ((took (S.s 0) X S.now).2.map Value.string) ∧ PAt W w' 6 p g mo me rv { S with s := put S.s 0 (took (S.s 0) X S.now).1 } ∧ KeepT (.slice none 0 0) W1 w'
  | 12, v, w' => L 11 = true ∧ ∃ (u : Value) (c : Int), v = .tuple #[u, .int .i64 c] ∧ w'.ownsRow B 9 1 u (took (S.s 0) X S.now).2.length ((took (S.s 0) X S.now).2.map Value.string)
  | 13, v, w' => L 11 = true ∧ w'.ownsRow B 9 1 (v) (took (S.s 0) X S.now).2.length ((took (S.s 0) X S.now).2.map Value.string)
  | 14, v, w' => ∃ c : Int, v = .int .i64 c
  | 15, v, w' => L 11 = true ∧ w'.ownsRow B 9 1 (v) (took (S.s 0) X S.now).2.length ((took (S.s 0) X S.now).2.map Value.string)
  | _, _, _ => True
def b0kDs : List Nat := [113, 114, 115, 116, 117, 118, 119, 120, 121, 122, 123, 124, 112, 125, 126, 12]
def b0kNeed : List (List Nat) := [[], [], [0], [2], [1, 3], [4], [], [], [7], [8], [9], [5, 6, 10], [11], [12], [12], [13]]
def b0kGs : List (Option Bool) := []
def b0kLate : List (List Nat) := [[11], [11], [11], [11], [11], [11], [11], [11], [11], [11], [11], [], [], [], [], []]
def b0kEarly : List (List Nat) := [[], [], [], [], [], [], [], [], [], [], [], [], [11], [11], [11], [11]]
theorem b0kG.keep {W : World} {B p q : Nat} {g mo me : Nat → Nat} {rv : Nat → Value} {S : PS} {kd nn : Int} {tx : ByteArray} {sec : Bool} {X : ByteArray} {W1 : World} : ∀ L i jx v w w', i ≠ jx → L i = false → L jx = true → b0kG W B p q g mo me rv S kd nn tx sec X W1 L jx v w → Only (p1St 11 i) w w' → b0kG W B p q g mo me rv S kd nn tx sec X W1 (upd L i) jx v w' := by
  intro L i jx v w w' hij hLi hLj h hO
  match jx, hij, hLj, h with
  | 0, hij, hLj, h => exact h
  | 1, hij, hLj, h => exact h
  | 2, hij, hLj, h => exact h
  | 3, hij, hLj, h => exact h
  | 4, hij, hLj, h => exact h
  | 5, hij, hLj, h => exact h
  | 6, hij, hLj, h => exact h
  | 7, hij, hLj, h => exact h
  | 8, hij, hLj, h => exact h
  | 9, hij, hLj, h => exact h
  | 10, hij, hLj, h => exact h
  | 11, hij, hLj, h => exact (by obtain ⟨v, c, e1, e2, e3, e4⟩ := h; have h0 := hO.mono (S' := fun _ => False) (fun _ _ e => hij e); exact ⟨v, c, e1, row_keepS e2 h0 (fun _ _ h => h), e3.keep h0, fun b o h1 h2 => h0.at (e4 b o h1 h2) (fun h => h)⟩)
  | 12, hij, hLj, h => exact (by
    obtain ⟨e0, h⟩ := h
    have hi : i ≠ 11 := fun e => by subst e; rw [e0] at hLi; cases hLi
    have h0 := hO.mono (S' := fun _ => False) (fun _ _ e => hi e)
    obtain ⟨v, c, e1, e2⟩ := h
    exact ⟨by unfold upd; rw [if_neg (fun e => hi e.symm)]; exact e0, v, c, e1, row_keepS e2 h0 (fun _ _ h => h)⟩)
  | 13, hij, hLj, h => exact (by
    obtain ⟨e0, h⟩ := h
    have hi : i ≠ 11 := fun e => by subst e; rw [e0] at hLi; cases hLi
    have h0 := hO.mono (S' := fun _ => False) (fun _ _ e => hi e)
    exact ⟨by unfold upd; rw [if_neg (fun e => hi e.symm)]; exact e0, row_keepS h h0 (fun _ _ h => h)⟩)
  | 14, hij, hLj, h => exact h
  | 15, hij, hLj, h => exact (by
    obtain ⟨e0, h⟩ := h
    have hi : i ≠ 11 := fun e => by subst e; rw [e0] at hLi; cases hLi
    have h0 := hO.mono (S' := fun _ => False) (fun _ _ e => hi e)
    exact ⟨by unfold upd; rw [if_neg (fun e => hi e.symm)]; exact e0, row_keepS h h0 (fun _ _ h => h)⟩)
  | n + 16, hij, hLj, h => trivial
theorem b0kG.guard {W : World} {B p q : Nat} {g mo me : Nat → Nat} {rv : Nat → Value} {S : PS} {kd nn : Int} {tx : ByteArray} {sec : Bool} {X : ByteArray} {W1 : World} : ∀ g' b', b0kGs.getD g' none = some b' → ∀ L v w, b0kG W B p q g mo me rv S kd nn tx sec X W1 L g' v w → v = .bool b' := by
  intro g' b' hbb L v w hgg
  match g', hbb, hgg with
  | n' + 0, hbb, hgg => exact absurd hbb (by simp [b0kGs])
def b0sG (W : World) (B p q : Nat) (g mo me : Nat → Nat) (rv : Nat → Value) (S : PS) (kd nn : Int) (tx : ByteArray) (sec : Bool) (vv : Value) (M : List ByteArray) (W1 : World) (L : Nat → Bool) : Nat → Value → World → Prop
  | 0, v, w' => v = .pointer (some ⟨p, 0, none⟩)
  | 1, v, w' => v = .int .i64 0
  | 2, v, w' => v = .pointer (some ⟨p, 0, none⟩)
  | 3, v, w' => v = .int .i64 0
  | 4, v, w' => v = .pointer (some ⟨p, 0, none⟩)
  | 5, v, w' => v = .pointer (some ⟨p, 6, none⟩)
  | 6, v, w' => v = .pointer (some ⟨p, 6, none⟩)
  | 7, v, w' => v = rv 4
  | 8, v, w' => v = vv
  | 9, v, w' => w'.ownsRow W.heap.size 9 1 (v) (S.L 4 ++ M).length ((S.L 4 ++ M).map Value.string) ∧ (∀ b, (v).ownBlock = some b → (rv 4).ownBlock = some b ∨ B ≤ b) ∧ PAt W w' 4 p g mo me rv S ∧ KeepT (rv 4) W1 w'
  | 10, v, w' => v = .pointer (some ⟨p, 0, none⟩)
  | 11, v, w' => v = .pointer (some ⟨p, 6, none⟩)
  | 12, v, w' => v = .pointer (some ⟨p, 6, none⟩)
  | _, _, _ => True
def b0sDs : List Nat := [127, 128, 129, 130, 131, 132, 133, 134, 135, 136, 137, 138, 139]
def b0sNeed : List (List Nat) := [[], [], [], [], [2], [4], [3, 5], [6], [], [7, 8], [0], [10], [1, 11]]
def b0sGs : List (Option Bool) := []
def b0sLate : List (List Nat) := [[], [], [9], [9], [9], [9], [9], [9], [9], [], [], [], []]
def b0sEarly : List (List Nat) := [[], [], [], [], [], [], [], [], [], [], [], [], []]
theorem b0sG.keep {W : World} {B p q : Nat} {g mo me : Nat → Nat} {rv : Nat → Value} {S : PS} {kd nn : Int} {tx : ByteArray} {sec : Bool} {vv : Value} {M : List ByteArray} {W1 : World} : ∀ L i jx v w w', i ≠ jx → L i = false → L jx = true → b0sG W B p q g mo me rv S kd nn tx sec vv M W1 L jx v w → Only (p1St 9 i) w w' → b0sG W B p q g mo me rv S kd nn tx sec vv M W1 (upd L i) jx v w' := by
  intro L i jx v w w' hij hLi hLj h hO
  match jx, hij, hLj, h with
  | 0, hij, hLj, h => exact h
  | 1, hij, hLj, h => exact h
  | 2, hij, hLj, h => exact h
  | 3, hij, hLj, h => exact h
  | 4, hij, hLj, h => exact h
  | 5, hij, hLj, h => exact h
  | 6, hij, hLj, h => exact h
  | 7, hij, hLj, h => exact h
  | 8, hij, hLj, h => exact h
  | 9, hij, hLj, h => exact (by
    obtain ⟨e1, e2, e3, e4⟩ := h
    have h0 := hO.mono (S' := fun _ => False) (fun _ _ e => hij e)
    exact ⟨row_keepS e1 h0 (fun _ _ h => h), e2, e3.keep h0, fun b o h1 h2 => h0.at (e4 b o h1 h2) (fun h => h)⟩)
  | 10, hij, hLj, h => exact h
  | 11, hij, hLj, h => exact h
  | 12, hij, hLj, h => exact h
  | n + 13, hij, hLj, h => trivial
theorem b0sG.guard {W : World} {B p q : Nat} {g mo me : Nat → Nat} {rv : Nat → Value} {S : PS} {kd nn : Int} {tx : ByteArray} {sec : Bool} {vv : Value} {M : List ByteArray} {W1 : World} : ∀ g' b', b0sGs.getD g' none = some b' → ∀ L v w, b0sG W B p q g mo me rv S kd nn tx sec vv M W1 L g' v w → v = .bool b' := by
  intro g' b' hbb L v w hgg
  match g', hbb, hgg with
  | n' + 0, hbb, hgg => exact absurd hbb (by simp [b0sGs])
def b1kG (W : World) (B p q : Nat) (g mo me : Nat → Nat) (rv : Nat → Value) (S : PS) (kd nn : Int) (tx : ByteArray) (sec : Bool) (X : ByteArray) (W1 : World) (L : Nat → Bool) : Nat → Value → World → Prop
  | 0, v, w' => v = .pointer (some ⟨p, 0, none⟩)
  | 1, v, w' => v = .int .i64 1
  | 2, v, w' => v = .pointer (some ⟨p, 0, none⟩)
  | 3, v, w' => v = .pointer (some ⟨p, 0, none⟩)
  | 4, v, w' => v = .pointer (some ⟨p, 1, none⟩)
  | 5, v, w' => v = .pointer (some ⟨g 1, 0, none⟩)
  | 6, v, w' => v = .string X
  | 7, v, w' => v = .pointer (some ⟨p, 0, none⟩)
  | 8, v, w' => v = .pointer (some ⟨p, 0, none⟩)
  | 9, v, w' => v = .pointer (some ⟨p, 8, none⟩)
  | 10, v, w' => v = .int .i64 S.now
  | 11, v, w' => ∃ (u : Value) (c : Int), v = .tuple #[u, .int .i64 c] ∧ w'.ownsRow B 9 1 u (took (S.s 1) X S.now).2.length ((took (S.s 1) X S.now).2.map Value.string) ∧ PAt W w' 6 p g mo me rv { S with s := put S.s 1 (took (S.s 1) X S.now).1 } ∧ KeepT (.slice none 0 0) W1 w'
  | 12, v, w' => L 11 = true ∧ ∃ (u : Value) (c : Int), v = .tuple #[u, .int .i64 c] ∧ w'.ownsRow B 9 1 u (took (S.s 1) X S.now).2.length ((took (S.s 1) X S.now).2.map Value.string)
  | 13, v, w' => L 11 = true ∧ w'.ownsRow B 9 1 (v) (took (S.s 1) X S.now).2.length ((took (S.s 1) X S.now).2.map Value.string)
  | 14, v, w' => ∃ c : Int, v = .int .i64 c
  | 15, v, w' => L 11 = true ∧ w'.ownsRow B 9 1 (v) (took (S.s 1) X S.now).2.length ((took (S.s 1) X S.now).2.map Value.string)
  | _, _, _ => True
def b1kDs : List Nat := [113, 114, 115, 116, 117, 118, 119, 120, 121, 122, 123, 124, 112, 125, 126, 12]
def b1kNeed : List (List Nat) := [[], [], [0], [2], [1, 3], [4], [], [], [7], [8], [9], [5, 6, 10], [11], [12], [12], [13]]
def b1kGs : List (Option Bool) := []
def b1kLate : List (List Nat) := [[11], [11], [11], [11], [11], [11], [11], [11], [11], [11], [11], [], [], [], [], []]
def b1kEarly : List (List Nat) := [[], [], [], [], [], [], [], [], [], [], [], [], [11], [11], [11], [11]]
theorem b1kG.keep {W : World} {B p q : Nat} {g mo me : Nat → Nat} {rv : Nat → Value} {S : PS} {kd nn : Int} {tx : ByteArray} {sec : Bool} {X : ByteArray} {W1 : World} : ∀ L i jx v w w', i ≠ jx → L i = false → L jx = true → b1kG W B p q g mo me rv S kd nn tx sec X W1 L jx v w → Only (p1St 11 i) w w' → b1kG W B p q g mo me rv S kd nn tx sec X W1 (upd L i) jx v w' := by
  intro L i jx v w w' hij hLi hLj h hO
  match jx, hij, hLj, h with
  | 0, hij, hLj, h => exact h
  | 1, hij, hLj, h => exact h
  | 2, hij, hLj, h => exact h
  | 3, hij, hLj, h => exact h
  | 4, hij, hLj, h => exact h
  | 5, hij, hLj, h => exact h
  | 6, hij, hLj, h => exact h
  | 7, hij, hLj, h => exact h
  | 8, hij, hLj, h => exact h
  | 9, hij, hLj, h => exact h
  | 10, hij, hLj, h => exact h
  | 11, hij, hLj, h => exact (by obtain ⟨v, c, e1, e2, e3, e4⟩ := h; have h0 := hO.mono (S' := fun _ => False) (fun _ _ e => hij e); exact ⟨v, c, e1, row_keepS e2 h0 (fun _ _ h => h), e3.keep h0, fun b o h1 h2 => h0.at (e4 b o h1 h2) (fun h => h)⟩)
  | 12, hij, hLj, h => exact (by
    obtain ⟨e0, h⟩ := h
    have hi : i ≠ 11 := fun e => by subst e; rw [e0] at hLi; cases hLi
    have h0 := hO.mono (S' := fun _ => False) (fun _ _ e => hi e)
    obtain ⟨v, c, e1, e2⟩ := h
    exact ⟨by unfold upd; rw [if_neg (fun e => hi e.symm)]; exact e0, v, c, e1, row_keepS e2 h0 (fun _ _ h => h)⟩)
  | 13, hij, hLj, h => exact (by
    obtain ⟨e0, h⟩ := h
    have hi : i ≠ 11 := fun e => by subst e; rw [e0] at hLi; cases hLi
    have h0 := hO.mono (S' := fun _ => False) (fun _ _ e => hi e)
    exact ⟨by unfold upd; rw [if_neg (fun e => hi e.symm)]; exact e0, row_keepS h h0 (fun _ _ h => h)⟩)
  | 14, hij, hLj, h => exact h
  | 15, hij, hLj, h => exact (by
    obtain ⟨e0, h⟩ := h
    have hi : i ≠ 11 := fun e => by subst e; rw [e0] at hLi; cases hLi
    have h0 := hO.mono (S' := fun _ => False) (fun _ _ e => hi e)
    exact ⟨by unfold upd; rw [if_neg (fun e => hi e.symm)]; exact e0, row_keepS h h0 (fun _ _ h => h)⟩)
  | n + 16, hij, hLj, h => trivial
theorem b1kG.guard {W : World} {B p q : Nat} {g mo me : Nat → Nat} {rv : Nat → Value} {S : PS} {kd nn : Int} {tx : ByteArray} {sec : Bool} {X : ByteArray} {W1 : World} : ∀ g' b', b1kGs.getD g' none = some b' → ∀ L v w, b1kG W B p q g mo me rv S kd nn tx sec X W1 L g' v w → v = .bool b' := by
  intro g' b' hbb L v w hgg
  match g', hbb, hgg with
  | n' + 0, hbb, hgg => exact absurd hbb (by simp [b1kGs])
def b1sG (W : World) (B p q : Nat) (g mo me : Nat → Nat) (rv : Nat → Value) (S : PS) (kd nn : Int) (tx : ByteArray) (sec : Bool) (vv : Value) (M : List ByteArray) (W1 : World) (L : Nat → Bool) : Nat → Value → World → Prop
  | 0, v, w' => v = .pointer (some ⟨p, 0, none⟩)
  | 1, v, w' => v = .int .i64 1
  | 2, v, w' => v = .pointer (some ⟨p, 0, none⟩)
  | 3, v, w' => v = .int .i64 1
  | 4, v, w' => v = .pointer (some ⟨p, 0, none⟩)
  | 5, v, w' => v = .pointer (some ⟨p, 6, none⟩)
  | 6, v, w' => v = .pointer (some ⟨p, 7, none⟩)
  | 7, v, w' => v = rv 5
  | 8, v, w' => v = vv
  | 9, v, w' => w'.ownsRow W.heap.size 9 1 (v) (S.L 5 ++ M).length ((S.L 5 ++ M).map Value.string) ∧ (∀ b, (v).ownBlock = some b → (rv 5).ownBlock = some b ∨ B ≤ b) ∧ PAt W w' 5 p g mo me rv S ∧ KeepT (rv 5) W1 w'
  | 10, v, w' => v = .pointer (some ⟨p, 0, none⟩)
  | 11, v, w' => v = .pointer (some ⟨p, 6, none⟩)
  | 12, v, w' => v = .pointer (some ⟨p, 7, none⟩)
  | _, _, _ => True
def b1sDs : List Nat := [127, 128, 129, 130, 131, 132, 133, 134, 135, 136, 137, 138, 139]
def b1sNeed : List (List Nat) := [[], [], [], [], [2], [4], [3, 5], [6], [], [7, 8], [0], [10], [1, 11]]
def b1sGs : List (Option Bool) := []
def b1sLate : List (List Nat) := [[], [], [9], [9], [9], [9], [9], [9], [9], [], [], [], []]
def b1sEarly : List (List Nat) := [[], [], [], [], [], [], [], [], [], [], [], [], []]
theorem b1sG.keep {W : World} {B p q : Nat} {g mo me : Nat → Nat} {rv : Nat → Value} {S : PS} {kd nn : Int} {tx : ByteArray} {sec : Bool} {vv : Value} {M : List ByteArray} {W1 : World} : ∀ L i jx v w w', i ≠ jx → L i = false → L jx = true → b1sG W B p q g mo me rv S kd nn tx sec vv M W1 L jx v w → Only (p1St 9 i) w w' → b1sG W B p q g mo me rv S kd nn tx sec vv M W1 (upd L i) jx v w' := by
  intro L i jx v w w' hij hLi hLj h hO
  match jx, hij, hLj, h with
  | 0, hij, hLj, h => exact h
  | 1, hij, hLj, h => exact h
  | 2, hij, hLj, h => exact h
  | 3, hij, hLj, h => exact h
  | 4, hij, hLj, h => exact h
  | 5, hij, hLj, h => exact h
  | 6, hij, hLj, h => exact h
  | 7, hij, hLj, h => exact h
  | 8, hij, hLj, h => exact h
  | 9, hij, hLj, h => exact (by
    obtain ⟨e1, e2, e3, e4⟩ := h
    have h0 := hO.mono (S' := fun _ => False) (fun _ _ e => hij e)
    exact ⟨row_keepS e1 h0 (fun _ _ h => h), e2, e3.keep h0, fun b o h1 h2 => h0.at (e4 b o h1 h2) (fun h => h)⟩)
  | 10, hij, hLj, h => exact h
  | 11, hij, hLj, h => exact h
  | 12, hij, hLj, h => exact h
  | n + 13, hij, hLj, h => trivial
theorem b1sG.guard {W : World} {B p q : Nat} {g mo me : Nat → Nat} {rv : Nat → Value} {S : PS} {kd nn : Int} {tx : ByteArray} {sec : Bool} {vv : Value} {M : List ByteArray} {W1 : World} : ∀ g' b', b1sGs.getD g' none = some b' → ∀ L v w, b1sG W B p q g mo me rv S kd nn tx sec vv M W1 L g' v w → v = .bool b' := by
  intro g' b' hbb L v w hgg
  match g', hbb, hgg with
  | n' + 0, hbb, hgg => exact absurd hbb (by simp [b1sGs])
def bfG (W : World) (p : Nat) (g mo me : Nat → Nat) (rv : Nat → Value) (S : PS) (a2 a3 a4 a5 : Option Addr) (c2 c3 c4 c5 N2 N3 : Nat) : Nat → Value → World → Prop
  | 0, v, w' => v = .pointer (some ⟨p, 0, none⟩)
  | 1, v, w' => v = .bool true
  | 2, v, w' => v = .bool true
  | 3, v, w' => v = .pointer (some ⟨p, 0, none⟩)
  | 4, v, w' => v = .pointer (some ⟨p, 0, none⟩)
  | 5, v, w' => v = .pointer (some ⟨p, 6, none⟩)
  | 6, v, w' => v = .pointer (some ⟨p, 6, none⟩)
  | 7, v, w' => v = .slice a4 N3 c4
  | 8, v, w' => v = .int .i64 (N3 : Int)
  | 9, v, w' => v = .pointer (some ⟨p, 0, none⟩)
  | 10, v, w' => v = .pointer (some ⟨p, 0, none⟩)
  | 11, v, w' => v = .pointer (some ⟨p, 4, none⟩)
  | 12, v, w' => v = .pointer (some ⟨p, 5, none⟩)
  | 13, v, w' => v = .slice a3 N3 c3
  | 14, v, w' => v = .int .i64 (N3 : Int)
  | 15, v, w' => v = .bool true
  | 16, v, w' => v = .bool true
  | 17, v, w' => v = .bool true
  | 18, v, w' => v = .pointer (some ⟨p, 0, none⟩)
  | 19, v, w' => v = .pointer (some ⟨p, 0, none⟩)
  | 20, v, w' => v = .pointer (some ⟨p, 6, none⟩)
  | 21, v, w' => v = .pointer (some ⟨p, 7, none⟩)
  | 22, v, w' => v = .slice a5 N2 c5
  | 23, v, w' => v = .int .i64 (N2 : Int)
  | 24, v, w' => v = .pointer (some ⟨p, 0, none⟩)
  | 25, v, w' => v = .pointer (some ⟨p, 0, none⟩)
  | 26, v, w' => v = .pointer (some ⟨p, 4, none⟩)
  | 27, v, w' => v = .pointer (some ⟨p, 4, none⟩)
  | 28, v, w' => v = .slice a2 N2 c2
  | 29, v, w' => v = .int .i64 (N2 : Int)
  | 30, v, w' => v = .bool true
  | 31, v, w' => v = .bool true
  | _, _, _ => True
def bfDs : List Nat := [184, 185, 186, 187, 188, 189, 190, 191, 192, 193, 194, 195, 196, 197, 198, 199, 200, 201, 202, 203, 204, 205, 206, 207, 208, 209, 210, 211, 212, 213, 214, 215]
def bfNeed : List (List Nat) := [[], [0], [1], [], [3], [4], [5], [6], [7], [], [9], [10], [11], [12], [13], [8, 14], [2, 15], [16], [], [18], [19], [20], [21], [22], [], [24], [25], [26], [27], [28], [23, 29], [17, 30]]
def bfGs : List (Option Bool) := [none, none, some true, none, none, none, none, none, none, none, none, none, none, none, none, none, none, some true]
theorem bfG.keep {W : World} {p : Nat} {g mo me : Nat → Nat} {rv : Nat → Value} {S : PS} {a2 a3 a4 a5 : Option Addr} {c2 c3 c4 c5 N2 N3 : Nat} : ∀ jx v w w', bfG W p g mo me rv S a2 a3 a4 a5 c2 c3 c4 c5 N2 N3 jx v w → Only (fun _ => False) w w' → bfG W p g mo me rv S a2 a3 a4 a5 c2 c3 c4 c5 N2 N3 jx v w' := by
  intro jx v w w' h hO
  match jx with
  | 0 => exact h
  | 1 => exact h
  | 2 => exact h
  | 3 => exact h
  | 4 => exact h
  | 5 => exact h
  | 6 => exact h
  | 7 => exact h
  | 8 => exact h
  | 9 => exact h
  | 10 => exact h
  | 11 => exact h
  | 12 => exact h
  | 13 => exact h
  | 14 => exact h
  | 15 => exact h
  | 16 => exact h
  | 17 => exact h
  | 18 => exact h
  | 19 => exact h
  | 20 => exact h
  | 21 => exact h
  | 22 => exact h
  | 23 => exact h
  | 24 => exact h
  | 25 => exact h
  | 26 => exact h
  | 27 => exact h
  | 28 => exact h
  | 29 => exact h
  | 30 => exact h
  | 31 => exact h
  | n + 32 => trivial
theorem bfG.guard {W : World} {p : Nat} {g mo me : Nat → Nat} {rv : Nat → Value} {S : PS} {a2 a3 a4 a5 : Option Addr} {c2 c3 c4 c5 N2 N3 : Nat} : ∀ g' b', bfGs.getD g' none = some b' → ∀ v w, bfG W p g mo me rv S a2 a3 a4 a5 c2 c3 c4 c5 N2 N3 g' v w → v = .bool b' := by
  intro g' b' hbb v w hgg
  match g', hbb, hgg with
  | 0, hbb, hgg => cases hbb
  | 1, hbb, hgg => cases hbb
  | 2, hbb, hgg => cases hbb; exact hgg
  | 3, hbb, hgg => cases hbb
  | 4, hbb, hgg => cases hbb
  | 5, hbb, hgg => cases hbb
  | 6, hbb, hgg => cases hbb
  | 7, hbb, hgg => cases hbb
  | 8, hbb, hgg => cases hbb
  | 9, hbb, hgg => cases hbb
  | 10, hbb, hgg => cases hbb
  | 11, hbb, hgg => cases hbb
  | 12, hbb, hgg => cases hbb
  | 13, hbb, hgg => cases hbb
  | 14, hbb, hgg => cases hbb
  | 15, hbb, hgg => cases hbb
  | 16, hbb, hgg => cases hbb
  | 17, hbb, hgg => cases hbb; exact hgg
  | n' + 18, hbb, hgg => exact absurd hbb (by simp [bfGs])

end Go.Proofs.Yteifehienpeaiaa

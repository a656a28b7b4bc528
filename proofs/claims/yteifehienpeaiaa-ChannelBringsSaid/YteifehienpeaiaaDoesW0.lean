/-
  An act of the law ChannelBrings, of the end 0: a letter on its way.
  Conditions: fewer than a hundred acts, texts of at most 500 bytes.
-/
import Derived.Test.YteifehienpeaiaaPairLaw
import Derived.Test.YteifehienpeaiaaPhasedK
import Derived.Test.YteifehienpeaiaaAmong
import Derived.Test.YteifehienpeaiaaPairPh
import Derived.StillTailTactics
set_option linter.unusedVariables false
set_option linter.unusedSimpArgs false
set_option maxRecDepth 100000
namespace Go.Proofs.Yteifehienpeaiaa
open Go.RowKit

def e0cG (W : World) (B p q : Nat) (g mo me : Nat → Nat) (rv : Nat → Value) (S : PS) (kd nn : Int) (tx : ByteArray) (sec : Bool) (ga N cap ii : Nat) (L : Nat → Bool) : Nat → Value → World → Prop
  | 0, v, w' => v = .pointer (some ⟨p, 0, none⟩)
  | 1, v, w' => v = .int .i64 0
  | 2, v, w' => ∃ z, v = .slice (some ⟨z, 0, none⟩) 0 0 ∧ B ≤ z ∧ (L 11 = false → L 21 = false → w'.heap[z]? = some (.cells #[] 9 (0, 0)))
  | 3, v, w' => v = .pointer (some ⟨p, 0, none⟩)
  | 4, v, w' => v = .int .i64 0
  | 5, v, w' => v = .pointer (some ⟨p, 0, none⟩)
  | 6, v, w' => v = .pointer (some ⟨p, 2, none⟩)
  | 7, v, w' => v = .pointer (some ⟨p, 2, none⟩)
  | 8, v, w' => v = .slice (some ⟨ga, 0, none⟩) N cap
  | 9, v, w' => v = .int .i64 ii
  | 10, v, w' => v = .slice (some ⟨ga, 0, none⟩) ii cap
  | 11, v, w' => (∀ b, (v).ownBlock = some b → B ≤ b) ∧ (L 21 = false → w'.ownsRow B 9 1 (v) ((S.L 0).take ii).length (((S.L 0).take ii).map Value.string))
  | 12, v, w' => v = .pointer (some ⟨p, 0, none⟩)
  | 13, v, w' => v = .int .i64 0
  | 14, v, w' => v = .pointer (some ⟨p, 0, none⟩)
  | 15, v, w' => v = .pointer (some ⟨p, 2, none⟩)
  | 16, v, w' => v = .pointer (some ⟨p, 2, none⟩)
  | 17, v, w' => v = .slice (some ⟨ga, 0, none⟩) N cap
  | 18, v, w' => v = .int .i64 ii
  | 19, v, w' => v = .int .i64 ((ii : Int) + 1)
  | 20, v, w' => v = .slice (hiT ga cap (ii + 1)) (N - (ii + 1)) (cap - (ii + 1))
  | 21, v, w' => L 11 = true ∧ (∀ b, (v).ownBlock = some b → B ≤ b) ∧ w'.ownsRow B 9 1 (v) ((S.L 0).take ii ++ (S.L 0).drop (ii + 1)).length (((S.L 0).take ii ++ (S.L 0).drop (ii + 1)).map Value.string)
  | 22, v, w' => v = .pointer (some ⟨p, 0, none⟩)
  | 23, v, w' => v = .pointer (some ⟨p, 2, none⟩)
  | 24, v, w' => v = .pointer (some ⟨p, 2, none⟩)
  | _, _, _ => True
def e0cDs : List Nat := [144, 145, 146, 147, 148, 149, 150, 151, 152, 153, 154, 155, 156, 157, 158, 159, 160, 161, 162, 163, 164, 165, 166, 167, 168]
def e0cNeed : List (List Nat) := [[], [], [], [], [], [3], [5], [4, 6], [7], [], [8, 9], [2, 10], [], [], [12], [14], [13, 15], [16], [], [18], [17, 19], [11, 20], [0], [22], [1, 23]]
def e0cGs : List (Option Bool) := []
def e0cLate : List (List Nat) := [[], [], [11, 21], [11, 21], [11, 21], [11, 21], [11, 21], [11, 21], [11, 21], [11, 21], [11, 21], [21], [21], [21], [21], [21], [21], [21], [21], [21], [21], [], [], [], []]
def e0cEarly : List (List Nat) := [[], [], [], [], [], [], [], [], [], [], [], [], [], [], [], [], [], [], [], [], [], [11], [], [], []]
theorem e0cG.keep {W : World} {B p q : Nat} {g mo me : Nat → Nat} {rv : Nat → Value} {S : PS} {kd nn : Int} {tx : ByteArray} {sec : Bool} {ga N cap ii : Nat} : ∀ L i jx v w w', i ≠ jx → L i = false → L jx = true → e0cG W B p q g mo me rv S kd nn tx sec ga N cap ii L jx v w → Only (p3St 11 21 B w i) w w' → e0cG W B p q g mo me rv S kd nn tx sec ga N cap ii (upd L i) jx v w' := by
  intro L i jx v w w' hij hLi hLj h hO
  match jx, hij, hLj, h with
  | 0, hij, hLj, h => exact h
  | 1, hij, hLj, h => exact h
  | 2, hij, hLj, h => exact (by
    obtain ⟨z, e1, e2, e3⟩ := h
    refine ⟨z, e1, e2, fun h6 h18 => ?_⟩
    have hi6 : i ≠ 11 := fun e => by subst e; simp [upd] at h6
    have hi18 : i ≠ 21 := fun e => by subst e; simp [upd] at h18
    have h6' : L 11 = false := by unfold upd at h6; rwa [if_neg (fun e => hi6 e.symm)] at h6
    have h18' : L 21 = false := by unfold upd at h18; rwa [if_neg (fun e => hi18 e.symm)] at h18
    exact hO.at (e3 h6' h18') (by rintro (⟨h, _⟩ | ⟨h, _⟩) <;> first | exact hi6 h | exact hi18 h))
  | 3, hij, hLj, h => exact h
  | 4, hij, hLj, h => exact h
  | 5, hij, hLj, h => exact h
  | 6, hij, hLj, h => exact h
  | 7, hij, hLj, h => exact h
  | 8, hij, hLj, h => exact h
  | 9, hij, hLj, h => exact h
  | 10, hij, hLj, h => exact h
  | 11, hij, hLj, h => exact (by
    obtain ⟨e1, e2⟩ := h
    refine ⟨e1, fun h18 => ?_⟩
    have hi18 : i ≠ 21 := fun e => by subst e; simp [upd] at h18
    have h18' : L 21 = false := by unfold upd at h18; rwa [if_neg (fun e => hi18 e.symm)] at h18
    exact row_keepS (e2 h18') hO (by rintro b hb (⟨h, _⟩ | ⟨h, _⟩) <;> first | exact hij h | exact hi18 h))
  | 12, hij, hLj, h => exact h
  | 13, hij, hLj, h => exact h
  | 14, hij, hLj, h => exact h
  | 15, hij, hLj, h => exact h
  | 16, hij, hLj, h => exact h
  | 17, hij, hLj, h => exact h
  | 18, hij, hLj, h => exact h
  | 19, hij, hLj, h => exact h
  | 20, hij, hLj, h => exact h
  | 21, hij, hLj, h => exact (by
    obtain ⟨e0, e1, e2⟩ := h
    have hi8 : i ≠ 11 := fun e => by subst e; rw [e0] at hLi; cases hLi
    exact ⟨by unfold upd; rw [if_neg (fun e => hi8 e.symm)]; exact e0, e1, row_keepS e2 hO (by rintro b hb (⟨h, _⟩ | ⟨h, _⟩); exact hi8 h; exact hij h)⟩)
  | 22, hij, hLj, h => exact h
  | 23, hij, hLj, h => exact h
  | 24, hij, hLj, h => exact h
  | n + 25, hij, hLj, h => trivial
theorem e0cG.guard {W : World} {B p q : Nat} {g mo me : Nat → Nat} {rv : Nat → Value} {S : PS} {kd nn : Int} {tx : ByteArray} {sec : Bool} {ga N cap ii : Nat} : ∀ g' b', e0cGs.getD g' none = some b' → ∀ L v w, e0cG W B p q g mo me rv S kd nn tx sec ga N cap ii L g' v w → v = .bool b' := by
  intro g' b' hbb L v w hgg
  match g', hbb, hgg with
  | n' + 0, hbb, hgg => exact absurd hbb (by simp [e0cGs])
def e0tG (W : World) (B p q : Nat) (g mo me : Nat → Nat) (rv : Nat → Value) (S : PS) (kd nn : Int) (tx : ByteArray) (sec : Bool) (X : ByteArray) (L : Nat → Bool) : Nat → Value → World → Prop
  | 0, v, w' => v = .pointer (some ⟨p, 0, none⟩)
  | 1, v, w' => v = .int .i64 0
  | 2, v, w' => v = .pointer (some ⟨p, 0, none⟩)
  | 3, v, w' => v = .pointer (some ⟨p, 0, none⟩)
  | 4, v, w' => v = .pointer (some ⟨p, 0, none⟩)
  | 5, v, w' => v = .pointer (some ⟨g 0, 0, none⟩)
  | 6, v, w' => v = .string X
  | 7, v, w' => v = .pointer (some ⟨p, 0, none⟩)
  | 8, v, w' => v = .pointer (some ⟨p, 0, none⟩)
  | 9, v, w' => v = .pointer (some ⟨p, 8, none⟩)
  | 10, v, w' => v = .int .i64 S.now
  | 11, v, w' => ∃ (u : Value) (c : Int), v = .tuple #[u, .int .i64 c] ∧ w'.ownsRow B 9 1 u (took (S.s 0) X S.now).2.length ((took (S.s 0) X S.now).2.map Value.string) ∧ PAt W w' 6 p g mo me rv { S with s := put S.s 0 (took (S.s 0) X S.now).1 }
  | 12, v, w' => L 11 = true ∧ ∃ (u : Value) (c : Int), v = .tuple #[u, .int .i64 c] ∧ w'.ownsRow B 9 1 u (took (S.s 0) X S.now).2.length ((took (S.s 0) X S.now).2.map Value.string)
  | 13, v, w' => L 11 = true ∧ w'.ownsRow B 9 1 (v) (took (S.s 0) X S.now).2.length ((took (S.s 0) X S.now).2.map Value.string)
  | 14, v, w' => ∃ c : Int, v = .int .i64 c
  | 15, v, w' => L 11 = true ∧ w'.ownsRow B 9 1 (v) (took (S.s 0) X S.now).2.length ((took (S.s 0) X S.now).2.map Value.string)
  | _, _, _ => True
def e0tDs : List Nat := [188, 189, 190, 191, 192, 193, 194, 195, 196, 197, 198, 199, 187, 200, 201, 12]
def e0tNeed : List (List Nat) := [[], [], [0], [2], [1, 3], [4], [], [], [7], [8], [9], [5, 6, 10], [11], [12], [12], [13]]
def e0tGs : List (Option Bool) := []
def e0tLate : List (List Nat) := [[11], [11], [11], [11], [11], [11], [11], [11], [11], [11], [11], [], [], [], [], []]
def e0tEarly : List (List Nat) := [[], [], [], [], [], [], [], [], [], [], [], [], [11], [11], [11], [11]]
theorem e0tG.keep {W : World} {B p q : Nat} {g mo me : Nat → Nat} {rv : Nat → Value} {S : PS} {kd nn : Int} {tx : ByteArray} {sec : Bool} {X : ByteArray} : ∀ L i jx v w w', i ≠ jx → L i = false → L jx = true → e0tG W B p q g mo me rv S kd nn tx sec X L jx v w → Only (p1St 11 i) w w' → e0tG W B p q g mo me rv S kd nn tx sec X (upd L i) jx v w' := by
  intro L i jx v w w' hij hLi hLj h hO
  match jx, hij, hLj, h with
  | 0, hij, hLj, h => exact h
  | 1, hij, hLj, h => exact h
  | 2, hij, hLj, h => exact h
  | 3, hij, hLj, h => exact h
  | 4, hij, hLj, h => exact h
  | 5, hij, hLj, h => exact h
  | 6, hij, hLj, h => exact h
  | 7, hij, hLj, h => exact h
  | 8, hij, hLj, h => exact h
  | 9, hij, hLj, h => exact h
  | 10, hij, hLj, h => exact h
  | 11, hij, hLj, h => exact (by obtain ⟨v, c, e1, e2, e3⟩ := h; have h0 := hO.mono (S' := fun _ => False) (fun _ _ e => hij e); exact ⟨v, c, e1, row_keepS e2 h0 (fun _ _ h => h), e3.keep h0⟩)
  | 12, hij, hLj, h => exact (by
    obtain ⟨e0, h⟩ := h
    have hi : i ≠ 11 := fun e => by subst e; rw [e0] at hLi; cases hLi
    have h0 := hO.mono (S' := fun _ => False) (fun _ _ e => hi e)
    obtain ⟨v, c, e1, e2⟩ := h
    exact ⟨by unfold upd; rw [if_neg (fun e => hi e.symm)]; exact e0, v, c, e1, row_keepS e2 h0 (fun _ _ h => h)⟩)
  | 13, hij, hLj, h => exact (by
    obtain ⟨e0, h⟩ := h
    have hi : i ≠ 11 := fun e => by subst e; rw [e0] at hLi; cases hLi
    have h0 := hO.mono (S' := fun _ => False) (fun _ _ e => hi e)
    exact ⟨by unfold upd; rw [if_neg (fun e => hi e.symm)]; exact e0, row_keepS h h0 (fun _ _ h => h)⟩)
  | 14, hij, hLj, h => exact h
  | 15, hij, hLj, h => exact (by
    obtain ⟨e0, h⟩ := h
    have hi : i ≠ 11 := fun e => by subst e; rw [e0] at hLi; cases hLi
    have h0 := hO.mono (S' := fun _ => False) (fun _ _ e => hi e)
    exact ⟨by unfold upd; rw [if_neg (fun e => hi e.symm)]; exact e0, row_keepS h h0 (fun _ _ h => h)⟩)
  | n + 16, hij, hLj, h => trivial
theorem e0tG.guard {W : World} {B p q : Nat} {g mo me : Nat → Nat} {rv : Nat → Value} {S : PS} {kd nn : Int} {tx : ByteArray} {sec : Bool} {X : ByteArray} : ∀ g' b', e0tGs.getD g' none = some b' → ∀ L v w, e0tG W B p q g mo me rv S kd nn tx sec X L g' v w → v = .bool b' := by
  intro g' b' hbb L v w hgg
  match g', hbb, hgg with
  | n' + 0, hbb, hgg => exact absurd hbb (by simp [e0tGs])
def e0bG (W : World) (B p q : Nat) (g mo me : Nat → Nat) (rv : Nat → Value) (S : PS) (kd nn : Int) (tx : ByteArray) (sec : Bool) (vv : Value) (M : List ByteArray) (L : Nat → Bool) : Nat → Value → World → Prop
  | 0, v, w' => v = .pointer (some ⟨p, 0, none⟩)
  | 1, v, w' => v = .int .i64 0
  | 2, v, w' => v = .pointer (some ⟨p, 0, none⟩)
  | 3, v, w' => v = .int .i64 0
  | 4, v, w' => v = .pointer (some ⟨p, 0, none⟩)
  | 5, v, w' => v = .pointer (some ⟨p, 6, none⟩)
  | 6, v, w' => v = .pointer (some ⟨p, 6, none⟩)
  | 7, v, w' => v = rv 4
  | 8, v, w' => v = vv
  | 9, v, w' => w'.ownsRow W.heap.size 9 1 (v) (S.L 4 ++ M).length ((S.L 4 ++ M).map Value.string) ∧ (∀ b, (v).ownBlock = some b → (rv 4).ownBlock = some b ∨ B ≤ b) ∧ PAt W w' 4 p g mo me rv S
  | 10, v, w' => v = .pointer (some ⟨p, 0, none⟩)
  | 11, v, w' => v = .pointer (some ⟨p, 6, none⟩)
  | 12, v, w' => v = .pointer (some ⟨p, 6, none⟩)
  | _, _, _ => True
def e0bDs : List Nat := [202, 203, 204, 205, 206, 207, 208, 209, 210, 211, 212, 213, 214]
def e0bNeed : List (List Nat) := [[], [], [], [], [2], [4], [3, 5], [6], [], [7, 8], [0], [10], [1, 11]]
def e0bGs : List (Option Bool) := []
def e0bLate : List (List Nat) := [[], [], [9], [9], [9], [9], [9], [9], [9], [], [], [], []]
def e0bEarly : List (List Nat) := [[], [], [], [], [], [], [], [], [], [], [], [], []]
theorem e0bG.keep {W : World} {B p q : Nat} {g mo me : Nat → Nat} {rv : Nat → Value} {S : PS} {kd nn : Int} {tx : ByteArray} {sec : Bool} {vv : Value} {M : List ByteArray} : ∀ L i jx v w w', i ≠ jx → L i = false → L jx = true → e0bG W B p q g mo me rv S kd nn tx sec vv M L jx v w → Only (p1St 9 i) w w' → e0bG W B p q g mo me rv S kd nn tx sec vv M (upd L i) jx v w' := by
  intro L i jx v w w' hij hLi hLj h hO
  match jx, hij, hLj, h with
  | 0, hij, hLj, h => exact h
  | 1, hij, hLj, h => exact h
  | 2, hij, hLj, h => exact h
  | 3, hij, hLj, h => exact h
  | 4, hij, hLj, h => exact h
  | 5, hij, hLj, h => exact h
  | 6, hij, hLj, h => exact h
  | 7, hij, hLj, h => exact h
  | 8, hij, hLj, h => exact h
  | 9, hij, hLj, h => exact (by
    obtain ⟨e1, e2, e3⟩ := h
    have h0 := hO.mono (S' := fun _ => False) (fun _ _ e => hij e)
    exact ⟨row_keepS e1 h0 (fun _ _ h => h), e2, e3.keep h0⟩)
  | 10, hij, hLj, h => exact h
  | 11, hij, hLj, h => exact h
  | 12, hij, hLj, h => exact h
  | n + 13, hij, hLj, h => trivial
theorem e0bG.guard {W : World} {B p q : Nat} {g mo me : Nat → Nat} {rv : Nat → Value} {S : PS} {kd nn : Int} {tx : ByteArray} {sec : Bool} {vv : Value} {M : List ByteArray} : ∀ g' b', e0bGs.getD g' none = some b' → ∀ L v w, e0bG W B p q g mo me rv S kd nn tx sec vv M L g' v w → v = .bool b' := by
  intro g' b' hbb L v w hgg
  match g', hbb, hgg with
  | n' + 0, hbb, hgg => exact absurd hbb (by simp [e0bGs])

set_option maxHeartbeats 16000000 in
theorem does0_way (W w0 : World) (p : Nat) (g mo me : Nat → Nat) (rv : Nat → Value) (S : PS) (a : Nat) (R kd nn : Int) (tx : ByteArray) (wk : (Lit.int .i64 kd).wf = true) (wn : (Lit.int .i64 nn).wf = true) (htx : tx.size ≤ 500) (h : PAt W w0 6 p g mo me rv S) (hv : DInv R S a) (ha : a < 100) (hkind : 2 ≤ kd % 6) :
    Calls Try.prog 24 #[.pointer (some ⟨p, 0, none⟩), .agg #[.int .i64 kd, .int .i64 nn, .string tx, .bool false]] w0 fun e w' => ∃ rv' S', e = .returned (.bool true) ∧ PAt W w' 6 p g mo me rv' S' ∧ DInv R S' (a + 1) := by
  have hk0 := (Only.refl (fun _ => False) w0).alloc (.cells #[.int .i64 kd, .int .i64 nn, .string tx, .bool false] 50)
  have hq := blk_new w0 (.cells #[.int .i64 kd, .int .i64 nn, .string tx, .bool false] 50)
  have hp1 := h.keep hk0
  have x0 := (blk_cell hq 0).trans (show _ = some (.int .i64 kd) from rfl)
  have x1 := (blk_cell hq 1).trans (show _ = some (.int .i64 nn) from rfl)
  have x3 := (blk_cell hq 3).trans (show _ = some (.bool false) from rfl)
  obtain ⟨ra, cap, hrv, hNc, htxt⟩ := row_texts (hp1.rows 0 (by decide) (by decide))
  have y2 := hp1.cRow (i := 0) (by decide)
  rw [hrv] at y2
  simp only [Nat.reduceAdd] at y2
  have HP1 := Lib.hid hp1
  have HQ1 := Lib.hid hq
  have HV := Lib.hid hv
  have HTXT := Lib.hid htxt
  have HRV0 := Lib.hid hrv
  obtain ⟨m, hm⟩ : ∃ m, m = kd % 6 := ⟨_, rfl⟩
  have hm2 : 2 ≤ m := by omega
  have hm5 : m ≤ 5 := by omega
  have d0 : (m == 0) = false := by simp; omega
  have d1 : (m == 1) = false := by simp; omega
  have hLk := hv.len (by omega) 0 (by decide)
  have hcl := hv.len (by omega)
  generalize hN : (S.L 0).length = N at *
  have HN := Lib.hid hN
  have HCL := Lib.hid hcl
  clear h hk0 hq hp1 hv hrv htxt hN hcl
  go_enter Try.func24, Try.ntmps24
  go_wp2_with fail
  refine (among_any kd 6 _ wk (by decide) (by decide)).mono ?_
  rintro e _ ⟨rfl, rfl⟩
  generalize w0.alloc (.cells #[.int .i64 kd, .int .i64 nn, .string tx, .bool false] 50) = W1 at HP1 HQ1 HTXT x0 x1 x3 y2 ⊢
  generalize w0.heap.size = q at HQ1 x0 x1 x3 ⊢
  rw [← hm]
  clear hm hkind
  by_cases hN0 : N = 0
  · have hNN : decide (0 < (N : Int)) = false := decide_eq_false (by omega)
    have HR := Lib.hid HV.out.right
    go_wp2_with fail
    refine (right_true W W1 p g mo me rv S HP1.out HR.out (fun i hi => by have := HCL.out i hi; omega)).mono ?_
    rintro e w3 ⟨rfl, hk3⟩
    have HP3 := Lib.hid (HP1.out.keep hk3)
    clear hk3
    go_wp2_with fail
    go_ret
    exact ⟨rv, S, rfl, HP3.out, HV.out.mono (Nat.le_succ a)⟩
  have hNN : decide (0 < (N : Int)) = true := decide_eq_true (by omega)
  obtain ⟨ii, hii⟩ : ∃ ii : Nat, nn % (N : Int) = (ii : Int) := ⟨(nn % (N : Int)).toNat, by have := Int.emod_nonneg nn (show (N : Int) ≠ 0 by omega); omega⟩
  have hiN : ii < N := by have := Int.emod_lt_of_pos nn (show (0 : Int) < N by omega); omega
  obtain ⟨ga, rfl, hga, hcX⟩ := HTXT.out ii (by rw [HN.out]; exact hiN)
  generalize hX0 : (S.L 0).getD ii ⟨#[]⟩ = X0 at hcX
  have HLX : Hid (LetIn (S.L (2 + 1)) (S.s 1).taken 7 X0) := Lib.hid ((HV.out.at_ (k := 0) (k' := 1) (by omega)).wk X0 (by
    rw [← hX0, List.getD_eq_getElem?_getD, List.getElem?_eq_getElem (by rw [HN.out]; exact hiN)]
    exact List.getElem_mem _))
  clear hX0 hN0
  go_wp2_with fail
  go_quiet ((go_at_call 19; exact Calls.quiet_of_same ((among_any nn N _ wn (by omega) (by omega)).mono fun _ _ x => ⟨x.1, x.2.symm⟩)))
  rw [hii]
  have hkq := (Only.refl (fun _ => False) W1).drewN nq
  have HP2 := Lib.hid (HP1.out.keep hkq)
  have z2 := cell_only hkq (fun h => h) y2
  have zX := cell_only hkq (fun h => h) hcX
  generalize W1.drewN nq = w2 at HP2 z2 zX ⊢
  clear hkq x0 x1 x3 y2 hcX HP1 hii HQ1 HTXT
  by_cases h4 : m = 4
  case' pos =>
    have d4 : (m != 4) = false := by simpa using h4
    clear h4
    go_upto_region 22 with fail
    obtain ⟨S2, hS2⟩ : ∃ S2, S2 = S := ⟨_, rfl⟩
    obtain ⟨rv2, hrv2⟩ : ∃ rv2, rv2 = rv := ⟨_, rfl⟩
    have HPB : Hid (PAt W w2 6 p g mo me rv2 S2) := Lib.hid (by rw [hS2, hrv2]; exact HP2.out)
    have HDB : Hid (DInv R S2 a) := Lib.hid (by rw [hS2]; exact HV.out)
    have HLB : Hid (LetIn (S2.L (2 + 1)) (S2.s 1).taken 7 X0) := Lib.hid (by rw [hS2]; exact HLX.out)
    generalize w2 = WB at HPB z2 zX ⊢
    clear HP2 z2 zX hS2 hrv2 d4
  case' neg =>
    have d4 : (m != 4) = true := by simpa using h4
    clear h4
    have HPA := Lib.hid (HP2.out.keep (Only.refl (fun _ => False) w2))
    have hp0 := HPA.out
    have HRV := HRV0
    have HC : Hid (ii < N ∧ N ≤ cap) := Lib.hid ⟨hiN, hNc⟩
    have HNL : Hid ((S.L 0).length = N) := HN
    have HLN : Hid (∀ i, i < 6 → (S.L i).length ≤ 20000) := HCL
    obtain ⟨B, hB⟩ : ∃ B, B = w2.heap.size := ⟨_, rfl⟩
    have HBW : Hid (w2.heap.size = B) := Lib.hid hB.symm
    clear hB
    go_upto_region 21 with fail
    generalize w2 = W3 at *
    clear z2 zX HP2
    have HT : Hid (p3Ph W3 false false W3.drew) := Lib.hid ((Only.refl _ W3).drew)
    have HQ : True := trivial
    refine wp_region_phasedk_tail 25 e0cDs e0cNeed e0cGs e0cLate e0cEarly (fun L w' => p3Ph W3 (L 11) (L 21) w') (fun i w w' => Only (p3St 11 21 B w i) w w') (e0cG W B p q g mo me rv S kd nn tx false ga N cap ii) rfl rfl (by kernel_rfl) (by kernel_rfl) (by kernel_rfl) (by kernel_rfl) (by kernel_rfl) (by kernel_rfl) HT.out e0cG.keep e0cG.guard (fun _ _ => Only.refl _ _) ?_ ?_
    · refine And.intro ?op0 (And.intro ?op1 (And.intro ?op2 (And.intro ?op3 (And.intro ?op4 (And.intro ?op5 (And.intro ?op6 (And.intro ?op7 (And.intro ?op8 (And.intro ?op9 (And.intro ?op10 (And.intro ?op11 (And.intro ?op12 (And.intro ?op13 (And.intro ?op14 (And.intro ?op15 (And.intro ?op16 (And.intro ?op17 (And.intro ?op18 (And.intro ?op19 (And.intro ?op20 (And.intro ?op21 (And.intro ?op22 (And.intro ?op23 (And.intro ?op24 trivial))))))))))))))))))))))))
      case op0 =>
        intro L ev w1 hLi hlate hearly hT1 hc hf hfr hG
        rw [if_pos (by decide)]
        have hP : p3Ph W3 (L 11) (L 21) w1 := hT1
        have h0 : ev (.tmp 0) = .pointer (some ⟨p, 0, none⟩) := hfr 0 (by decide)
        clear hG hfr
        refine OpSays.value (v := .pointer (some ⟨p, 0, none⟩)) (w' := w1) ?_ ⟨hT1, Only.refl _ _, rfl⟩
        go_simp
      case op1 =>
        intro L ev w1 hLi hlate hearly hT1 hc hf hfr hG
        rw [if_pos (by decide)]
        have hP : p3Ph W3 (L 11) (L 21) w1 := hT1
        have h5 : ev (.tmp 5) = .int .i64 0 := hfr 5 (by decide)
        clear hG hfr
        refine OpSays.value (v := .int .i64 0) (w' := w1) ?_ ⟨hT1, Only.refl _ _, rfl⟩
        go_simp
      case op2 =>
        intro L ev w1 hLi hlate hearly hT1 hc hf hfr hG
        rw [if_pos (by decide)]
        have hP : p3Ph W3 (L 11) (L 21) w1 := hT1
        obtain ⟨hl11, hl21, _⟩ := hlate
        rw [hl11] at hP
        rw [hl21] at hP
        change OpSays _ _ _ _ (fun v w' => p3Ph W3 (L 11) (L 21) w' ∧ _ ∧ _)
        rw [hl11]
        rw [hl21]
        clear hG hfr
        have hk := (Only.refl (fun _ => False) w1).alloc (.cells #[] 9)
        have hBz : B ≤ w1.heap.size := by have := hP.size; have := HBW.out; omega
        refine OpSays.value (v := .slice (some ⟨w1.heap.size, 0, none⟩) 0 0) (w' := w1.alloc (.cells #[] 9)) ?_ ⟨hP.trans hk, hk.mono (fun _ _ h => h.elim), w1.heap.size, rfl, hBz, fun _ _ => blk_new w1 _⟩
        go_simp
      case op3 =>
        intro L ev w1 hLi hlate hearly hT1 hc hf hfr hG
        rw [if_pos (by decide)]
        have hP : p3Ph W3 (L 11) (L 21) w1 := hT1
        obtain ⟨hl11, hl21, _⟩ := hlate
        rw [hl11] at hP
        rw [hl21] at hP
        have h0 : ev (.tmp 0) = .pointer (some ⟨p, 0, none⟩) := hfr 0 (by decide)
        clear hG hfr
        refine OpSays.value (v := .pointer (some ⟨p, 0, none⟩)) (w' := w1) ?_ ⟨hT1, Only.refl _ _, rfl⟩
        go_simp
      case op4 =>
        intro L ev w1 hLi hlate hearly hT1 hc hf hfr hG
        rw [if_pos (by decide)]
        have hP : p3Ph W3 (L 11) (L 21) w1 := hT1
        obtain ⟨hl11, hl21, _⟩ := hlate
        rw [hl11] at hP
        rw [hl21] at hP
        have h5 : ev (.tmp 5) = .int .i64 0 := hfr 5 (by decide)
        clear hG hfr
        refine OpSays.value (v := .int .i64 0) (w' := w1) ?_ ⟨hT1, Only.refl _ _, rfl⟩
        go_simp
      case op5 =>
        intro L ev w1 hLi hlate hearly hT1 hc hf hfr hG
        rw [if_pos (by decide)]
        have hP : p3Ph W3 (L 11) (L 21) w1 := hT1
        obtain ⟨hl11, hl21, _⟩ := hlate
        rw [hl11] at hP
        rw [hl21] at hP
        have hg : (ev (.tmp 147) = .pointer (some ⟨p, 0, none⟩)) ∧ True := hG
        obtain ⟨g3, _⟩ := hg
        clear hG hfr
        refine OpSays.value (v := .pointer (some ⟨p, 0, none⟩)) (w' := w1) ?_ ⟨hT1, Only.refl _ _, rfl⟩
        go_simp
      case op6 =>
        intro L ev w1 hLi hlate hearly hT1 hc hf hfr hG
        rw [if_pos (by decide)]
        have hP : p3Ph W3 (L 11) (L 21) w1 := hT1
        obtain ⟨hl11, hl21, _⟩ := hlate
        rw [hl11] at hP
        rw [hl21] at hP
        have hg : (ev (.tmp 149) = .pointer (some ⟨p, 0, none⟩)) ∧ True := hG
        obtain ⟨g5, _⟩ := hg
        clear hG hfr
        refine OpSays.value (v := .pointer (some ⟨p, 2, none⟩)) (w' := w1) ?_ ⟨hT1, Only.refl _ _, rfl⟩
        go_simp
      case op7 =>
        intro L ev w1 hLi hlate hearly hT1 hc hf hfr hG
        rw [if_pos (by decide)]
        have hP : p3Ph W3 (L 11) (L 21) w1 := hT1
        obtain ⟨hl11, hl21, _⟩ := hlate
        rw [hl11] at hP
        rw [hl21] at hP
        have hg : (ev (.tmp 148) = .int .i64 0) ∧ (ev (.tmp 150) = .pointer (some ⟨p, 2, none⟩)) ∧ True := hG
        obtain ⟨g4, g6, _⟩ := hg
        clear hG hfr
        refine OpSays.value (v := .pointer (some ⟨p, 2, none⟩)) (w' := w1) ?_ ⟨hT1, Only.refl _ _, rfl⟩
        go_simp
      case op8 =>
        intro L ev w1 hLi hlate hearly hT1 hc hf hfr hG
        rw [if_pos (by decide)]
        have hP : p3Ph W3 (L 11) (L 21) w1 := hT1
        obtain ⟨hl11, hl21, _⟩ := hlate
        rw [hl11] at hP
        rw [hl21] at hP
        have hg : (ev (.tmp 151) = .pointer (some ⟨p, 2, none⟩)) ∧ True := hG
        obtain ⟨g7, _⟩ := hg
        clear hG hfr
        have c : w1.cell? ⟨p, 2, none⟩ = some (rv 0) := (HPA.out.keep (hP)).cRow (i := 0) (by decide)
        rw [HRV.out] at c
        refine OpSays.value (v := .slice (some ⟨ga, 0, none⟩) N cap) (w' := w1) ?_ ⟨hT1, Only.refl _ _, rfl⟩
        go_simp
      case op9 =>
        intro L ev w1 hLi hlate hearly hT1 hc hf hfr hG
        rw [if_pos (by decide)]
        have hP : p3Ph W3 (L 11) (L 21) w1 := hT1
        obtain ⟨hl11, hl21, _⟩ := hlate
        rw [hl11] at hP
        rw [hl21] at hP
        have h10 : ev (.tmp 10) = .int .i64 ii := hfr 10 (by decide)
        clear hG hfr
        refine OpSays.value (v := .int .i64 ii) (w' := w1) ?_ ⟨hT1, Only.refl _ _, rfl⟩
        go_simp
      case op10 =>
        intro L ev w1 hLi hlate hearly hT1 hc hf hfr hG
        rw [if_pos (by decide)]
        have hP : p3Ph W3 (L 11) (L 21) w1 := hT1
        obtain ⟨hl11, hl21, _⟩ := hlate
        rw [hl11] at hP
        rw [hl21] at hP
        have hg : (ev (.tmp 152) = .slice (some ⟨ga, 0, none⟩) N cap) ∧ (ev (.tmp 153) = .int .i64 ii) ∧ True := hG
        obtain ⟨g8, g9, _⟩ := hg
        clear hG hfr
        have hlo := run_lowT ga N cap ii (by have := HC.out; omega)
        refine OpSays.value (v := .slice (some ⟨ga, 0, none⟩) ii cap) (w' := w1) ?_ ⟨hT1, Only.refl _ _, rfl⟩
        go_simp
      case op11 =>
        intro L ev w1 hLi hlate hearly hT1 hc hf hfr hG
        rw [if_pos (by decide)]
        have hP : p3Ph W3 (L 11) (L 21) w1 := hT1
        obtain ⟨hl21, _⟩ := hlate
        rw [hLi] at hP
        rw [hl21] at hP
        change OpSays _ _ _ _ (fun v w' => p3Ph W3 (true) (L 21) w' ∧ _ ∧ _)
        rw [hl21]
        have hg : (∃ z, ev (.tmp 146) = .slice (some ⟨z, 0, none⟩) 0 0 ∧ B ≤ z ∧ (L 11 = false → L 21 = false → w1.heap[z]? = some (.cells #[] 9 (0, 0)))) ∧ (ev (.tmp 154) = .slice (some ⟨ga, 0, none⟩) ii cap) ∧ True := hG
        obtain ⟨g2, g10, _⟩ := hg
        clear hG hfr
        obtain ⟨z, g2, hBz, hz1⟩ := g2
        have hemp := hz1 hLi hl21
        have hD : w1.ownsRow B 9 1 (.slice (some ⟨z, 0, none⟩) 0 0) ([] : List ByteArray).length (([] : List ByteArray).map Value.string) := ⟨by simp, .inr ⟨z, 0, #[], rfl, hBz, hemp, Nat.le_refl _, by decide, by simp, by simp⟩⟩
        have hrk := (HPA.out.keep hP).rows 0 (by decide) (by decide)
        rw [HRV.out] at hrk
        obtain ⟨v2, w2, hr, hrow, hg2, hbb⟩ := append_texts w1 43 B _ _ [] ((S.L 0).take ii) hD (row_src_low hrk ii (by have := HC.out; have := HNL.out; omega)) (by have := hP.size; have := HBW.out; omega) (by have := HC.out; have := HNL.out; have := HLN.out 0 (by decide); simp only [List.length_nil]; rw [List.length_take]; omega)
        rw [List.nil_append] at hrow
        have hk := Only.of_grown hg2
        have hzz : ∀ y, some y = (Value.slice (some ⟨z, 0, none⟩) 0 0).ownBlock → y = z := fun y e => Option.some.inj e
        refine OpSays.value (v := v2) (w' := w2) ?_ ⟨hP.then hk (fun y h1 h2 => by have := hzz y h2; have := HBW.out; omega), hk.mono (fun y _ h => .inl ⟨rfl, by rw [hzz y h]; exact hemp⟩), fun b hb => (hbb b hb).elim (fun e => by have := hzz b e.symm; omega) (fun e => by have := hP.size; have := HBW.out; omega), fun _ => hrow⟩
        unfold execOp
        simp only [resolve, invoke, builtin, Sem.run_bind, Sem.run_pure, Result.andThen_ok, List.map_toArray, List.map_cons, List.map_nil, g2, g10, hr]
      case op12 =>
        intro L ev w1 hLi hlate hearly hT1 hc hf hfr hG
        rw [if_pos (by decide)]
        have hP : p3Ph W3 (L 11) (L 21) w1 := hT1
        obtain ⟨hl21, _⟩ := hlate
        rw [hl21] at hP
        have h0 : ev (.tmp 0) = .pointer (some ⟨p, 0, none⟩) := hfr 0 (by decide)
        clear hG hfr
        refine OpSays.value (v := .pointer (some ⟨p, 0, none⟩)) (w' := w1) ?_ ⟨hT1, Only.refl _ _, rfl⟩
        go_simp
      case op13 =>
        intro L ev w1 hLi hlate hearly hT1 hc hf hfr hG
        rw [if_pos (by decide)]
        have hP : p3Ph W3 (L 11) (L 21) w1 := hT1
        obtain ⟨hl21, _⟩ := hlate
        rw [hl21] at hP
        have h5 : ev (.tmp 5) = .int .i64 0 := hfr 5 (by decide)
        clear hG hfr
        refine OpSays.value (v := .int .i64 0) (w' := w1) ?_ ⟨hT1, Only.refl _ _, rfl⟩
        go_simp
      case op14 =>
        intro L ev w1 hLi hlate hearly hT1 hc hf hfr hG
        rw [if_pos (by decide)]
        have hP : p3Ph W3 (L 11) (L 21) w1 := hT1
        obtain ⟨hl21, _⟩ := hlate
        rw [hl21] at hP
        have hg : (ev (.tmp 156) = .pointer (some ⟨p, 0, none⟩)) ∧ True := hG
        obtain ⟨g12, _⟩ := hg
        clear hG hfr
        refine OpSays.value (v := .pointer (some ⟨p, 0, none⟩)) (w' := w1) ?_ ⟨hT1, Only.refl _ _, rfl⟩
        go_simp
      case op15 =>
        intro L ev w1 hLi hlate hearly hT1 hc hf hfr hG
        rw [if_pos (by decide)]
        have hP : p3Ph W3 (L 11) (L 21) w1 := hT1
        obtain ⟨hl21, _⟩ := hlate
        rw [hl21] at hP
        have hg : (ev (.tmp 158) = .pointer (some ⟨p, 0, none⟩)) ∧ True := hG
        obtain ⟨g14, _⟩ := hg
        clear hG hfr
        refine OpSays.value (v := .pointer (some ⟨p, 2, none⟩)) (w' := w1) ?_ ⟨hT1, Only.refl _ _, rfl⟩
        go_simp
      case op16 =>
        intro L ev w1 hLi hlate hearly hT1 hc hf hfr hG
        rw [if_pos (by decide)]
        have hP : p3Ph W3 (L 11) (L 21) w1 := hT1
        obtain ⟨hl21, _⟩ := hlate
        rw [hl21] at hP
        have hg : (ev (.tmp 157) = .int .i64 0) ∧ (ev (.tmp 159) = .pointer (some ⟨p, 2, none⟩)) ∧ True := hG
        obtain ⟨g13, g15, _⟩ := hg
        clear hG hfr
        refine OpSays.value (v := .pointer (some ⟨p, 2, none⟩)) (w' := w1) ?_ ⟨hT1, Only.refl _ _, rfl⟩
        go_simp
      case op17 =>
        intro L ev w1 hLi hlate hearly hT1 hc hf hfr hG
        rw [if_pos (by decide)]
        have hP : p3Ph W3 (L 11) (L 21) w1 := hT1
        obtain ⟨hl21, _⟩ := hlate
        rw [hl21] at hP
        have hg : (ev (.tmp 160) = .pointer (some ⟨p, 2, none⟩)) ∧ True := hG
        obtain ⟨g16, _⟩ := hg
        clear hG hfr
        have c : w1.cell? ⟨p, 2, none⟩ = some (rv 0) := (HPA.out.keep (hP)).cRow (i := 0) (by decide)
        rw [HRV.out] at c
        refine OpSays.value (v := .slice (some ⟨ga, 0, none⟩) N cap) (w' := w1) ?_ ⟨hT1, Only.refl _ _, rfl⟩
        go_simp
      case op18 =>
        intro L ev w1 hLi hlate hearly hT1 hc hf hfr hG
        rw [if_pos (by decide)]
        have hP : p3Ph W3 (L 11) (L 21) w1 := hT1
        obtain ⟨hl21, _⟩ := hlate
        rw [hl21] at hP
        have h10 : ev (.tmp 10) = .int .i64 ii := hfr 10 (by decide)
        clear hG hfr
        refine OpSays.value (v := .int .i64 ii) (w' := w1) ?_ ⟨hT1, Only.refl _ _, rfl⟩
        go_simp
      case op19 =>
        intro L ev w1 hLi hlate hearly hT1 hc hf hfr hG
        rw [if_pos (by decide)]
        have hP : p3Ph W3 (L 11) (L 21) w1 := hT1
        obtain ⟨hl21, _⟩ := hlate
        rw [hl21] at hP
        have hg : (ev (.tmp 162) = .int .i64 ii) ∧ True := hG
        obtain ⟨g18, _⟩ := hg
        clear hG hfr
        have hwi : IntKind.i64.wrap ((ii : Int) + 1) = (ii : Int) + 1 := by rw [IntKind.wrap_i64]; have := HC.out; have := HNL.out; have := HLN.out 0 (by decide); omega
        refine OpSays.value (v := .int .i64 ((ii : Int) + 1)) (w' := w1) ?_ ⟨hT1, Only.refl _ _, rfl⟩
        go_simp
      case op20 =>
        intro L ev w1 hLi hlate hearly hT1 hc hf hfr hG
        rw [if_pos (by decide)]
        have hP : p3Ph W3 (L 11) (L 21) w1 := hT1
        obtain ⟨hl21, _⟩ := hlate
        rw [hl21] at hP
        have hg : (ev (.tmp 161) = .slice (some ⟨ga, 0, none⟩) N cap) ∧ (ev (.tmp 163) = .int .i64 ((ii : Int) + 1)) ∧ True := hG
        obtain ⟨g17, g19, _⟩ := hg
        clear hG hfr
        have hhi := run_highT ga N cap (ii + 1) (by have := HC.out; omega) (by have := HC.out; omega)
        push_cast at hhi
        refine OpSays.value (v := .slice (hiT ga cap (ii + 1)) (N - (ii + 1)) (cap - (ii + 1))) (w' := w1) ?_ ⟨hT1, Only.refl _ _, rfl⟩
        go_simp
      case op21 =>
        intro L ev w1 hLi hlate hearly hT1 hc hf hfr hG
        rw [if_pos (by decide)]
        have hP : p3Ph W3 (L 11) (L 21) w1 := hT1
        obtain ⟨he11, _⟩ := hearly
        rw [he11] at hP
        rw [hLi] at hP
        change OpSays _ _ _ _ (fun v w' => p3Ph W3 (L 11) (true) w' ∧ _ ∧ _)
        rw [he11]
        have hg : ((∀ b, (ev (.tmp 155)).ownBlock = some b → B ≤ b) ∧ (L 21 = false → w1.ownsRow B 9 1 (ev (.tmp 155)) ((S.L 0).take ii).length (((S.L 0).take ii).map Value.string))) ∧ (ev (.tmp 164) = .slice (hiT ga cap (ii + 1)) (N - (ii + 1)) (cap - (ii + 1))) ∧ True := hG
        obtain ⟨g11, g20, _⟩ := hg
        clear hG hfr
        obtain ⟨hb6, hrow6⟩ := g11
        have hr6 := hrow6 hLi
        have hrk := (HPA.out.keep hP).rows 0 (by decide) (by decide)
        rw [HRV.out] at hrk
        obtain ⟨v2, w2, hr, hrow, hg2, hbb⟩ := append_texts w1 43 B _ _ ((S.L 0).take ii) ((S.L 0).drop (ii + 1)) hr6 (row_src_high hrk (ii + 1) HNL.out (by have := HC.out; omega) (by have := HC.out; omega)) (by have := hP.size; have := HBW.out; omega) (by have := HLN.out 0 (by decide); rw [List.length_take, List.length_drop]; omega)
        have hk := Only.of_grown hg2
        refine OpSays.value (v := v2) (w' := w2) ?_ ⟨hP.then hk (fun y h1 h2 => by have := hb6 y h2.symm; have := HBW.out; omega), hk.mono (fun y _ h => .inr ⟨rfl, hb6 y h.symm⟩), (by first | rfl | exact he11 | simp [upd, he11]), fun b hb => (hbb b hb).elim (fun e => hb6 b e) (fun e => by have := hP.size; have := HBW.out; omega), hrow⟩
        unfold execOp
        simp only [resolve, invoke, builtin, Sem.run_bind, Sem.run_pure, Result.andThen_ok, List.map_toArray, List.map_cons, List.map_nil, g20, hr]
      case op22 =>
        intro L ev w1 hLi hlate hearly hT1 hc hf hfr hG
        rw [if_pos (by decide)]
        have hP : p3Ph W3 (L 11) (L 21) w1 := hT1
        have hg : (ev (.tmp 144) = .pointer (some ⟨p, 0, none⟩)) ∧ True := hG
        obtain ⟨g0, _⟩ := hg
        clear hG hfr
        refine OpSays.value (v := .pointer (some ⟨p, 0, none⟩)) (w' := w1) ?_ ⟨hT1, Only.refl _ _, rfl⟩
        go_simp
      case op23 =>
        intro L ev w1 hLi hlate hearly hT1 hc hf hfr hG
        rw [if_pos (by decide)]
        have hP : p3Ph W3 (L 11) (L 21) w1 := hT1
        have hg : (ev (.tmp 166) = .pointer (some ⟨p, 0, none⟩)) ∧ True := hG
        obtain ⟨g22, _⟩ := hg
        clear hG hfr
        refine OpSays.value (v := .pointer (some ⟨p, 2, none⟩)) (w' := w1) ?_ ⟨hT1, Only.refl _ _, rfl⟩
        go_simp
      case op24 =>
        intro L ev w1 hLi hlate hearly hT1 hc hf hfr hG
        rw [if_pos (by decide)]
        have hP : p3Ph W3 (L 11) (L 21) w1 := hT1
        have hg : (ev (.tmp 145) = .int .i64 0) ∧ (ev (.tmp 167) = .pointer (some ⟨p, 2, none⟩)) ∧ True := hG
        obtain ⟨g1, g23, _⟩ := hg
        clear hG hfr
        refine OpSays.value (v := .pointer (some ⟨p, 2, none⟩)) (w' := w1) ?_ ⟨hT1, Only.refl _ _, rfl⟩
        go_simp
    rintro L ⟨tm, df⟩ w4 hL hT1 hsz hdf hfr hG
    have hPE : p3Ph W3 (true) (true) w4 := by
      have hP : p3Ph W3 (L 11) (L 21) w4 := hT1
      have hm := fun k (hk : k ∈ List.range 25) => AllB.get hL k hk
      rw [hm 11 (by decide)] at hP
      rw [hm 21 (by decide)] at hP
      exact hP
    clear hT1 hL
    have k0 : tm.getD 0 undef = .pointer (some ⟨p, 0, none⟩) := hfr 0 (by decide)
    have k3 : tm.getD 3 undef = .pointer (some ⟨q, 0, none⟩) := hfr 3 (by decide)
    have k5 : tm.getD 5 undef = .int .i64 0 := hfr 5 (by decide)
    have k6 : tm.getD 6 undef = .int .i64 m := hfr 6 (by decide)
    have k10 : tm.getD 10 undef = .int .i64 ii := hfr 10 (by decide)
    have k11 : tm.getD 11 undef = .string X0 := hfr 11 (by decide)
    have k168 : tm.getD 168 undef = .pointer (some ⟨p, 2, none⟩) := AllG.get hG 24 (by decide)
    obtain ⟨_, hob, hrow⟩ : _ ∧ (∀ b, (tm.getD 165 undef).ownBlock = some b → B ≤ b) ∧ w4.ownsRow B 9 1 (tm.getD 165 undef) ((S.L 0).take ii ++ (S.L 0).drop (ii + 1)).length (((S.L 0).take ii ++ (S.L 0).drop (ii + 1)).map Value.string) := AllG.get hG 21 (by decide)
    have he : tm = #[tm.getD 0 undef, tm.getD 1 undef, tm.getD 2 undef, tm.getD 3 undef, tm.getD 4 undef, tm.getD 5 undef, tm.getD 6 undef, tm.getD 7 undef, tm.getD 8 undef, tm.getD 9 undef, tm.getD 10 undef, tm.getD 11 undef, tm.getD 12 undef, tm.getD 13 undef, tm.getD 14 undef, tm.getD 15 undef, tm.getD 16 undef, tm.getD 17 undef, tm.getD 18 undef, tm.getD 19 undef, tm.getD 20 undef, tm.getD 21 undef, tm.getD 22 undef, tm.getD 23 undef, tm.getD 24 undef, tm.getD 25 undef, tm.getD 26 undef, tm.getD 27 undef, tm.getD 28 undef, tm.getD 29 undef, tm.getD 30 undef, tm.getD 31 undef, tm.getD 32 undef, tm.getD 33 undef, tm.getD 34 undef, tm.getD 35 undef, tm.getD 36 undef, tm.getD 37 undef, tm.getD 38 undef, tm.getD 39 undef, tm.getD 40 undef, tm.getD 41 undef, tm.getD 42 undef, tm.getD 43 undef, tm.getD 44 undef, tm.getD 45 undef, tm.getD 46 undef, tm.getD 47 undef, tm.getD 48 undef, tm.getD 49 undef, tm.getD 50 undef, tm.getD 51 undef, tm.getD 52 undef, tm.getD 53 undef, tm.getD 54 undef, tm.getD 55 undef, tm.getD 56 undef, tm.getD 57 undef, tm.getD 58 undef, tm.getD 59 undef, tm.getD 60 undef, tm.getD 61 undef, tm.getD 62 undef, tm.getD 63 undef, tm.getD 64 undef, tm.getD 65 undef, tm.getD 66 undef, tm.getD 67 undef, tm.getD 68 undef, tm.getD 69 undef, tm.getD 70 undef, tm.getD 71 undef, tm.getD 72 undef, tm.getD 73 undef, tm.getD 74 undef, tm.getD 75 undef, tm.getD 76 undef, tm.getD 77 undef, tm.getD 78 undef, tm.getD 79 undef, tm.getD 80 undef, tm.getD 81 undef, tm.getD 82 undef, tm.getD 83 undef, tm.getD 84 undef, tm.getD 85 undef, tm.getD 86 undef, tm.getD 87 undef, tm.getD 88 undef, tm.getD 89 undef, tm.getD 90 undef, tm.getD 91 undef, tm.getD 92 undef, tm.getD 93 undef, tm.getD 94 undef, tm.getD 95 undef, tm.getD 96 undef, tm.getD 97 undef, tm.getD 98 undef, tm.getD 99 undef, tm.getD 100 undef, tm.getD 101 undef, tm.getD 102 undef, tm.getD 103 undef, tm.getD 104 undef, tm.getD 105 undef, tm.getD 106 undef, tm.getD 107 undef, tm.getD 108 undef, tm.getD 109 undef, tm.getD 110 undef, tm.getD 111 undef, tm.getD 112 undef, tm.getD 113 undef, tm.getD 114 undef, tm.getD 115 undef, tm.getD 116 undef, tm.getD 117 undef, tm.getD 118 undef, tm.getD 119 undef, tm.getD 120 undef, tm.getD 121 undef, tm.getD 122 undef, tm.getD 123 undef, tm.getD 124 undef, tm.getD 125 undef, tm.getD 126 undef, tm.getD 127 undef, tm.getD 128 undef, tm.getD 129 undef, tm.getD 130 undef, tm.getD 131 undef, tm.getD 132 undef, tm.getD 133 undef, tm.getD 134 undef, tm.getD 135 undef, tm.getD 136 undef, tm.getD 137 undef, tm.getD 138 undef, tm.getD 139 undef, tm.getD 140 undef, tm.getD 141 undef, tm.getD 142 undef, tm.getD 143 undef, tm.getD 144 undef, tm.getD 145 undef, tm.getD 146 undef, tm.getD 147 undef, tm.getD 148 undef, tm.getD 149 undef, tm.getD 150 undef, tm.getD 151 undef, tm.getD 152 undef, tm.getD 153 undef, tm.getD 154 undef, tm.getD 155 undef, tm.getD 156 undef, tm.getD 157 undef, tm.getD 158 undef, tm.getD 159 undef, tm.getD 160 undef, tm.getD 161 undef, tm.getD 162 undef, tm.getD 163 undef, tm.getD 164 undef, tm.getD 165 undef, tm.getD 166 undef, tm.getD 167 undef, tm.getD 168 undef, tm.getD 169 undef, tm.getD 170 undef, tm.getD 171 undef, tm.getD 172 undef, tm.getD 173 undef, tm.getD 174 undef, tm.getD 175 undef, tm.getD 176 undef, tm.getD 177 undef, tm.getD 178 undef, tm.getD 179 undef, tm.getD 180 undef, tm.getD 181 undef, tm.getD 182 undef, tm.getD 183 undef, tm.getD 184 undef, tm.getD 185 undef, tm.getD 186 undef, tm.getD 187 undef, tm.getD 188 undef, tm.getD 189 undef, tm.getD 190 undef, tm.getD 191 undef, tm.getD 192 undef, tm.getD 193 undef, tm.getD 194 undef, tm.getD 195 undef, tm.getD 196 undef, tm.getD 197 undef, tm.getD 198 undef, tm.getD 199 undef, tm.getD 200 undef, tm.getD 201 undef, tm.getD 202 undef, tm.getD 203 undef, tm.getD 204 undef, tm.getD 205 undef, tm.getD 206 undef, tm.getD 207 undef, tm.getD 208 undef, tm.getD 209 undef, tm.getD 210 undef, tm.getD 211 undef, tm.getD 212 undef, tm.getD 213 undef, tm.getD 214 undef, tm.getD 215 undef, tm.getD 216 undef] := arr_eta (n := 217) hsz
    replace hdf : df = [] := hdf
    subst hdf
    clear hsz hfr hG
    rw [he, k0, k3, k5, k6, k10, k11, k168]
    clear he k0 k3 k5 k6 k10 k11 k168
    generalize tm.getD 1 undef = x1
    generalize tm.getD 2 undef = x2
    generalize tm.getD 4 undef = x4
    generalize tm.getD 7 undef = x7
    generalize tm.getD 8 undef = x8
    generalize tm.getD 9 undef = x9
    generalize tm.getD 12 undef = x12
    generalize tm.getD 13 undef = x13
    generalize tm.getD 14 undef = x14
    generalize tm.getD 15 undef = x15
    generalize tm.getD 16 undef = x16
    generalize tm.getD 17 undef = x17
    generalize tm.getD 18 undef = x18
    generalize tm.getD 19 undef = x19
    generalize tm.getD 20 undef = x20
    generalize tm.getD 21 undef = x21
    generalize tm.getD 22 undef = x22
    generalize tm.getD 23 undef = x23
    generalize tm.getD 24 undef = x24
    generalize tm.getD 25 undef = x25
    generalize tm.getD 26 undef = x26
    generalize tm.getD 27 undef = x27
    generalize tm.getD 28 undef = x28
    generalize tm.getD 29 undef = x29
    generalize tm.getD 30 undef = x30
    generalize tm.getD 31 undef = x31
    generalize tm.getD 32 undef = x32
    generalize tm.getD 33 undef = x33
    generalize tm.getD 34 undef = x34
    generalize tm.getD 35 undef = x35
    generalize tm.getD 36 undef = x36
    generalize tm.getD 37 undef = x37
    generalize tm.getD 38 undef = x38
    generalize tm.getD 39 undef = x39
    generalize tm.getD 40 undef = x40
    generalize tm.getD 41 undef = x41
    generalize tm.getD 42 undef = x42
    generalize tm.getD 43 undef = x43
    generalize tm.getD 44 undef = x44
    generalize tm.getD 45 undef = x45
    generalize tm.getD 46 undef = x46
    generalize tm.getD 47 undef = x47
    generalize tm.getD 48 undef = x48
    generalize tm.getD 49 undef = x49
    generalize tm.getD 50 undef = x50
    generalize tm.getD 51 undef = x51
    generalize tm.getD 52 undef = x52
    generalize tm.getD 53 undef = x53
    generalize tm.getD 54 undef = x54
    generalize tm.getD 55 undef = x55
    generalize tm.getD 56 undef = x56
    generalize tm.getD 57 undef = x57
    generalize tm.getD 58 undef = x58
    generalize tm.getD 59 undef = x59
    generalize tm.getD 60 undef = x60
    generalize tm.getD 61 undef = x61
    generalize tm.getD 62 undef = x62
    generalize tm.getD 63 undef = x63
    generalize tm.getD 64 undef = x64
    generalize tm.getD 65 undef = x65
    generalize tm.getD 66 undef = x66
    generalize tm.getD 67 undef = x67
    generalize tm.getD 68 undef = x68
    generalize tm.getD 69 undef = x69
    generalize tm.getD 70 undef = x70
    generalize tm.getD 71 undef = x71
    generalize tm.getD 72 undef = x72
    generalize tm.getD 73 undef = x73
    generalize tm.getD 74 undef = x74
    generalize tm.getD 75 undef = x75
    generalize tm.getD 76 undef = x76
    generalize tm.getD 77 undef = x77
    generalize tm.getD 78 undef = x78
    generalize tm.getD 79 undef = x79
    generalize tm.getD 80 undef = x80
    generalize tm.getD 81 undef = x81
    generalize tm.getD 82 undef = x82
    generalize tm.getD 83 undef = x83
    generalize tm.getD 84 undef = x84
    generalize tm.getD 85 undef = x85
    generalize tm.getD 86 undef = x86
    generalize tm.getD 87 undef = x87
    generalize tm.getD 88 undef = x88
    generalize tm.getD 89 undef = x89
    generalize tm.getD 90 undef = x90
    generalize tm.getD 91 undef = x91
    generalize tm.getD 92 undef = x92
    generalize tm.getD 93 undef = x93
    generalize tm.getD 94 undef = x94
    generalize tm.getD 95 undef = x95
    generalize tm.getD 96 undef = x96
    generalize tm.getD 97 undef = x97
    generalize tm.getD 98 undef = x98
    generalize tm.getD 99 undef = x99
    generalize tm.getD 100 undef = x100
    generalize tm.getD 101 undef = x101
    generalize tm.getD 102 undef = x102
    generalize tm.getD 103 undef = x103
    generalize tm.getD 104 undef = x104
    generalize tm.getD 105 undef = x105
    generalize tm.getD 106 undef = x106
    generalize tm.getD 107 undef = x107
    generalize tm.getD 108 undef = x108
    generalize tm.getD 109 undef = x109
    generalize tm.getD 110 undef = x110
    generalize tm.getD 111 undef = x111
    generalize tm.getD 112 undef = x112
    generalize tm.getD 113 undef = x113
    generalize tm.getD 114 undef = x114
    generalize tm.getD 115 undef = x115
    generalize tm.getD 116 undef = x116
    generalize tm.getD 117 undef = x117
    generalize tm.getD 118 undef = x118
    generalize tm.getD 119 undef = x119
    generalize tm.getD 120 undef = x120
    generalize tm.getD 121 undef = x121
    generalize tm.getD 122 undef = x122
    generalize tm.getD 123 undef = x123
    generalize tm.getD 124 undef = x124
    generalize tm.getD 125 undef = x125
    generalize tm.getD 126 undef = x126
    generalize tm.getD 127 undef = x127
    generalize tm.getD 128 undef = x128
    generalize tm.getD 129 undef = x129
    generalize tm.getD 130 undef = x130
    generalize tm.getD 131 undef = x131
    generalize tm.getD 132 undef = x132
    generalize tm.getD 133 undef = x133
    generalize tm.getD 134 undef = x134
    generalize tm.getD 135 undef = x135
    generalize tm.getD 136 undef = x136
    generalize tm.getD 137 undef = x137
    generalize tm.getD 138 undef = x138
    generalize tm.getD 139 undef = x139
    generalize tm.getD 140 undef = x140
    generalize tm.getD 141 undef = x141
    generalize tm.getD 142 undef = x142
    generalize tm.getD 143 undef = x143
    generalize tm.getD 144 undef = x144
    generalize tm.getD 145 undef = x145
    generalize tm.getD 146 undef = x146
    generalize tm.getD 147 undef = x147
    generalize tm.getD 148 undef = x148
    generalize tm.getD 149 undef = x149
    generalize tm.getD 150 undef = x150
    generalize tm.getD 151 undef = x151
    generalize tm.getD 152 undef = x152
    generalize tm.getD 153 undef = x153
    generalize tm.getD 154 undef = x154
    generalize tm.getD 155 undef = x155
    generalize tm.getD 156 undef = x156
    generalize tm.getD 157 undef = x157
    generalize tm.getD 158 undef = x158
    generalize tm.getD 159 undef = x159
    generalize tm.getD 160 undef = x160
    generalize tm.getD 161 undef = x161
    generalize tm.getD 162 undef = x162
    generalize tm.getD 163 undef = x163
    generalize tm.getD 164 undef = x164
    generalize tm.getD 165 undef = vc at hrow hob ⊢
    generalize tm.getD 166 undef = x166
    generalize tm.getD 167 undef = x167
    generalize tm.getD 169 undef = x169
    generalize tm.getD 170 undef = x170
    generalize tm.getD 171 undef = x171
    generalize tm.getD 172 undef = x172
    generalize tm.getD 173 undef = x173
    generalize tm.getD 174 undef = x174
    generalize tm.getD 175 undef = x175
    generalize tm.getD 176 undef = x176
    generalize tm.getD 177 undef = x177
    generalize tm.getD 178 undef = x178
    generalize tm.getD 179 undef = x179
    generalize tm.getD 180 undef = x180
    generalize tm.getD 181 undef = x181
    generalize tm.getD 182 undef = x182
    generalize tm.getD 183 undef = x183
    generalize tm.getD 184 undef = x184
    generalize tm.getD 185 undef = x185
    generalize tm.getD 186 undef = x186
    generalize tm.getD 187 undef = x187
    generalize tm.getD 188 undef = x188
    generalize tm.getD 189 undef = x189
    generalize tm.getD 190 undef = x190
    generalize tm.getD 191 undef = x191
    generalize tm.getD 192 undef = x192
    generalize tm.getD 193 undef = x193
    generalize tm.getD 194 undef = x194
    generalize tm.getD 195 undef = x195
    generalize tm.getD 196 undef = x196
    generalize tm.getD 197 undef = x197
    generalize tm.getD 198 undef = x198
    generalize tm.getD 199 undef = x199
    generalize tm.getD 200 undef = x200
    generalize tm.getD 201 undef = x201
    generalize tm.getD 202 undef = x202
    generalize tm.getD 203 undef = x203
    generalize tm.getD 204 undef = x204
    generalize tm.getD 205 undef = x205
    generalize tm.getD 206 undef = x206
    generalize tm.getD 207 undef = x207
    generalize tm.getD 208 undef = x208
    generalize tm.getD 209 undef = x209
    generalize tm.getD 210 undef = x210
    generalize tm.getD 211 undef = x211
    generalize tm.getD 212 undef = x212
    generalize tm.getD 213 undef = x213
    generalize tm.getD 214 undef = x214
    generalize tm.getD 215 undef = x215
    generalize tm.getD 216 undef = x216
    simp only [List.drop_succ_cons, List.drop_zero]
    have hpx := (hp0.keep hPE).drop 0
    clear hPE HT HPA
    obtain ⟨ac, cc, ec, _, _⟩ := row_texts hrow
    have x2 := (blk_cell hpx.blk 2).trans (show (pcells g rv S.now)[2]? = some (rv 0) from rfl)
    have f2 := blk_free hpx.blk 2
    have hst := hp0.fresh HBW.out hpx (by decide) hrow hob
    clear hrow hob hpx hp0 HBW
    obtain ⟨nc, hnc⟩ : ∃ n, n = ((S.L 0).take ii ++ (S.L 0).drop (ii + 1)).length := ⟨_, rfl⟩
    rw [← hnc] at ec
    clear hnc
    subst ec
    simp only [Nat.reduceAdd] at hst
    obtain ⟨S2, hS2⟩ : ∃ S2 : PS, S2 = { S with L := put S.L 0 ((S.L 0).take ii ++ (S.L 0).drop (ii + 1)) } := ⟨_, rfl⟩
    obtain ⟨rv2, hrv2⟩ : ∃ rv2, rv2 = put rv 0 (.slice ac nc cc) := ⟨_, rfl⟩
    have HPB : Hid (PAt W (w4.setCell ⟨p, 2, none⟩ (.slice ac nc cc)) 6 p g mo me rv2 S2) := Lib.hid (by rw [hS2, hrv2]; exact hst)
    have HDB : Hid (DInv R S2 a) := Lib.hid (by rw [hS2]; exact HV.out.cut (k := 0) (k' := 1) (by omega) ii)
    have HLB : Hid (LetIn (S2.L (2 + 1)) (S2.s 1).taken 7 X0) := Lib.hid (by rw [hS2]; exact HLX.out)
    clear hst hS2 hrv2
    go_upto_region 22 with fail
    generalize w4.setCell ⟨p, 2, none⟩ (.slice ac nc cc) = WB at HPB ⊢
    clear x2 f2 d4
  all_goals
    obtain ⟨q1, q2, q3⟩ := HLB.out.size
    have HOK := Lib.hid q3
    clear q3 HLX
    by_cases h5 : m = 5
    case' pos =>
      have d5 : (m == 5) = true := by simpa using h5
      clear h5
      go_upto_region 23 with fail
      obtain ⟨n1, hn1⟩ : ∃ n1, X0.size = n1 + 1 := ⟨X0.size - 1, by omega⟩
      have hs1 : (X0.size : Int) - 1 = (n1 : Int) := by omega
      have hw1 : IntKind.i64.wrap (n1 : Int) = (n1 : Int) := by rw [IntKind.wrap_i64]; omega
      have hlt : n1 < X0.size := by omega
      have hidx : ∀ w : World, (Instr.index 9 (.string X0) (.int .i64 n1)).run Try.prog w = .ok (.int .u8 (X0[n1].toNat)) w := by
        intro w
        rw [run_index_string w 9 X0 .i64 n1 (by kernel_rfl), dif_pos ⟨by omega, by omega⟩]
        simp
      have hsl : ∀ w : World, (Instr.sliceAt 9 (.string X0) none (some (.int .i64 n1)) none).run Try.prog w = .ok (.string (X0.extract 0 n1)) w := by
        intro w
        rw [run_sliceAt_string w 9 _ _ _ _ (by kernel_rfl)]
        simp [Instr.slice, run_underlying (show Try.prog.underlying 9 = some .string by kernel_rfl), Instr.sliceBounds, Instr.sliceBound, asIntOf, show n1 ≤ X0.size from by omega]
      have HN1 := Lib.hid hn1
      generalize hb0 : X0[n1] = b0 at hidx
      have hlast := last_turned hn1 HOK.out b0 hb0
      generalize hbx : bits BinOp.xor IntKind.u8 (b0.toNat : Int) 1 = ex at hlast
      have hdw : (WB.alloc (.cells #[.int .u8 ex] 5)).drew.heap[WB.heap.size]? = some (.cells #[.int .u8 ex] 5 (0, 0)) := blk_new WB _
      have hcv := run_convert_bytes_arg (P := Try.prog) (WB.alloc (.cells #[.int .u8 ex] 5)).drew 34 5 Try.underlying34 Try.underlying5 WB.heap.size 0 1 1 [ex] rfl (fun i hi => by rw [Nat.zero_add]; match i, hi with | 0, _ => exact (blk_cell hdw 0).trans rfl) 9 Try.underlying9
      have hsz1 : (strOfNums [ex]).size = 1 := by
        have := hlast.2
        rw [ByteArray.size_append, ByteArray.size_extract] at this
        omega
      have hmin : min n1 X0.size = n1 := Nat.min_eq_left (by omega)
      have hcat : ¬ 9223372036854775807 < n1 + 1 := by omega
      have HLAST := Lib.hid hlast
      clear hn1 hb0 hlast hdw
      go_region
      have hkb := ((Only.refl (fun _ => False) WB).alloc (.cells #[.int .u8 ex] 5)).drew
      have HPC := Lib.hid (HPB.out.keep hkb)
      generalize (WB.alloc (.cells #[.int .u8 ex] 5)).drew = W5 at HPC ⊢
      obtain ⟨X, hX⟩ : ∃ X, X = X0.extract 0 n1 ++ strOfNums [ex] := ⟨_, rfl⟩
      rw [← hX] at HLAST ⊢
      have HXS : Hid (X.size ≤ 140737488355328) := Lib.hid (by rw [HLAST.out.2]; omega)
      have HXX : Hid (LetIn (S2.L (2 + 1)) (S2.s 1).taken 7 X ∨ ¬ DecOk X) := Lib.hid (.inr HLAST.out.1)
      clear hsz1 hmin hcat hX hkb hcv hbx hidx hsl hw1 hs1 hlt q1 q2 HLAST HPB HLB HOK
      go_upto_region 24 with fail
    case' neg =>
      have d5 : (m == 5) = false := by simpa using h5
      clear h5
      go_upto_region 24 with fail
      obtain ⟨X, hX⟩ : ∃ X, X = X0 := ⟨_, rfl⟩
      have HXS : Hid (X.size ≤ 140737488355328) := Lib.hid (by rw [hX]; omega)
      have HXX : Hid (LetIn (S2.L (2 + 1)) (S2.s 1).taken 7 X ∨ ¬ DecOk X) := Lib.hid (.inl (by rw [hX]; exact HLB.out))
      have HPC := HPB
      rw [← hX]
      generalize WB = W5 at HPC ⊢
      clear hX q1 q2 HPB HLB HOK
  all_goals
    by_cases h3 : m = 3
    case pos =>
      have d3 : (m != 3) = false := by simpa using h3
      clear h3
      go_wp2_with fail
      refine (right_true W W5 p g mo me rv2 S2 HPC.out HDB.out.right (fun i hi => by have := HDB.out.len (by omega) i hi; omega)).mono ?_
      rintro e w6 ⟨rfl, hk6⟩
      have HP6 := Lib.hid (HPC.out.keep hk6)
      clear hk6
      go_wp2_with fail
      go_ret
      exact ⟨_, _, rfl, HP6.out, HDB.out.mono (Nat.le_succ a)⟩
    have d3 : (m != 3) = true := by simpa using h3
    clear h3
    go_upto_region 25 with fail
    have HPA := HPC
    have HPI := Lib.hid (HDB.out.p (k := 0) (by decide))
    have HT : Hid (p1Ph W5 false W5.drew) := Lib.hid (fun _ => (Only.refl _ W5).drew)
    obtain ⟨B, hB⟩ : ∃ B, B = W5.heap.size := ⟨_, rfl⟩
    have HBW : Hid (W5.heap.size = B) := Lib.hid hB.symm
    have HQ : True := trivial
    clear hB
    refine wp_region_phasedk_tail 16 e0tDs e0tNeed e0tGs e0tLate e0tEarly (fun L w' => p1Ph W5 (L 11) w') (fun i w w' => Only (p1St 11 i) w w') (e0tG W B p q g mo me rv2 S2 kd nn tx false X) rfl rfl (by kernel_rfl) (by kernel_rfl) (by kernel_rfl) (by kernel_rfl) (by kernel_rfl) (by kernel_rfl) HT.out e0tG.keep e0tG.guard (fun _ _ => Only.refl _ _) ?_ ?_
    · refine And.intro ?op0 (And.intro ?op1 (And.intro ?op2 (And.intro ?op3 (And.intro ?op4 (And.intro ?op5 (And.intro ?op6 (And.intro ?op7 (And.intro ?op8 (And.intro ?op9 (And.intro ?op10 (And.intro ?op11 (And.intro ?op12 (And.intro ?op13 (And.intro ?op14 (And.intro ?op15 trivial)))))))))))))))
      case op0 =>
        intro L ev w1 hLi hlate hearly hT1 hc hf hfr hG
        rw [if_pos (by decide)]
        have hP : p1Ph W5 (L 11) w1 := hT1
        obtain ⟨hl11, _⟩ := hlate
        rw [hl11] at hP
        have h0 : ev (.tmp 0) = .pointer (some ⟨p, 0, none⟩) := hfr 0 (by decide)
        clear hG hfr
        refine OpSays.value (v := .pointer (some ⟨p, 0, none⟩)) (w' := w1) ?_ ⟨hT1, Only.refl _ _, rfl⟩
        go_simp
      case op1 =>
        intro L ev w1 hLi hlate hearly hT1 hc hf hfr hG
        rw [if_pos (by decide)]
        have hP : p1Ph W5 (L 11) w1 := hT1
        obtain ⟨hl11, _⟩ := hlate
        rw [hl11] at hP
        have h5 : ev (.tmp 5) = .int .i64 0 := hfr 5 (by decide)
        clear hG hfr
        refine OpSays.value (v := .int .i64 0) (w' := w1) ?_ ⟨hT1, Only.refl _ _, rfl⟩
        go_simp
      case op2 =>
        intro L ev w1 hLi hlate hearly hT1 hc hf hfr hG
        rw [if_pos (by decide)]
        have hP : p1Ph W5 (L 11) w1 := hT1
        obtain ⟨hl11, _⟩ := hlate
        rw [hl11] at hP
        have hg : (ev (.tmp 188) = .pointer (some ⟨p, 0, none⟩)) ∧ True := hG
        obtain ⟨g0, _⟩ := hg
        clear hG hfr
        refine OpSays.value (v := .pointer (some ⟨p, 0, none⟩)) (w' := w1) ?_ ⟨hT1, Only.refl _ _, rfl⟩
        go_simp
      case op3 =>
        intro L ev w1 hLi hlate hearly hT1 hc hf hfr hG
        rw [if_pos (by decide)]
        have hP : p1Ph W5 (L 11) w1 := hT1
        obtain ⟨hl11, _⟩ := hlate
        rw [hl11] at hP
        have hg : (ev (.tmp 190) = .pointer (some ⟨p, 0, none⟩)) ∧ True := hG
        obtain ⟨g2, _⟩ := hg
        clear hG hfr
        refine OpSays.value (v := .pointer (some ⟨p, 0, none⟩)) (w' := w1) ?_ ⟨hT1, Only.refl _ _, rfl⟩
        go_simp
      case op4 =>
        intro L ev w1 hLi hlate hearly hT1 hc hf hfr hG
        rw [if_pos (by decide)]
        have hP : p1Ph W5 (L 11) w1 := hT1
        obtain ⟨hl11, _⟩ := hlate
        rw [hl11] at hP
        have hg : (ev (.tmp 189) = .int .i64 0) ∧ (ev (.tmp 191) = .pointer (some ⟨p, 0, none⟩)) ∧ True := hG
        obtain ⟨g1, g3, _⟩ := hg
        clear hG hfr
        refine OpSays.value (v := .pointer (some ⟨p, 0, none⟩)) (w' := w1) ?_ ⟨hT1, Only.refl _ _, rfl⟩
        go_simp
      case op5 =>
        intro L ev w1 hLi hlate hearly hT1 hc hf hfr hG
        rw [if_pos (by decide)]
        have hP : p1Ph W5 (L 11) w1 := hT1
        obtain ⟨hl11, _⟩ := hlate
        rw [hl11] at hP
        have hg : (ev (.tmp 192) = .pointer (some ⟨p, 0, none⟩)) ∧ True := hG
        obtain ⟨g4, _⟩ := hg
        clear hG hfr
        have c : w1.cell? ⟨p, 0, none⟩ = some (.pointer (some ⟨g 0, 0, none⟩)) := (HPA.out.keep (hP rfl)).cEnd (k := 0) (by decide)
        refine OpSays.value (v := .pointer (some ⟨g 0, 0, none⟩)) (w' := w1) ?_ ⟨hT1, Only.refl _ _, rfl⟩
        go_simp
      case op6 =>
        intro L ev w1 hLi hlate hearly hT1 hc hf hfr hG
        rw [if_pos (by decide)]
        have hP : p1Ph W5 (L 11) w1 := hT1
        obtain ⟨hl11, _⟩ := hlate
        rw [hl11] at hP
        have h11 : ev (.tmp 11) = .string X := hfr 11 (by decide)
        clear hG hfr
        refine OpSays.value (v := .string X) (w' := w1) ?_ ⟨hT1, Only.refl _ _, rfl⟩
        go_simp
      case op7 =>
        intro L ev w1 hLi hlate hearly hT1 hc hf hfr hG
        rw [if_pos (by decide)]
        have hP : p1Ph W5 (L 11) w1 := hT1
        obtain ⟨hl11, _⟩ := hlate
        rw [hl11] at hP
        have h0 : ev (.tmp 0) = .pointer (some ⟨p, 0, none⟩) := hfr 0 (by decide)
        clear hG hfr
        refine OpSays.value (v := .pointer (some ⟨p, 0, none⟩)) (w' := w1) ?_ ⟨hT1, Only.refl _ _, rfl⟩
        go_simp
      case op8 =>
        intro L ev w1 hLi hlate hearly hT1 hc hf hfr hG
        rw [if_pos (by decide)]
        have hP : p1Ph W5 (L 11) w1 := hT1
        obtain ⟨hl11, _⟩ := hlate
        rw [hl11] at hP
        have hg : (ev (.tmp 195) = .pointer (some ⟨p, 0, none⟩)) ∧ True := hG
        obtain ⟨g7, _⟩ := hg
        clear hG hfr
        refine OpSays.value (v := .pointer (some ⟨p, 0, none⟩)) (w' := w1) ?_ ⟨hT1, Only.refl _ _, rfl⟩
        go_simp
      case op9 =>
        intro L ev w1 hLi hlate hearly hT1 hc hf hfr hG
        rw [if_pos (by decide)]
        have hP : p1Ph W5 (L 11) w1 := hT1
        obtain ⟨hl11, _⟩ := hlate
        rw [hl11] at hP
        have hg : (ev (.tmp 196) = .pointer (some ⟨p, 0, none⟩)) ∧ True := hG
        obtain ⟨g8, _⟩ := hg
        clear hG hfr
        refine OpSays.value (v := .pointer (some ⟨p, 8, none⟩)) (w' := w1) ?_ ⟨hT1, Only.refl _ _, rfl⟩
        go_simp
      case op10 =>
        intro L ev w1 hLi hlate hearly hT1 hc hf hfr hG
        rw [if_pos (by decide)]
        have hP : p1Ph W5 (L 11) w1 := hT1
        obtain ⟨hl11, _⟩ := hlate
        rw [hl11] at hP
        have hg : (ev (.tmp 197) = .pointer (some ⟨p, 8, none⟩)) ∧ True := hG
        obtain ⟨g9, _⟩ := hg
        clear hG hfr
        have c := (HPA.out.keep (hP rfl)).cNow
        refine OpSays.value (v := .int .i64 S2.now) (w' := w1) ?_ ⟨hT1, Only.refl _ _, rfl⟩
        go_simp
      case op11 =>
        intro L ev w1 hLi hlate hearly hT1 hc hf hfr hG
        rw [if_pos (by decide)]
        have hP : p1Ph W5 (L 11) w1 := hT1
        rw [hLi] at hP
        change OpSays _ _ _ _ (fun v w' => p1Ph W5 (true) w' ∧ _ ∧ _)
        have hg : (ev (.tmp 193) = .pointer (some ⟨g 0, 0, none⟩)) ∧ (ev (.tmp 194) = .string X) ∧ (ev (.tmp 198) = .int .i64 S2.now) ∧ True := hG
        obtain ⟨g5, g6, g10, _⟩ := hg
        clear hG hfr
        have hpa := HPA.out.keep (hP rfl)
        refine OpSays.enter (f := 25) (args := #[.pointer (some ⟨g 0, 0, none⟩), .string X, .int .i64 S2.now]) (w' := w1) ?_ ?_
        · go_simp
        · refine (pair_take hpa (by decide) HPI.out X HXS.out).mono ?_
          rintro e' w2 ⟨v, c, rfl, hrow, hpa2, hk⟩
          exact ⟨_, rfl, fun e => (by cases e), hk.mono (fun _ _ _ => rfl), v, c, rfl, World.ownsRow.mono hrow (by have := (hP rfl).size; have := HBW.out; omega), hpa2⟩
      case op12 =>
        intro L ev w1 hLi hlate hearly hT1 hc hf hfr hG
        rw [if_pos (by decide)]
        have hP : p1Ph W5 (L 11) w1 := hT1
        obtain ⟨he11, _⟩ := hearly
        rw [he11] at hP
        change OpSays _ _ _ _ (fun v w' => p1Ph W5 (L 11) w' ∧ _ ∧ _)
        rw [he11]
        have hg : (∃ (u : Value) (c : Int), ev (.tmp 199) = .tuple #[u, .int .i64 c] ∧ w1.ownsRow B 9 1 u (took (S2.s 0) X S2.now).2.length ((took (S2.s 0) X S2.now).2.map Value.string) ∧ PAt W w1 6 p g mo me rv2 { S2 with s := put S2.s 0 (took (S2.s 0) X S2.now).1 }) ∧ True := hG
        obtain ⟨g11, _⟩ := hg
        clear hG hfr
        obtain ⟨v, c, g11, h1, _⟩ := g11
        refine OpSays.value (v := .tuple #[v, .int .i64 c]) (w' := w1) ?_ ⟨fun e => (by cases e), Only.refl _ _, (by first | rfl | exact he11 | simp [upd, he11]), v, c, rfl, h1⟩
        go_simp
      case op13 =>
        intro L ev w1 hLi hlate hearly hT1 hc hf hfr hG
        rw [if_pos (by decide)]
        have hP : p1Ph W5 (L 11) w1 := hT1
        obtain ⟨he11, _⟩ := hearly
        rw [he11] at hP
        change OpSays _ _ _ _ (fun v w' => p1Ph W5 (L 11) w' ∧ _ ∧ _)
        rw [he11]
        have hg : (L 11 = true ∧ ∃ (u : Value) (c : Int), ev (.tmp 187) = .tuple #[u, .int .i64 c] ∧ w1.ownsRow B 9 1 u (took (S2.s 0) X S2.now).2.length ((took (S2.s 0) X S2.now).2.map Value.string)) ∧ True := hG
        obtain ⟨g12, _⟩ := hg
        clear hG hfr
        obtain ⟨_, v, c, g12, h1⟩ := g12
        refine OpSays.value (v := v) (w' := w1) ?_ ⟨fun e => (by cases e), Only.refl _ _, (by first | rfl | exact he11 | simp [upd, he11]), h1⟩
        go_simp
      case op14 =>
        intro L ev w1 hLi hlate hearly hT1 hc hf hfr hG
        rw [if_pos (by decide)]
        have hP : p1Ph W5 (L 11) w1 := hT1
        obtain ⟨he11, _⟩ := hearly
        rw [he11] at hP
        change OpSays _ _ _ _ (fun v w' => p1Ph W5 (L 11) w' ∧ _ ∧ _)
        rw [he11]
        have hg : (L 11 = true ∧ ∃ (u : Value) (c : Int), ev (.tmp 187) = .tuple #[u, .int .i64 c] ∧ w1.ownsRow B 9 1 u (took (S2.s 0) X S2.now).2.length ((took (S2.s 0) X S2.now).2.map Value.string)) ∧ True := hG
        obtain ⟨g12, _⟩ := hg
        clear hG hfr
        obtain ⟨_, v, c, g12, h1⟩ := g12
        refine OpSays.value (v := .int .i64 c) (w' := w1) ?_ ⟨fun e => (by cases e), Only.refl _ _, c, rfl⟩
        go_simp
      case op15 =>
        intro L ev w1 hLi hlate hearly hT1 hc hf hfr hG
        rw [if_pos (by decide)]
        have hP : p1Ph W5 (L 11) w1 := hT1
        obtain ⟨he11, _⟩ := hearly
        rw [he11] at hP
        change OpSays _ _ _ _ (fun v w' => p1Ph W5 (L 11) w' ∧ _ ∧ _)
        rw [he11]
        have hg : (L 11 = true ∧ w1.ownsRow B 9 1 (ev (.tmp 200)) (took (S2.s 0) X S2.now).2.length ((took (S2.s 0) X S2.now).2.map Value.string)) ∧ True := hG
        obtain ⟨g13, _⟩ := hg
        clear hG hfr
        obtain ⟨_, h1⟩ := g13
        refine OpSays.value (v := ev (.tmp 200)) (w' := w1) ?_ ⟨fun e => (by cases e), Only.refl _ _, (by first | rfl | exact he11 | simp [upd, he11]), h1⟩
        go_simp
    rintro L ⟨tm, df⟩ w6 hL hT1 hsz hdf hfr hG
    have hPE : p1Ph W5 (true) w6 := by
      have hP : p1Ph W5 (L 11) w6 := hT1
      have hm := fun k (hk : k ∈ List.range 16) => AllB.get hL k hk
      rw [hm 11 (by decide)] at hP
      exact hP
    clear hT1 hL
    have k0 : tm.getD 0 undef = .pointer (some ⟨p, 0, none⟩) := hfr 0 (by decide)
    have k3 : tm.getD 3 undef = .pointer (some ⟨q, 0, none⟩) := hfr 3 (by decide)
    have k5 : tm.getD 5 undef = .int .i64 0 := hfr 5 (by decide)
    have k6 : tm.getD 6 undef = .int .i64 m := hfr 6 (by decide)
    obtain ⟨vt0, ct0, _, _, hpt⟩ : ∃ (v : Value) (c : Int), tm.getD 199 undef = .tuple #[v, .int .i64 c] ∧ w6.ownsRow B 9 1 v (took (S2.s 0) X S2.now).2.length ((took (S2.s 0) X S2.now).2.map Value.string) ∧ PAt W w6 6 p g mo me rv2 { S2 with s := put S2.s 0 (took (S2.s 0) X S2.now).1 } := AllG.get hG 11 (by decide)
    obtain ⟨_, hrow⟩ : _ ∧ w6.ownsRow B 9 1 (tm.getD 12 undef) (took (S2.s 0) X S2.now).2.length ((took (S2.s 0) X S2.now).2.map Value.string) := AllG.get hG 15 (by decide)
    obtain ⟨ct, kct⟩ : ∃ c : Int, tm.getD 201 undef = .int .i64 c := AllG.get hG 14 (by decide)
    have he : tm = #[tm.getD 0 undef, tm.getD 1 undef, tm.getD 2 undef, tm.getD 3 undef, tm.getD 4 undef, tm.getD 5 undef, tm.getD 6 undef, tm.getD 7 undef, tm.getD 8 undef, tm.getD 9 undef, tm.getD 10 undef, tm.getD 11 undef, tm.getD 12 undef, tm.getD 13 undef, tm.getD 14 undef, tm.getD 15 undef, tm.getD 16 undef, tm.getD 17 undef, tm.getD 18 undef, tm.getD 19 undef, tm.getD 20 undef, tm.getD 21 undef, tm.getD 22 undef, tm.getD 23 undef, tm.getD 24 undef, tm.getD 25 undef, tm.getD 26 undef, tm.getD 27 undef, tm.getD 28 undef, tm.getD 29 undef, tm.getD 30 undef, tm.getD 31 undef, tm.getD 32 undef, tm.getD 33 undef, tm.getD 34 undef, tm.getD 35 undef, tm.getD 36 undef, tm.getD 37 undef, tm.getD 38 undef, tm.getD 39 undef, tm.getD 40 undef, tm.getD 41 undef, tm.getD 42 undef, tm.getD 43 undef, tm.getD 44 undef, tm.getD 45 undef, tm.getD 46 undef, tm.getD 47 undef, tm.getD 48 undef, tm.getD 49 undef, tm.getD 50 undef, tm.getD 51 undef, tm.getD 52 undef, tm.getD 53 undef, tm.getD 54 undef, tm.getD 55 undef, tm.getD 56 undef, tm.getD 57 undef, tm.getD 58 undef, tm.getD 59 undef, tm.getD 60 undef, tm.getD 61 undef, tm.getD 62 undef, tm.getD 63 undef, tm.getD 64 undef, tm.getD 65 undef, tm.getD 66 undef, tm.getD 67 undef, tm.getD 68 undef, tm.getD 69 undef, tm.getD 70 undef, tm.getD 71 undef, tm.getD 72 undef, tm.getD 73 undef, tm.getD 74 undef, tm.getD 75 undef, tm.getD 76 undef, tm.getD 77 undef, tm.getD 78 undef, tm.getD 79 undef, tm.getD 80 undef, tm.getD 81 undef, tm.getD 82 undef, tm.getD 83 undef, tm.getD 84 undef, tm.getD 85 undef, tm.getD 86 undef, tm.getD 87 undef, tm.getD 88 undef, tm.getD 89 undef, tm.getD 90 undef, tm.getD 91 undef, tm.getD 92 undef, tm.getD 93 undef, tm.getD 94 undef, tm.getD 95 undef, tm.getD 96 undef, tm.getD 97 undef, tm.getD 98 undef, tm.getD 99 undef, tm.getD 100 undef, tm.getD 101 undef, tm.getD 102 undef, tm.getD 103 undef, tm.getD 104 undef, tm.getD 105 undef, tm.getD 106 undef, tm.getD 107 undef, tm.getD 108 undef, tm.getD 109 undef, tm.getD 110 undef, tm.getD 111 undef, tm.getD 112 undef, tm.getD 113 undef, tm.getD 114 undef, tm.getD 115 undef, tm.getD 116 undef, tm.getD 117 undef, tm.getD 118 undef, tm.getD 119 undef, tm.getD 120 undef, tm.getD 121 undef, tm.getD 122 undef, tm.getD 123 undef, tm.getD 124 undef, tm.getD 125 undef, tm.getD 126 undef, tm.getD 127 undef, tm.getD 128 undef, tm.getD 129 undef, tm.getD 130 undef, tm.getD 131 undef, tm.getD 132 undef, tm.getD 133 undef, tm.getD 134 undef, tm.getD 135 undef, tm.getD 136 undef, tm.getD 137 undef, tm.getD 138 undef, tm.getD 139 undef, tm.getD 140 undef, tm.getD 141 undef, tm.getD 142 undef, tm.getD 143 undef, tm.getD 144 undef, tm.getD 145 undef, tm.getD 146 undef, tm.getD 147 undef, tm.getD 148 undef, tm.getD 149 undef, tm.getD 150 undef, tm.getD 151 undef, tm.getD 152 undef, tm.getD 153 undef, tm.getD 154 undef, tm.getD 155 undef, tm.getD 156 undef, tm.getD 157 undef, tm.getD 158 undef, tm.getD 159 undef, tm.getD 160 undef, tm.getD 161 undef, tm.getD 162 undef, tm.getD 163 undef, tm.getD 164 undef, tm.getD 165 undef, tm.getD 166 undef, tm.getD 167 undef, tm.getD 168 undef, tm.getD 169 undef, tm.getD 170 undef, tm.getD 171 undef, tm.getD 172 undef, tm.getD 173 undef, tm.getD 174 undef, tm.getD 175 undef, tm.getD 176 undef, tm.getD 177 undef, tm.getD 178 undef, tm.getD 179 undef, tm.getD 180 undef, tm.getD 181 undef, tm.getD 182 undef, tm.getD 183 undef, tm.getD 184 undef, tm.getD 185 undef, tm.getD 186 undef, tm.getD 187 undef, tm.getD 188 undef, tm.getD 189 undef, tm.getD 190 undef, tm.getD 191 undef, tm.getD 192 undef, tm.getD 193 undef, tm.getD 194 undef, tm.getD 195 undef, tm.getD 196 undef, tm.getD 197 undef, tm.getD 198 undef, tm.getD 199 undef, tm.getD 200 undef, tm.getD 201 undef, tm.getD 202 undef, tm.getD 203 undef, tm.getD 204 undef, tm.getD 205 undef, tm.getD 206 undef, tm.getD 207 undef, tm.getD 208 undef, tm.getD 209 undef, tm.getD 210 undef, tm.getD 211 undef, tm.getD 212 undef, tm.getD 213 undef, tm.getD 214 undef, tm.getD 215 undef, tm.getD 216 undef] := arr_eta (n := 217) hsz
    replace hdf : df = [] := hdf
    subst hdf
    clear hsz hfr hG
    rw [he, kct, k0, k3, k5, k6]
    clear he kct k0 k3 k5 k6
    generalize tm.getD 1 undef = x1
    generalize tm.getD 2 undef = x2
    generalize tm.getD 4 undef = x4
    generalize tm.getD 7 undef = x7
    generalize tm.getD 8 undef = x8
    generalize tm.getD 9 undef = x9
    generalize tm.getD 10 undef = x10
    generalize tm.getD 11 undef = x11
    generalize tm.getD 12 undef = vv at hrow ⊢
    generalize tm.getD 13 undef = x13
    generalize tm.getD 14 undef = x14
    generalize tm.getD 15 undef = x15
    generalize tm.getD 16 undef = x16
    generalize tm.getD 17 undef = x17
    generalize tm.getD 18 undef = x18
    generalize tm.getD 19 undef = x19
    generalize tm.getD 20 undef = x20
    generalize tm.getD 21 undef = x21
    generalize tm.getD 22 undef = x22
    generalize tm.getD 23 undef = x23
    generalize tm.getD 24 undef = x24
    generalize tm.getD 25 undef = x25
    generalize tm.getD 26 undef = x26
    generalize tm.getD 27 undef = x27
    generalize tm.getD 28 undef = x28
    generalize tm.getD 29 undef = x29
    generalize tm.getD 30 undef = x30
    generalize tm.getD 31 undef = x31
    generalize tm.getD 32 undef = x32
    generalize tm.getD 33 undef = x33
    generalize tm.getD 34 undef = x34
    generalize tm.getD 35 undef = x35
    generalize tm.getD 36 undef = x36
    generalize tm.getD 37 undef = x37
    generalize tm.getD 38 undef = x38
    generalize tm.getD 39 undef = x39
    generalize tm.getD 40 undef = x40
    generalize tm.getD 41 undef = x41
    generalize tm.getD 42 undef = x42
    generalize tm.getD 43 undef = x43
    generalize tm.getD 44 undef = x44
    generalize tm.getD 45 undef = x45
    generalize tm.getD 46 undef = x46
    generalize tm.getD 47 undef = x47
    generalize tm.getD 48 undef = x48
    generalize tm.getD 49 undef = x49
    generalize tm.getD 50 undef = x50
    generalize tm.getD 51 undef = x51
    generalize tm.getD 52 undef = x52
    generalize tm.getD 53 undef = x53
    generalize tm.getD 54 undef = x54
    generalize tm.getD 55 undef = x55
    generalize tm.getD 56 undef = x56
    generalize tm.getD 57 undef = x57
    generalize tm.getD 58 undef = x58
    generalize tm.getD 59 undef = x59
    generalize tm.getD 60 undef = x60
    generalize tm.getD 61 undef = x61
    generalize tm.getD 62 undef = x62
    generalize tm.getD 63 undef = x63
    generalize tm.getD 64 undef = x64
    generalize tm.getD 65 undef = x65
    generalize tm.getD 66 undef = x66
    generalize tm.getD 67 undef = x67
    generalize tm.getD 68 undef = x68
    generalize tm.getD 69 undef = x69
    generalize tm.getD 70 undef = x70
    generalize tm.getD 71 undef = x71
    generalize tm.getD 72 undef = x72
    generalize tm.getD 73 undef = x73
    generalize tm.getD 74 undef = x74
    generalize tm.getD 75 undef = x75
    generalize tm.getD 76 undef = x76
    generalize tm.getD 77 undef = x77
    generalize tm.getD 78 undef = x78
    generalize tm.getD 79 undef = x79
    generalize tm.getD 80 undef = x80
    generalize tm.getD 81 undef = x81
    generalize tm.getD 82 undef = x82
    generalize tm.getD 83 undef = x83
    generalize tm.getD 84 undef = x84
    generalize tm.getD 85 undef = x85
    generalize tm.getD 86 undef = x86
    generalize tm.getD 87 undef = x87
    generalize tm.getD 88 undef = x88
    generalize tm.getD 89 undef = x89
    generalize tm.getD 90 undef = x90
    generalize tm.getD 91 undef = x91
    generalize tm.getD 92 undef = x92
    generalize tm.getD 93 undef = x93
    generalize tm.getD 94 undef = x94
    generalize tm.getD 95 undef = x95
    generalize tm.getD 96 undef = x96
    generalize tm.getD 97 undef = x97
    generalize tm.getD 98 undef = x98
    generalize tm.getD 99 undef = x99
    generalize tm.getD 100 undef = x100
    generalize tm.getD 101 undef = x101
    generalize tm.getD 102 undef = x102
    generalize tm.getD 103 undef = x103
    generalize tm.getD 104 undef = x104
    generalize tm.getD 105 undef = x105
    generalize tm.getD 106 undef = x106
    generalize tm.getD 107 undef = x107
    generalize tm.getD 108 undef = x108
    generalize tm.getD 109 undef = x109
    generalize tm.getD 110 undef = x110
    generalize tm.getD 111 undef = x111
    generalize tm.getD 112 undef = x112
    generalize tm.getD 113 undef = x113
    generalize tm.getD 114 undef = x114
    generalize tm.getD 115 undef = x115
    generalize tm.getD 116 undef = x116
    generalize tm.getD 117 undef = x117
    generalize tm.getD 118 undef = x118
    generalize tm.getD 119 undef = x119
    generalize tm.getD 120 undef = x120
    generalize tm.getD 121 undef = x121
    generalize tm.getD 122 undef = x122
    generalize tm.getD 123 undef = x123
    generalize tm.getD 124 undef = x124
    generalize tm.getD 125 undef = x125
    generalize tm.getD 126 undef = x126
    generalize tm.getD 127 undef = x127
    generalize tm.getD 128 undef = x128
    generalize tm.getD 129 undef = x129
    generalize tm.getD 130 undef = x130
    generalize tm.getD 131 undef = x131
    generalize tm.getD 132 undef = x132
    generalize tm.getD 133 undef = x133
    generalize tm.getD 134 undef = x134
    generalize tm.getD 135 undef = x135
    generalize tm.getD 136 undef = x136
    generalize tm.getD 137 undef = x137
    generalize tm.getD 138 undef = x138
    generalize tm.getD 139 undef = x139
    generalize tm.getD 140 undef = x140
    generalize tm.getD 141 undef = x141
    generalize tm.getD 142 undef = x142
    generalize tm.getD 143 undef = x143
    generalize tm.getD 144 undef = x144
    generalize tm.getD 145 undef = x145
    generalize tm.getD 146 undef = x146
    generalize tm.getD 147 undef = x147
    generalize tm.getD 148 undef = x148
    generalize tm.getD 149 undef = x149
    generalize tm.getD 150 undef = x150
    generalize tm.getD 151 undef = x151
    generalize tm.getD 152 undef = x152
    generalize tm.getD 153 undef = x153
    generalize tm.getD 154 undef = x154
    generalize tm.getD 155 undef = x155
    generalize tm.getD 156 undef = x156
    generalize tm.getD 157 undef = x157
    generalize tm.getD 158 undef = x158
    generalize tm.getD 159 undef = x159
    generalize tm.getD 160 undef = x160
    generalize tm.getD 161 undef = x161
    generalize tm.getD 162 undef = x162
    generalize tm.getD 163 undef = x163
    generalize tm.getD 164 undef = x164
    generalize tm.getD 165 undef = x165
    generalize tm.getD 166 undef = x166
    generalize tm.getD 167 undef = x167
    generalize tm.getD 168 undef = x168
    generalize tm.getD 169 undef = x169
    generalize tm.getD 170 undef = x170
    generalize tm.getD 171 undef = x171
    generalize tm.getD 172 undef = x172
    generalize tm.getD 173 undef = x173
    generalize tm.getD 174 undef = x174
    generalize tm.getD 175 undef = x175
    generalize tm.getD 176 undef = x176
    generalize tm.getD 177 undef = x177
    generalize tm.getD 178 undef = x178
    generalize tm.getD 179 undef = x179
    generalize tm.getD 180 undef = x180
    generalize tm.getD 181 undef = x181
    generalize tm.getD 182 undef = x182
    generalize tm.getD 183 undef = x183
    generalize tm.getD 184 undef = x184
    generalize tm.getD 185 undef = x185
    generalize tm.getD 186 undef = x186
    generalize tm.getD 187 undef = x187
    generalize tm.getD 188 undef = x188
    generalize tm.getD 189 undef = x189
    generalize tm.getD 190 undef = x190
    generalize tm.getD 191 undef = x191
    generalize tm.getD 192 undef = x192
    generalize tm.getD 193 undef = x193
    generalize tm.getD 194 undef = x194
    generalize tm.getD 195 undef = x195
    generalize tm.getD 196 undef = x196
    generalize tm.getD 197 undef = x197
    generalize tm.getD 198 undef = x198
    generalize tm.getD 199 undef = x199
    generalize tm.getD 200 undef = x200
    generalize tm.getD 202 undef = x202
    generalize tm.getD 203 undef = x203
    generalize tm.getD 204 undef = x204
    generalize tm.getD 205 undef = x205
    generalize tm.getD 206 undef = x206
    generalize tm.getD 207 undef = x207
    generalize tm.getD 208 undef = x208
    generalize tm.getD 209 undef = x209
    generalize tm.getD 210 undef = x210
    generalize tm.getD 211 undef = x211
    generalize tm.getD 212 undef = x212
    generalize tm.getD 213 undef = x213
    generalize tm.getD 214 undef = x214
    generalize tm.getD 215 undef = x215
    generalize tm.getD 216 undef = x216
    simp only [List.drop_succ_cons, List.drop_zero]
    clear hPE HT HPA HPC HPI HBW
    obtain ⟨S3, hS3⟩ : ∃ S3 : PS, S3 = { S2 with s := put S2.s 0 (took (S2.s 0) X S2.now).1 } := ⟨_, rfl⟩
    rw [← hS3] at hpt
    have HS3 := Lib.hid hS3
    obtain ⟨M, hM⟩ : ∃ M, M = (took (S2.s 0) X S2.now).2 := ⟨_, rfl⟩
    rw [← hM] at hrow
    have HDC : Hid (DInv R { S3 with L := put S3.L 4 (S3.L 4 ++ M) } a) := Lib.hid (by
      rw [hS3, hM]
      rcases HXX.out with h1 | h1
      · exact HDB.out.take (k := 0) (k' := 1) (by omega) X h1
      · have e := PS.take_bad (S := S2) (k := 0) (k' := 1) (by omega) X h1
        have e2 : DInv R S2 a := HDB.out
        rw [← e] at e2
        exact e2)
    have HML : Hid (M.length ≤ 20000) := Lib.hid (by
      have h1 := HDC.out.len (by omega) 4 (by decide)
      have h2 : (S3.L 4 ++ M).length ≤ 20000 := h1
      rw [List.length_append] at h2
      omega)
    have HLN : Hid (∀ i, i < 6 → (S3.L i).length ≤ 20000) := Lib.hid (by rw [hS3]; exact HDB.out.len (by omega))
    have HVV := Lib.hid hrow
    have HPA := Lib.hid hpt
    have hp0 := hpt
    clear hS3 hM hrow hpt
    go_upto_region 26 with fail
    generalize w6 = W7 at *
    have HT : Hid (p1Ph W7 false W7.drew) := Lib.hid (fun _ => (Only.refl _ W7).drew)
    obtain ⟨B, hB⟩ : ∃ B, B = W7.heap.size := ⟨_, rfl⟩
    have HBW : Hid (W7.heap.size = B) := Lib.hid hB.symm
    clear hB
    refine wp_region_phasedk_tail 13 e0bDs e0bNeed e0bGs e0bLate e0bEarly (fun L w' => p1Ph W7 (L 9) w') (fun i w w' => Only (p1St 9 i) w w') (e0bG W B p q g mo me rv2 S3 kd nn tx false vv M) rfl rfl (by kernel_rfl) (by kernel_rfl) (by kernel_rfl) (by kernel_rfl) (by kernel_rfl) (by kernel_rfl) HT.out e0bG.keep e0bG.guard (fun _ _ => Only.refl _ _) ?_ ?_
    · refine And.intro ?op0 (And.intro ?op1 (And.intro ?op2 (And.intro ?op3 (And.intro ?op4 (And.intro ?op5 (And.intro ?op6 (And.intro ?op7 (And.intro ?op8 (And.intro ?op9 (And.intro ?op10 (And.intro ?op11 (And.intro ?op12 trivial))))))))))))
      case op0 =>
        intro L ev w1 hLi hlate hearly hT1 hc hf hfr hG
        rw [if_pos (by decide)]
        have hP : p1Ph W7 (L 9) w1 := hT1
        have h0 : ev (.tmp 0) = .pointer (some ⟨p, 0, none⟩) := hfr 0 (by decide)
        clear hG hfr
        refine OpSays.value (v := .pointer (some ⟨p, 0, none⟩)) (w' := w1) ?_ ⟨hT1, Only.refl _ _, rfl⟩
        go_simp
      case op1 =>
        intro L ev w1 hLi hlate hearly hT1 hc hf hfr hG
        rw [if_pos (by decide)]
        have hP : p1Ph W7 (L 9) w1 := hT1
        have h5 : ev (.tmp 5) = .int .i64 0 := hfr 5 (by decide)
        clear hG hfr
        refine OpSays.value (v := .int .i64 0) (w' := w1) ?_ ⟨hT1, Only.refl _ _, rfl⟩
        go_simp
      case op2 =>
        intro L ev w1 hLi hlate hearly hT1 hc hf hfr hG
        rw [if_pos (by decide)]
        have hP : p1Ph W7 (L 9) w1 := hT1
        obtain ⟨hl9, _⟩ := hlate
        rw [hl9] at hP
        have h0 : ev (.tmp 0) = .pointer (some ⟨p, 0, none⟩) := hfr 0 (by decide)
        clear hG hfr
        refine OpSays.value (v := .pointer (some ⟨p, 0, none⟩)) (w' := w1) ?_ ⟨hT1, Only.refl _ _, rfl⟩
        go_simp
      case op3 =>
        intro L ev w1 hLi hlate hearly hT1 hc hf hfr hG
        rw [if_pos (by decide)]
        have hP : p1Ph W7 (L 9) w1 := hT1
        obtain ⟨hl9, _⟩ := hlate
        rw [hl9] at hP
        have h5 : ev (.tmp 5) = .int .i64 0 := hfr 5 (by decide)
        clear hG hfr
        refine OpSays.value (v := .int .i64 0) (w' := w1) ?_ ⟨hT1, Only.refl _ _, rfl⟩
        go_simp
      case op4 =>
        intro L ev w1 hLi hlate hearly hT1 hc hf hfr hG
        rw [if_pos (by decide)]
        have hP : p1Ph W7 (L 9) w1 := hT1
        obtain ⟨hl9, _⟩ := hlate
        rw [hl9] at hP
        have hg : (ev (.tmp 204) = .pointer (some ⟨p, 0, none⟩)) ∧ True := hG
        obtain ⟨g2, _⟩ := hg
        clear hG hfr
        refine OpSays.value (v := .pointer (some ⟨p, 0, none⟩)) (w' := w1) ?_ ⟨hT1, Only.refl _ _, rfl⟩
        go_simp
      case op5 =>
        intro L ev w1 hLi hlate hearly hT1 hc hf hfr hG
        rw [if_pos (by decide)]
        have hP : p1Ph W7 (L 9) w1 := hT1
        obtain ⟨hl9, _⟩ := hlate
        rw [hl9] at hP
        have hg : (ev (.tmp 206) = .pointer (some ⟨p, 0, none⟩)) ∧ True := hG
        obtain ⟨g4, _⟩ := hg
        clear hG hfr
        refine OpSays.value (v := .pointer (some ⟨p, 6, none⟩)) (w' := w1) ?_ ⟨hT1, Only.refl _ _, rfl⟩
        go_simp
      case op6 =>
        intro L ev w1 hLi hlate hearly hT1 hc hf hfr hG
        rw [if_pos (by decide)]
        have hP : p1Ph W7 (L 9) w1 := hT1
        obtain ⟨hl9, _⟩ := hlate
        rw [hl9] at hP
        have hg : (ev (.tmp 205) = .int .i64 0) ∧ (ev (.tmp 207) = .pointer (some ⟨p, 6, none⟩)) ∧ True := hG
        obtain ⟨g3, g5, _⟩ := hg
        clear hG hfr
        refine OpSays.value (v := .pointer (some ⟨p, 6, none⟩)) (w' := w1) ?_ ⟨hT1, Only.refl _ _, rfl⟩
        go_simp
      case op7 =>
        intro L ev w1 hLi hlate hearly hT1 hc hf hfr hG
        rw [if_pos (by decide)]
        have hP : p1Ph W7 (L 9) w1 := hT1
        obtain ⟨hl9, _⟩ := hlate
        rw [hl9] at hP
        have hg : (ev (.tmp 208) = .pointer (some ⟨p, 6, none⟩)) ∧ True := hG
        obtain ⟨g6, _⟩ := hg
        clear hG hfr
        have c : w1.cell? ⟨p, 6, none⟩ = some (rv2 4) := (HPA.out.keep (hP rfl)).cRow (i := 4) (by decide)
        refine OpSays.value (v := rv2 4) (w' := w1) ?_ ⟨hT1, Only.refl _ _, rfl⟩
        go_simp
      case op8 =>
        intro L ev w1 hLi hlate hearly hT1 hc hf hfr hG
        rw [if_pos (by decide)]
        have hP : p1Ph W7 (L 9) w1 := hT1
        obtain ⟨hl9, _⟩ := hlate
        rw [hl9] at hP
        have h12 : ev (.tmp 12) = vv := hfr 12 (by decide)
        clear hG hfr
        refine OpSays.value (v := vv) (w' := w1) ?_ ⟨hT1, Only.refl _ _, rfl⟩
        go_simp
      case op9 =>
        intro L ev w1 hLi hlate hearly hT1 hc hf hfr hG
        rw [if_pos (by decide)]
        have hP : p1Ph W7 (L 9) w1 := hT1
        rw [hLi] at hP
        change OpSays _ _ _ _ (fun v w' => p1Ph W7 (true) w' ∧ _ ∧ _)
        have hg : (ev (.tmp 209) = rv2 4) ∧ (ev (.tmp 210) = vv) ∧ True := hG
        obtain ⟨g7, g8, _⟩ := hg
        clear hG hfr
        have hpa := HPA.out.keep (hP rfl)
        obtain ⟨v2, w2, hr, h1, h2, h3⟩ := append_texts w1 43 W.heap.size _ vv (S3.L 4) M (hpa.rows 4 (by decide) (by decide)) (row_src (row_keepS HVV.out (hP rfl) (fun _ _ h => h))) hpa.only.size (by have := HLN.out 4 (by decide); have := HML.out; omega)
        refine OpSays.value (v := v2) (w' := w2) ?_ ⟨fun e => (by cases e), (Only.of_grown h2).mono (fun _ _ _ => rfl), h1, fun b hb => (h3 b hb).imp id (fun h => by have := (hP rfl).size; have := HBW.out; omega), hpa.grown (by decide) h2⟩
        unfold execOp
        simp only [resolve, invoke, builtin, Sem.run_bind, Sem.run_pure, Result.andThen_ok, List.map_toArray, List.map_cons, List.map_nil, g7, g8, hr]
      case op10 =>
        intro L ev w1 hLi hlate hearly hT1 hc hf hfr hG
        rw [if_pos (by decide)]
        have hP : p1Ph W7 (L 9) w1 := hT1
        have hg : (ev (.tmp 202) = .pointer (some ⟨p, 0, none⟩)) ∧ True := hG
        obtain ⟨g0, _⟩ := hg
        clear hG hfr
        refine OpSays.value (v := .pointer (some ⟨p, 0, none⟩)) (w' := w1) ?_ ⟨hT1, Only.refl _ _, rfl⟩
        go_simp
      case op11 =>
        intro L ev w1 hLi hlate hearly hT1 hc hf hfr hG
        rw [if_pos (by decide)]
        have hP : p1Ph W7 (L 9) w1 := hT1
        have hg : (ev (.tmp 212) = .pointer (some ⟨p, 0, none⟩)) ∧ True := hG
        obtain ⟨g10, _⟩ := hg
        clear hG hfr
        refine OpSays.value (v := .pointer (some ⟨p, 6, none⟩)) (w' := w1) ?_ ⟨hT1, Only.refl _ _, rfl⟩
        go_simp
      case op12 =>
        intro L ev w1 hLi hlate hearly hT1 hc hf hfr hG
        rw [if_pos (by decide)]
        have hP : p1Ph W7 (L 9) w1 := hT1
        have hg : (ev (.tmp 203) = .int .i64 0) ∧ (ev (.tmp 213) = .pointer (some ⟨p, 6, none⟩)) ∧ True := hG
        obtain ⟨g1, g11, _⟩ := hg
        clear hG hfr
        refine OpSays.value (v := .pointer (some ⟨p, 6, none⟩)) (w' := w1) ?_ ⟨hT1, Only.refl _ _, rfl⟩
        go_simp
    rintro L ⟨tm, df⟩ w8 hL hT1 hsz hdf hfr hG
    have hPE : p1Ph W7 (true) w8 := by
      have hP : p1Ph W7 (L 9) w8 := hT1
      have hm := fun k (hk : k ∈ List.range 13) => AllB.get hL k hk
      rw [hm 9 (by decide)] at hP
      exact hP
    clear hT1 hL
    have k0 : tm.getD 0 undef = .pointer (some ⟨p, 0, none⟩) := hfr 0 (by decide)
    have k3 : tm.getD 3 undef = .pointer (some ⟨q, 0, none⟩) := hfr 3 (by decide)
    have k5 : tm.getD 5 undef = .int .i64 0 := hfr 5 (by decide)
    have k214 : tm.getD 214 undef = .pointer (some ⟨p, 6, none⟩) := AllG.get hG 12 (by decide)
    obtain ⟨hrow, hob, hpx⟩ : w8.ownsRow W.heap.size 9 1 (tm.getD 211 undef) (S3.L 4 ++ M).length ((S3.L 4 ++ M).map Value.string) ∧ (∀ b, (tm.getD 211 undef).ownBlock = some b → (rv2 4).ownBlock = some b ∨ B ≤ b) ∧ PAt W w8 4 p g mo me rv2 S3 := AllG.get hG 9 (by decide)
    have he : tm = #[tm.getD 0 undef, tm.getD 1 undef, tm.getD 2 undef, tm.getD 3 undef, tm.getD 4 undef, tm.getD 5 undef, tm.getD 6 undef, tm.getD 7 undef, tm.getD 8 undef, tm.getD 9 undef, tm.getD 10 undef, tm.getD 11 undef, tm.getD 12 undef, tm.getD 13 undef, tm.getD 14 undef, tm.getD 15 undef, tm.getD 16 undef, tm.getD 17 undef, tm.getD 18 undef, tm.getD 19 undef, tm.getD 20 undef, tm.getD 21 undef, tm.getD 22 undef, tm.getD 23 undef, tm.getD 24 undef, tm.getD 25 undef, tm.getD 26 undef, tm.getD 27 undef, tm.getD 28 undef, tm.getD 29 undef, tm.getD 30 undef, tm.getD 31 undef, tm.getD 32 undef, tm.getD 33 undef, tm.getD 34 undef, tm.getD 35 undef, tm.getD 36 undef, tm.getD 37 undef, tm.getD 38 undef, tm.getD 39 undef, tm.getD 40 undef, tm.getD 41 undef, tm.getD 42 undef, tm.getD 43 undef, tm.getD 44 undef, tm.getD 45 undef, tm.getD 46 undef, tm.getD 47 undef, tm.getD 48 undef, tm.getD 49 undef, tm.getD 50 undef, tm.getD 51 undef, tm.getD 52 undef, tm.getD 53 undef, tm.getD 54 undef, tm.getD 55 undef, tm.getD 56 undef, tm.getD 57 undef, tm.getD 58 undef, tm.getD 59 undef, tm.getD 60 undef, tm.getD 61 undef, tm.getD 62 undef, tm.getD 63 undef, tm.getD 64 undef, tm.getD 65 undef, tm.getD 66 undef, tm.getD 67 undef, tm.getD 68 undef, tm.getD 69 undef, tm.getD 70 undef, tm.getD 71 undef, tm.getD 72 undef, tm.getD 73 undef, tm.getD 74 undef, tm.getD 75 undef, tm.getD 76 undef, tm.getD 77 undef, tm.getD 78 undef, tm.getD 79 undef, tm.getD 80 undef, tm.getD 81 undef, tm.getD 82 undef, tm.getD 83 undef, tm.getD 84 undef, tm.getD 85 undef, tm.getD 86 undef, tm.getD 87 undef, tm.getD 88 undef, tm.getD 89 undef, tm.getD 90 undef, tm.getD 91 undef, tm.getD 92 undef, tm.getD 93 undef, tm.getD 94 undef, tm.getD 95 undef, tm.getD 96 undef, tm.getD 97 undef, tm.getD 98 undef, tm.getD 99 undef, tm.getD 100 undef, tm.getD 101 undef, tm.getD 102 undef, tm.getD 103 undef, tm.getD 104 undef, tm.getD 105 undef, tm.getD 106 undef, tm.getD 107 undef, tm.getD 108 undef, tm.getD 109 undef, tm.getD 110 undef, tm.getD 111 undef, tm.getD 112 undef, tm.getD 113 undef, tm.getD 114 undef, tm.getD 115 undef, tm.getD 116 undef, tm.getD 117 undef, tm.getD 118 undef, tm.getD 119 undef, tm.getD 120 undef, tm.getD 121 undef, tm.getD 122 undef, tm.getD 123 undef, tm.getD 124 undef, tm.getD 125 undef, tm.getD 126 undef, tm.getD 127 undef, tm.getD 128 undef, tm.getD 129 undef, tm.getD 130 undef, tm.getD 131 undef, tm.getD 132 undef, tm.getD 133 undef, tm.getD 134 undef, tm.getD 135 undef, tm.getD 136 undef, tm.getD 137 undef, tm.getD 138 undef, tm.getD 139 undef, tm.getD 140 undef, tm.getD 141 undef, tm.getD 142 undef, tm.getD 143 undef, tm.getD 144 undef, tm.getD 145 undef, tm.getD 146 undef, tm.getD 147 undef, tm.getD 148 undef, tm.getD 149 undef, tm.getD 150 undef, tm.getD 151 undef, tm.getD 152 undef, tm.getD 153 undef, tm.getD 154 undef, tm.getD 155 undef, tm.getD 156 undef, tm.getD 157 undef, tm.getD 158 undef, tm.getD 159 undef, tm.getD 160 undef, tm.getD 161 undef, tm.getD 162 undef, tm.getD 163 undef, tm.getD 164 undef, tm.getD 165 undef, tm.getD 166 undef, tm.getD 167 undef, tm.getD 168 undef, tm.getD 169 undef, tm.getD 170 undef, tm.getD 171 undef, tm.getD 172 undef, tm.getD 173 undef, tm.getD 174 undef, tm.getD 175 undef, tm.getD 176 undef, tm.getD 177 undef, tm.getD 178 undef, tm.getD 179 undef, tm.getD 180 undef, tm.getD 181 undef, tm.getD 182 undef, tm.getD 183 undef, tm.getD 184 undef, tm.getD 185 undef, tm.getD 186 undef, tm.getD 187 undef, tm.getD 188 undef, tm.getD 189 undef, tm.getD 190 undef, tm.getD 191 undef, tm.getD 192 undef, tm.getD 193 undef, tm.getD 194 undef, tm.getD 195 undef, tm.getD 196 undef, tm.getD 197 undef, tm.getD 198 undef, tm.getD 199 undef, tm.getD 200 undef, tm.getD 201 undef, tm.getD 202 undef, tm.getD 203 undef, tm.getD 204 undef, tm.getD 205 undef, tm.getD 206 undef, tm.getD 207 undef, tm.getD 208 undef, tm.getD 209 undef, tm.getD 210 undef, tm.getD 211 undef, tm.getD 212 undef, tm.getD 213 undef, tm.getD 214 undef, tm.getD 215 undef, tm.getD 216 undef] := arr_eta (n := 217) hsz
    replace hdf : df = [] := hdf
    subst hdf
    clear hsz hfr hG
    rw [he, k0, k3, k5, k214]
    clear he k0 k3 k5 k214
    generalize tm.getD 1 undef = x1
    generalize tm.getD 2 undef = x2
    generalize tm.getD 4 undef = x4
    generalize tm.getD 6 undef = x6
    generalize tm.getD 7 undef = x7
    generalize tm.getD 8 undef = x8
    generalize tm.getD 9 undef = x9
    generalize tm.getD 10 undef = x10
    generalize tm.getD 11 undef = x11
    generalize tm.getD 12 undef = x12
    generalize tm.getD 13 undef = x13
    generalize tm.getD 14 undef = x14
    generalize tm.getD 15 undef = x15
    generalize tm.getD 16 undef = x16
    generalize tm.getD 17 undef = x17
    generalize tm.getD 18 undef = x18
    generalize tm.getD 19 undef = x19
    generalize tm.getD 20 undef = x20
    generalize tm.getD 21 undef = x21
    generalize tm.getD 22 undef = x22
    generalize tm.getD 23 undef = x23
    generalize tm.getD 24 undef = x24
    generalize tm.getD 25 undef = x25
    generalize tm.getD 26 undef = x26
    generalize tm.getD 27 undef = x27
    generalize tm.getD 28 undef = x28
    generalize tm.getD 29 undef = x29
    generalize tm.getD 30 undef = x30
    generalize tm.getD 31 undef = x31
    generalize tm.getD 32 undef = x32
    generalize tm.getD 33 undef = x33
    generalize tm.getD 34 undef = x34
    generalize tm.getD 35 undef = x35
    generalize tm.getD 36 undef = x36
    generalize tm.getD 37 undef = x37
    generalize tm.getD 38 undef = x38
    generalize tm.getD 39 undef = x39
    generalize tm.getD 40 undef = x40
    generalize tm.getD 41 undef = x41
    generalize tm.getD 42 undef = x42
    generalize tm.getD 43 undef = x43
    generalize tm.getD 44 undef = x44
    generalize tm.getD 45 undef = x45
    generalize tm.getD 46 undef = x46
    generalize tm.getD 47 undef = x47
    generalize tm.getD 48 undef = x48
    generalize tm.getD 49 undef = x49
    generalize tm.getD 50 undef = x50
    generalize tm.getD 51 undef = x51
    generalize tm.getD 52 undef = x52
    generalize tm.getD 53 undef = x53
    generalize tm.getD 54 undef = x54
    generalize tm.getD 55 undef = x55
    generalize tm.getD 56 undef = x56
    generalize tm.getD 57 undef = x57
    generalize tm.getD 58 undef = x58
    generalize tm.getD 59 undef = x59
    generalize tm.getD 60 undef = x60
    generalize tm.getD 61 undef = x61
    generalize tm.getD 62 undef = x62
    generalize tm.getD 63 undef = x63
    generalize tm.getD 64 undef = x64
    generalize tm.getD 65 undef = x65
    generalize tm.getD 66 undef = x66
    generalize tm.getD 67 undef = x67
    generalize tm.getD 68 undef = x68
    generalize tm.getD 69 undef = x69
    generalize tm.getD 70 undef = x70
    generalize tm.getD 71 undef = x71
    generalize tm.getD 72 undef = x72
    generalize tm.getD 73 undef = x73
    generalize tm.getD 74 undef = x74
    generalize tm.getD 75 undef = x75
    generalize tm.getD 76 undef = x76
    generalize tm.getD 77 undef = x77
    generalize tm.getD 78 undef = x78
    generalize tm.getD 79 undef = x79
    generalize tm.getD 80 undef = x80
    generalize tm.getD 81 undef = x81
    generalize tm.getD 82 undef = x82
    generalize tm.getD 83 undef = x83
    generalize tm.getD 84 undef = x84
    generalize tm.getD 85 undef = x85
    generalize tm.getD 86 undef = x86
    generalize tm.getD 87 undef = x87
    generalize tm.getD 88 undef = x88
    generalize tm.getD 89 undef = x89
    generalize tm.getD 90 undef = x90
    generalize tm.getD 91 undef = x91
    generalize tm.getD 92 undef = x92
    generalize tm.getD 93 undef = x93
    generalize tm.getD 94 undef = x94
    generalize tm.getD 95 undef = x95
    generalize tm.getD 96 undef = x96
    generalize tm.getD 97 undef = x97
    generalize tm.getD 98 undef = x98
    generalize tm.getD 99 undef = x99
    generalize tm.getD 100 undef = x100
    generalize tm.getD 101 undef = x101
    generalize tm.getD 102 undef = x102
    generalize tm.getD 103 undef = x103
    generalize tm.getD 104 undef = x104
    generalize tm.getD 105 undef = x105
    generalize tm.getD 106 undef = x106
    generalize tm.getD 107 undef = x107
    generalize tm.getD 108 undef = x108
    generalize tm.getD 109 undef = x109
    generalize tm.getD 110 undef = x110
    generalize tm.getD 111 undef = x111
    generalize tm.getD 112 undef = x112
    generalize tm.getD 113 undef = x113
    generalize tm.getD 114 undef = x114
    generalize tm.getD 115 undef = x115
    generalize tm.getD 116 undef = x116
    generalize tm.getD 117 undef = x117
    generalize tm.getD 118 undef = x118
    generalize tm.getD 119 undef = x119
    generalize tm.getD 120 undef = x120
    generalize tm.getD 121 undef = x121
    generalize tm.getD 122 undef = x122
    generalize tm.getD 123 undef = x123
    generalize tm.getD 124 undef = x124
    generalize tm.getD 125 undef = x125
    generalize tm.getD 126 undef = x126
    generalize tm.getD 127 undef = x127
    generalize tm.getD 128 undef = x128
    generalize tm.getD 129 undef = x129
    generalize tm.getD 130 undef = x130
    generalize tm.getD 131 undef = x131
    generalize tm.getD 132 undef = x132
    generalize tm.getD 133 undef = x133
    generalize tm.getD 134 undef = x134
    generalize tm.getD 135 undef = x135
    generalize tm.getD 136 undef = x136
    generalize tm.getD 137 undef = x137
    generalize tm.getD 138 undef = x138
    generalize tm.getD 139 undef = x139
    generalize tm.getD 140 undef = x140
    generalize tm.getD 141 undef = x141
    generalize tm.getD 142 undef = x142
    generalize tm.getD 143 undef = x143
    generalize tm.getD 144 undef = x144
    generalize tm.getD 145 undef = x145
    generalize tm.getD 146 undef = x146
    generalize tm.getD 147 undef = x147
    generalize tm.getD 148 undef = x148
    generalize tm.getD 149 undef = x149
    generalize tm.getD 150 undef = x150
    generalize tm.getD 151 undef = x151
    generalize tm.getD 152 undef = x152
    generalize tm.getD 153 undef = x153
    generalize tm.getD 154 undef = x154
    generalize tm.getD 155 undef = x155
    generalize tm.getD 156 undef = x156
    generalize tm.getD 157 undef = x157
    generalize tm.getD 158 undef = x158
    generalize tm.getD 159 undef = x159
    generalize tm.getD 160 undef = x160
    generalize tm.getD 161 undef = x161
    generalize tm.getD 162 undef = x162
    generalize tm.getD 163 undef = x163
    generalize tm.getD 164 undef = x164
    generalize tm.getD 165 undef = x165
    generalize tm.getD 166 undef = x166
    generalize tm.getD 167 undef = x167
    generalize tm.getD 168 undef = x168
    generalize tm.getD 169 undef = x169
    generalize tm.getD 170 undef = x170
    generalize tm.getD 171 undef = x171
    generalize tm.getD 172 undef = x172
    generalize tm.getD 173 undef = x173
    generalize tm.getD 174 undef = x174
    generalize tm.getD 175 undef = x175
    generalize tm.getD 176 undef = x176
    generalize tm.getD 177 undef = x177
    generalize tm.getD 178 undef = x178
    generalize tm.getD 179 undef = x179
    generalize tm.getD 180 undef = x180
    generalize tm.getD 181 undef = x181
    generalize tm.getD 182 undef = x182
    generalize tm.getD 183 undef = x183
    generalize tm.getD 184 undef = x184
    generalize tm.getD 185 undef = x185
    generalize tm.getD 186 undef = x186
    generalize tm.getD 187 undef = x187
    generalize tm.getD 188 undef = x188
    generalize tm.getD 189 undef = x189
    generalize tm.getD 190 undef = x190
    generalize tm.getD 191 undef = x191
    generalize tm.getD 192 undef = x192
    generalize tm.getD 193 undef = x193
    generalize tm.getD 194 undef = x194
    generalize tm.getD 195 undef = x195
    generalize tm.getD 196 undef = x196
    generalize tm.getD 197 undef = x197
    generalize tm.getD 198 undef = x198
    generalize tm.getD 199 undef = x199
    generalize tm.getD 200 undef = x200
    generalize tm.getD 201 undef = x201
    generalize tm.getD 202 undef = x202
    generalize tm.getD 203 undef = x203
    generalize tm.getD 204 undef = x204
    generalize tm.getD 205 undef = x205
    generalize tm.getD 206 undef = x206
    generalize tm.getD 207 undef = x207
    generalize tm.getD 208 undef = x208
    generalize tm.getD 209 undef = x209
    generalize tm.getD 210 undef = x210
    generalize tm.getD 211 undef = vb at hrow hob ⊢
    generalize tm.getD 212 undef = x212
    generalize tm.getD 213 undef = x213
    generalize tm.getD 215 undef = x215
    generalize tm.getD 216 undef = x216
    simp only [List.drop_succ_cons, List.drop_zero]
    clear hPE HT HPA
    obtain ⟨ab, cb, eb, _, _⟩ := row_texts hrow
    have x2 := (blk_cell hpx.blk 6).trans (show (pcells g rv2 S3.now)[6]? = some (rv2 4) from rfl)
    have f2 := blk_free hpx.blk 6
    have hst := hp0.app HBW.out hpx (by decide) hrow hob
    clear hrow hob hpx hp0 HBW
    obtain ⟨nb, hnb⟩ : ∃ n, n = (S3.L 4 ++ M).length := ⟨_, rfl⟩
    rw [← hnb] at eb
    clear hnb
    subst eb
    simp only [Nat.reduceAdd] at hst
    have HST := Lib.hid hst
    clear hst
    go_wp2_with fail
    generalize w8.setCell ⟨p, 6, none⟩ (.slice ab nb cb) = W9 at HST ⊢
    clear x2 f2
    refine (right_true W W9 p g mo me _ _ HST.out HDC.out.right (fun i hi => by have := HDC.out.len (by omega) i hi; omega)).mono ?_
    rintro e w10 ⟨rfl, hk10⟩
    have HP10 := Lib.hid (HST.out.keep hk10)
    clear hk10
    go_wp2_with fail
    go_ret
    exact ⟨_, _, rfl, HP10.out, HDC.out.mono (Nat.le_succ a)⟩

end Go.Proofs.Yteifehienpeaiaa

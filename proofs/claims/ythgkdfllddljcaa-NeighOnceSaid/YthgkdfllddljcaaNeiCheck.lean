/-
  ip.Check at a packet as the laws have it.
  Conditions: numbers are of the kind int, in the packet's bounds.
-/
import Derived.Test.YthgkdfllddljcaaNeiIp
import Derived.Test.YthgkdfllddljcaaFacts
set_option linter.unusedVariables false
set_option linter.unusedSimpArgs false
set_option maxRecDepth 100000
namespace Go.Proofs.Ythgkdfllddljcaa
open Go.RowKit

theorem size_of_alloc (w : World) (o : Obj) : (w.alloc o).heap.size = w.heap.size + 1 := by unfold World.alloc; exact Array.size_push _

theorem within_two (w : World) (q : Nat) (hq : q = w.heap.size) (gr a b : Int) (ha : 0 ≤ a ∧ a ≤ gr) (hb : 0 ≤ b ∧ b ≤ gr) :
    Calls Try.prog 33 #[.int .i64 gr, .slice (some ⟨q, 0, none⟩) 2 2] (w.alloc (.cells #[.int .i64 a, .int .i64 b] 3)) fun e w' => e = .returned (.bool true) ∧ w.alloc (.cells #[.int .i64 a, .int .i64 b] 3) = w' := by
  subst hq
  have hz := blk_new w (.cells #[.int .i64 a, .int .i64 b] 3)
  refine within_any _ gr _ 2 (fun j => if j = 0 then a else b) ?_ ?_ (by decide)
  · intro j hj
    have : j = 0 ∨ j = 1 := by omega
    rcases this with rfl | rfl
    · exact blk_cell hz 0
    · exact blk_cell hz 1
  · intro j hj
    show 0 ≤ (if j = 0 then a else b) ∧ (if j = 0 then a else b) ≤ gr
    split
    · exact ha
    · exact hb

theorem within_one (w : World) (q : Nat) (hq : q = w.heap.size) (gr a : Int) (ha : 0 ≤ a ∧ a ≤ gr) :
    Calls Try.prog 33 #[.int .i64 gr, .slice (some ⟨q, 0, none⟩) 1 1] (w.alloc (.cells #[.int .i64 a] 3)) fun e w' => e = .returned (.bool true) ∧ w.alloc (.cells #[.int .i64 a] 3) = w' := by
  subst hq
  have hz := blk_new w (.cells #[.int .i64 a] 3)
  refine within_any _ gr _ 1 (fun _ => a) ?_ (fun j hj => ha) (by decide)
  intro j hj
  have : j = 0 := by omega
  subst this
  exact blk_cell hz 0

def ikG (W : World) (p : Nat) (to i : Int) : Nat → Value → World → Prop
  | 0, v, w' => v = .bool true
  | 1, v, w' => v = .bool true
  | 2, v, w' => v = .pointer (some ⟨p, 8, none⟩)
  | 3, v, w' => v = .string ⟨#[]⟩
  | 4, v, w' => v = .int .i64 0
  | 5, v, w' => v = .int .i64 0
  | 6, v, w' => v = .bool true
  | 7, v, w' => v = .bool true
  | 8, v, w' => v = .bool true
  | 9, v, w' => v = .pointer (some ⟨p, 8, none⟩)
  | 10, v, w' => v = .string ⟨#[]⟩
  | 11, v, w' => v = .int .i64 0
  | 12, v, w' => v = .bool true
  | 13, v, w' => v = .bool true
  | 14, v, w' => v = .bool true
  | 15, v, w' => v = .pointer (some ⟨p, 9, none⟩)
  | 16, v, w' => v = .string ⟨#[]⟩
  | 17, v, w' => v = .int .i64 0
  | 18, v, w' => v = .agg #[.int .i64 10, .int .i64 to, .int .i64 9, .int .i64 0, .int .i64 i, .int .i64 0, .bool false, .bool false, .string ⟨#[]⟩, .string ⟨#[]⟩]
  | 19, v, w' => v = .int .i64 20
  | 20, v, w' => v = .int .i64 65515
  | 21, v, w' => v = .bool true
  | 22, v, w' => v = .bool true
  | _, _, _ => True
def ikDs : List Nat := [30, 31, 32, 33, 34, 35, 36, 37, 38, 39, 40, 41, 42, 43, 44, 45, 46, 47, 48, 49, 50, 51, 52]
def ikNeed : List (List Nat) := [[], [0], [], [2], [3], [4], [5], [1, 6], [7], [], [9], [10], [11], [8, 12], [13], [], [15], [16], [], [18], [19], [17, 20], [14, 21]]
def ikGs : List (Option Bool) := [none, some true, none, none, none, none, none, none, some true, none, none, none, none, none, some true]
theorem ikG.keep {W : World} {p : Nat} {to i : Int} : ∀ jx v w w', ikG W p to i jx v w → Only (fun _ => False) w w' → ikG W p to i jx v w' := by
  intro jx v w w' h hO
  match jx with
  | 0 => exact h
  | 1 => exact h
  | 2 => exact h
  | 3 => exact h
  | 4 => exact h
  | 5 => exact h
  | 6 => exact h
  | 7 => exact h
  | 8 => exact h
  | 9 => exact h
  | 10 => exact h
  | 11 => exact h
  | 12 => exact h
  | 13 => exact h
  | 14 => exact h
  | 15 => exact h
  | 16 => exact h
  | 17 => exact h
  | 18 => exact h
  | 19 => exact h
  | 20 => exact h
  | 21 => exact h
  | 22 => exact h
  | n + 23 => trivial
theorem ikG.guard {W : World} {p : Nat} {to i : Int} : ∀ g' b', ikGs.getD g' none = some b' → ∀ v w, ikG W p to i g' v w → v = .bool b' := by
  intro g' b' hbb v w hgg
  match g', hbb, hgg with
  | 0, hbb, hgg => cases hbb
  | 1, hbb, hgg => cases hbb; exact hgg
  | 2, hbb, hgg => cases hbb
  | 3, hbb, hgg => cases hbb
  | 4, hbb, hgg => cases hbb
  | 5, hbb, hgg => cases hbb
  | 6, hbb, hgg => cases hbb
  | 7, hbb, hgg => cases hbb
  | 8, hbb, hgg => cases hbb; exact hgg
  | 9, hbb, hgg => cases hbb
  | 10, hbb, hgg => cases hbb
  | 11, hbb, hgg => cases hbb
  | 12, hbb, hgg => cases hbb
  | 13, hbb, hgg => cases hbb
  | 14, hbb, hgg => cases hbb; exact hgg
  | n' + 15, hbb, hgg => exact absurd hbb (by simp [ikGs])

set_option maxHeartbeats 4000000 in
theorem icheck_any (w : World) (to i : Int) (ht : 0 ≤ to ∧ to ≤ 4294967295) (hi : 0 ≤ i ∧ i ≤ 65535) :
    Calls Try.prog 16 #[.agg (pk to i).toArray] w fun e w' => e = .returned (.int .i64 0) ∧ Only (fun _ => False) w w' := by
  have hz := blk_new w (.cells (pk to i).toArray 47)
  have hO := (Only.refl (fun _ => False) w).alloc (.cells (pk to i).toArray 47)
  have z0 := blk_cell hz 0
  have z1 := blk_cell hz 1
  simp only [pk, List.getElem?_toArray, List.getElem?_cons_zero, List.getElem?_cons_succ] at z0 z1 hO hz ⊢
  have HT := Lib.hid ht
  have HI := Lib.hid hi
  clear ht hi
  have HZ := Lib.hid hz
  have HO := Lib.hid hO
  clear hz hO
  go_enter Try.func16, Try.ntmps16
  go_wp2_with fail
  refine (within_two _ _ (size_of_alloc w _).symm 4294967295 10 to ⟨by decide, by decide⟩ HT.out).mono ?_
  rintro e _ ⟨rfl, rfl⟩
  have hz0 := blk_alloc HZ.out (.cells #[.int .i64 10, .int .i64 to] 3)
  have hO0 := HO.out.alloc (.cells #[.int .i64 10, .int .i64 to] 3)
  clear HZ HO z0 z1
  generalize World.alloc (World.alloc w (.cells #[.int .i64 10, .int .i64 to, .int .i64 9, .int .i64 0, .int .i64 i, .int .i64 0, .bool false, .bool false, .string ⟨#[]⟩, .string ⟨#[]⟩] 47)) (.cells #[.int .i64 10, .int .i64 to] 3) = w0 at hz0 hO0 ⊢
  have z2 := blk_cell hz0 2
  have z3 := blk_cell hz0 3
  simp only [List.getElem?_toArray, List.getElem?_cons_zero, List.getElem?_cons_succ] at z2 z3
  have HZ0 := Lib.hid hz0
  have HO0 := Lib.hid hO0
  clear hz0 hO0
  go_wp2_with fail
  refine (within_two _ _ rfl 255 9 0 ⟨by decide, by decide⟩ ⟨by decide, by decide⟩).mono ?_
  rintro e _ ⟨rfl, rfl⟩
  have hz1 := blk_alloc HZ0.out (.cells #[.int .i64 9, .int .i64 0] 3)
  have hO1 := HO0.out.alloc (.cells #[.int .i64 9, .int .i64 0] 3)
  clear HZ0 HO0 z2 z3
  generalize World.alloc (w0) (.cells #[.int .i64 9, .int .i64 0] 3) = w1 at hz1 hO1 ⊢
  have z4 := blk_cell hz1 4
  simp only [List.getElem?_toArray, List.getElem?_cons_zero, List.getElem?_cons_succ] at z4
  have HZ1 := Lib.hid hz1
  have HO1 := Lib.hid hO1
  clear hz1 hO1
  go_wp2_with fail
  refine (within_one _ _ rfl 65535 i HI.out).mono ?_
  rintro e _ ⟨rfl, rfl⟩
  have hz2 := blk_alloc HZ1.out (.cells #[.int .i64 i] 3)
  have hO2 := HO1.out.alloc (.cells #[.int .i64 i] 3)
  clear HZ1 HO1 z4
  generalize World.alloc (w1) (.cells #[.int .i64 i] 3) = w2 at hz2 hO2 ⊢
  have z5 := blk_cell hz2 5
  simp only [List.getElem?_toArray, List.getElem?_cons_zero, List.getElem?_cons_succ] at z5
  have HZ2 := Lib.hid hz2
  have HO2 := Lib.hid hO2
  clear hz2 hO2
  go_wp2_with fail
  refine (within_one _ _ rfl 8191 0 ⟨by decide, by decide⟩).mono ?_
  rintro e _ ⟨rfl, rfl⟩
  have hz3 := blk_alloc HZ2.out (.cells #[.int .i64 0] 3)
  have hO3 := HO2.out.alloc (.cells #[.int .i64 0] 3)
  clear HZ2 HO2 z5
  generalize World.alloc (w2) (.cells #[.int .i64 0] 3) = W at hz3 hO3 ⊢
  have HZ3 := Lib.hid hz3
  have HO3 := Lib.hid hO3
  clear hz3 hO3
  generalize hp : w.heap.size = p at HZ3 ⊢
  go_wp2_with fail
  refine wp_region_facts_tail 23 ikDs ikNeed ikGs (fun w' => w'.heap[p]? = some (.cells #[.int .i64 10, .int .i64 to, .int .i64 9, .int .i64 0, .int .i64 i, .int .i64 0, .bool false, .bool false, .string ⟨#[]⟩, .string ⟨#[]⟩] 47) ∧ Only (fun _ => False) W w') (Only (fun _ => False)) (ikG W p to i) rfl rfl (by kernel_rfl) (by kernel_rfl) (by kernel_rfl) (by kernel_rfl) (by kernel_rfl) ⟨HZ3.out, (Only.refl _ _).drew⟩ ikG.keep ikG.guard ?_ ?_
  · refine And.intro ?op0 (And.intro ?op1 (And.intro ?op2 (And.intro ?op3 (And.intro ?op4 (And.intro ?op5 (And.intro ?op6 (And.intro ?op7 (And.intro ?op8 (And.intro ?op9 (And.intro ?op10 (And.intro ?op11 (And.intro ?op12 (And.intro ?op13 (And.intro ?op14 (And.intro ?op15 (And.intro ?op16 (And.intro ?op17 (And.intro ?op18 (And.intro ?op19 (And.intro ?op20 (And.intro ?op21 (And.intro ?op22 trivial))))))))))))))))))))))
    case op0 =>
      intro ev w1 hT1 hc hf hfr hG
      rw [if_pos (by decide)]
      obtain ⟨hT, hO⟩ := hT1
      have h3 : ev (.tmp 3) = .bool true := hfr 3 (by decide)
      clear hG hfr
      refine OpSays.value (v := .bool true) (w' := w1) ?_ ⟨⟨hT, hO⟩, Only.refl _ _, rfl⟩
      go_simp
    case op1 =>
      intro ev w1 hT1 hc hf hfr hG
      rw [if_pos (by decide)]
      obtain ⟨hT, hO⟩ := hT1
      have hg : (ev (.tmp 30) = .bool true) ∧ True := hG
      obtain ⟨g0, _⟩ := hg
      clear hG hfr
      refine OpSays.value (v := .bool true) (w' := w1) ?_ ⟨⟨hT, hO⟩, Only.refl _ _, rfl⟩
      go_simp
    case op2 =>
      intro ev w1 hT1 hc hf hfr hG
      rw [if_pos (by decide)]
      obtain ⟨hT, hO⟩ := hT1
      have h1 : ev (.tmp 1) = .pointer (some ⟨p, 0, none⟩) := hfr 1 (by decide)
      clear hG hfr
      refine OpSays.value (v := .pointer (some ⟨p, 8, none⟩)) (w' := w1) ?_ ⟨⟨hT, hO⟩, Only.refl _ _, rfl⟩
      go_simp
    case op3 =>
      intro ev w1 hT1 hc hf hfr hG
      rw [if_pos (by decide)]
      obtain ⟨hT, hO⟩ := hT1
      have hg : (ev (.tmp 32) = .pointer (some ⟨p, 8, none⟩)) ∧ True := hG
      obtain ⟨g2, _⟩ := hg
      clear hG hfr
      have c := blk_cell hT 8
      simp only [List.getElem?_toArray, List.getElem?_cons_zero, List.getElem?_cons_succ] at c
      refine OpSays.value (v := .string ⟨#[]⟩) (w' := w1) ?_ ⟨⟨hT, hO⟩, Only.refl _ _, rfl⟩
      go_simp
    case op4 =>
      intro ev w1 hT1 hc hf hfr hG
      rw [if_pos (by decide)]
      obtain ⟨hT, hO⟩ := hT1
      have hg : (ev (.tmp 33) = .string ⟨#[]⟩) ∧ True := hG
      obtain ⟨g3, _⟩ := hg
      clear hG hfr
      refine OpSays.value (v := .int .i64 0) (w' := w1) ?_ ⟨⟨hT, hO⟩, Only.refl _ _, rfl⟩
      go_simp
    case op5 =>
      intro ev w1 hT1 hc hf hfr hG
      rw [if_pos (by decide)]
      obtain ⟨hT, hO⟩ := hT1
      have hg : (ev (.tmp 34) = .int .i64 0) ∧ True := hG
      obtain ⟨g4, _⟩ := hg
      clear hG hfr
      refine OpSays.value (v := .int .i64 0) (w' := w1) ?_ ⟨⟨hT, hO⟩, Only.refl _ _, rfl⟩
      go_simp
    case op6 =>
      intro ev w1 hT1 hc hf hfr hG
      rw [if_pos (by decide)]
      obtain ⟨hT, hO⟩ := hT1
      have hg : (ev (.tmp 35) = .int .i64 0) ∧ True := hG
      obtain ⟨g5, _⟩ := hg
      clear hG hfr
      refine OpSays.value (v := .bool true) (w' := w1) ?_ ⟨⟨hT, hO⟩, Only.refl _ _, rfl⟩
      go_simp
    case op7 =>
      intro ev w1 hT1 hc hf hfr hG
      rw [if_pos (by decide)]
      obtain ⟨hT, hO⟩ := hT1
      have hg : (ev (.tmp 31) = .bool true) ∧ (ev (.tmp 36) = .bool true) ∧ True := hG
      obtain ⟨g1, g6, _⟩ := hg
      clear hG hfr
      refine OpSays.value (v := .bool true) (w' := w1) ?_ ⟨⟨hT, hO⟩, Only.refl _ _, rfl⟩
      go_simp
    case op8 =>
      intro ev w1 hT1 hc hf hfr hG
      rw [if_pos (by decide)]
      obtain ⟨hT, hO⟩ := hT1
      have hg : (ev (.tmp 37) = .bool true) ∧ True := hG
      obtain ⟨g7, _⟩ := hg
      clear hG hfr
      refine OpSays.value (v := .bool true) (w' := w1) ?_ ⟨⟨hT, hO⟩, Only.refl _ _, rfl⟩
      go_simp
    case op9 =>
      intro ev w1 hT1 hc hf hfr hG
      rw [if_pos (by decide)]
      obtain ⟨hT, hO⟩ := hT1
      have h1 : ev (.tmp 1) = .pointer (some ⟨p, 0, none⟩) := hfr 1 (by decide)
      clear hG hfr
      refine OpSays.value (v := .pointer (some ⟨p, 8, none⟩)) (w' := w1) ?_ ⟨⟨hT, hO⟩, Only.refl _ _, rfl⟩
      go_simp
    case op10 =>
      intro ev w1 hT1 hc hf hfr hG
      rw [if_pos (by decide)]
      obtain ⟨hT, hO⟩ := hT1
      have hg : (ev (.tmp 39) = .pointer (some ⟨p, 8, none⟩)) ∧ True := hG
      obtain ⟨g9, _⟩ := hg
      clear hG hfr
      have c := blk_cell hT 8
      simp only [List.getElem?_toArray, List.getElem?_cons_zero, List.getElem?_cons_succ] at c
      refine OpSays.value (v := .string ⟨#[]⟩) (w' := w1) ?_ ⟨⟨hT, hO⟩, Only.refl _ _, rfl⟩
      go_simp
    case op11 =>
      intro ev w1 hT1 hc hf hfr hG
      rw [if_pos (by decide)]
      obtain ⟨hT, hO⟩ := hT1
      have hg : (ev (.tmp 40) = .string ⟨#[]⟩) ∧ True := hG
      obtain ⟨g10, _⟩ := hg
      clear hG hfr
      refine OpSays.value (v := .int .i64 0) (w' := w1) ?_ ⟨⟨hT, hO⟩, Only.refl _ _, rfl⟩
      go_simp
    case op12 =>
      intro ev w1 hT1 hc hf hfr hG
      rw [if_pos (by decide)]
      obtain ⟨hT, hO⟩ := hT1
      have hg : (ev (.tmp 41) = .int .i64 0) ∧ True := hG
      obtain ⟨g11, _⟩ := hg
      clear hG hfr
      refine OpSays.value (v := .bool true) (w' := w1) ?_ ⟨⟨hT, hO⟩, Only.refl _ _, rfl⟩
      go_simp
    case op13 =>
      intro ev w1 hT1 hc hf hfr hG
      rw [if_pos (by decide)]
      obtain ⟨hT, hO⟩ := hT1
      have hg : (ev (.tmp 38) = .bool true) ∧ (ev (.tmp 42) = .bool true) ∧ True := hG
      obtain ⟨g8, g12, _⟩ := hg
      clear hG hfr
      refine OpSays.value (v := .bool true) (w' := w1) ?_ ⟨⟨hT, hO⟩, Only.refl _ _, rfl⟩
      go_simp
    case op14 =>
      intro ev w1 hT1 hc hf hfr hG
      rw [if_pos (by decide)]
      obtain ⟨hT, hO⟩ := hT1
      have hg : (ev (.tmp 43) = .bool true) ∧ True := hG
      obtain ⟨g13, _⟩ := hg
      clear hG hfr
      refine OpSays.value (v := .bool true) (w' := w1) ?_ ⟨⟨hT, hO⟩, Only.refl _ _, rfl⟩
      go_simp
    case op15 =>
      intro ev w1 hT1 hc hf hfr hG
      rw [if_pos (by decide)]
      obtain ⟨hT, hO⟩ := hT1
      have h1 : ev (.tmp 1) = .pointer (some ⟨p, 0, none⟩) := hfr 1 (by decide)
      clear hG hfr
      refine OpSays.value (v := .pointer (some ⟨p, 9, none⟩)) (w' := w1) ?_ ⟨⟨hT, hO⟩, Only.refl _ _, rfl⟩
      go_simp
    case op16 =>
      intro ev w1 hT1 hc hf hfr hG
      rw [if_pos (by decide)]
      obtain ⟨hT, hO⟩ := hT1
      have hg : (ev (.tmp 45) = .pointer (some ⟨p, 9, none⟩)) ∧ True := hG
      obtain ⟨g15, _⟩ := hg
      clear hG hfr
      have c := blk_cell hT 9
      simp only [List.getElem?_toArray, List.getElem?_cons_zero, List.getElem?_cons_succ] at c
      refine OpSays.value (v := .string ⟨#[]⟩) (w' := w1) ?_ ⟨⟨hT, hO⟩, Only.refl _ _, rfl⟩
      go_simp
    case op17 =>
      intro ev w1 hT1 hc hf hfr hG
      rw [if_pos (by decide)]
      obtain ⟨hT, hO⟩ := hT1
      have hg : (ev (.tmp 46) = .string ⟨#[]⟩) ∧ True := hG
      obtain ⟨g16, _⟩ := hg
      clear hG hfr
      refine OpSays.value (v := .int .i64 0) (w' := w1) ?_ ⟨⟨hT, hO⟩, Only.refl _ _, rfl⟩
      go_simp
    case op18 =>
      intro ev w1 hT1 hc hf hfr hG
      rw [if_pos (by decide)]
      obtain ⟨hT, hO⟩ := hT1
      have h1 : ev (.tmp 1) = .pointer (some ⟨p, 0, none⟩) := hfr 1 (by decide)
      clear hG hfr
      have c0 := blk_cell hT 0
      have c1 := blk_cell hT 1
      have c2 := blk_cell hT 2
      have c3 := blk_cell hT 3
      have c4 := blk_cell hT 4
      have c5 := blk_cell hT 5
      have c6 := blk_cell hT 6
      have c7 := blk_cell hT 7
      have c8 := blk_cell hT 8
      have c9 := blk_cell hT 9
      simp only [List.getElem?_toArray, List.getElem?_cons_zero, List.getElem?_cons_succ] at c0 c1 c2 c3 c4 c5 c6 c7 c8 c9
      refine OpSays.value (v := .agg #[.int .i64 10, .int .i64 to, .int .i64 9, .int .i64 0, .int .i64 i, .int .i64 0, .bool false, .bool false, .string ⟨#[]⟩, .string ⟨#[]⟩]) (w' := w1) ?_ ⟨⟨hT, hO⟩, Only.refl _ _, rfl⟩
      go_simp
    case op19 =>
      intro ev w1 hT1 hc hf hfr hG
      rw [if_pos (by decide)]
      obtain ⟨hT, hO⟩ := hT1
      have hg : (ev (.tmp 48) = .agg #[.int .i64 10, .int .i64 to, .int .i64 9, .int .i64 0, .int .i64 i, .int .i64 0, .bool false, .bool false, .string ⟨#[]⟩, .string ⟨#[]⟩]) ∧ True := hG
      obtain ⟨g18, _⟩ := hg
      clear hG hfr
      refine OpSays.enter (f := 34) (args := #[.agg #[.int .i64 10, .int .i64 to, .int .i64 9, .int .i64 0, .int .i64 i, .int .i64 0, .bool false, .bool false, .string ⟨#[]⟩, .string ⟨#[]⟩]]) (w' := w1) ?_ ?_
      · go_simp
      · refine (head_any w1 to i).mono ?_
        rintro e' w2 ⟨rfl, hk⟩
        exact ⟨_, rfl, ⟨hk.at hT (fun h => h), hO.trans hk⟩, hk, rfl⟩
    case op20 =>
      intro ev w1 hT1 hc hf hfr hG
      rw [if_pos (by decide)]
      obtain ⟨hT, hO⟩ := hT1
      have hg : (ev (.tmp 49) = .int .i64 20) ∧ True := hG
      obtain ⟨g19, _⟩ := hg
      clear hG hfr
      have hw : IntKind.i64.wrap 65515 = 65515 := by decide
      refine OpSays.value (v := .int .i64 65515) (w' := w1) ?_ ⟨⟨hT, hO⟩, Only.refl _ _, rfl⟩
      go_simp
    case op21 =>
      intro ev w1 hT1 hc hf hfr hG
      rw [if_pos (by decide)]
      obtain ⟨hT, hO⟩ := hT1
      have hg : (ev (.tmp 47) = .int .i64 0) ∧ (ev (.tmp 50) = .int .i64 65515) ∧ True := hG
      obtain ⟨g17, g20, _⟩ := hg
      clear hG hfr
      refine OpSays.value (v := .bool true) (w' := w1) ?_ ⟨⟨hT, hO⟩, Only.refl _ _, rfl⟩
      go_simp
    case op22 =>
      intro ev w1 hT1 hc hf hfr hG
      rw [if_pos (by decide)]
      obtain ⟨hT, hO⟩ := hT1
      have hg : (ev (.tmp 44) = .bool true) ∧ (ev (.tmp 51) = .bool true) ∧ True := hG
      obtain ⟨g14, g21, _⟩ := hg
      clear hG hfr
      refine OpSays.value (v := .bool true) (w' := w1) ?_ ⟨⟨hT, hO⟩, Only.refl _ _, rfl⟩
      go_simp
  rintro ⟨tm, df⟩ w5 ⟨hT, hO⟩ hsz hdf hfr hG
  have k1 : tm.getD 1 undef = .pointer (some ⟨p, 0, none⟩) := hfr 1 (by decide)
  have k2 : tm.getD 2 undef = .int .i64 0 := hfr 2 (by decide)
  have k52 : tm.getD 52 undef = .bool true := AllG.get hG 22 (by decide)
  have he : tm = #[tm.getD 0 undef, tm.getD 1 undef, tm.getD 2 undef, tm.getD 3 undef, tm.getD 4 undef, tm.getD 5 undef, tm.getD 6 undef, tm.getD 7 undef, tm.getD 8 undef, tm.getD 9 undef, tm.getD 10 undef, tm.getD 11 undef, tm.getD 12 undef, tm.getD 13 undef, tm.getD 14 undef, tm.getD 15 undef, tm.getD 16 undef, tm.getD 17 undef, tm.getD 18 undef, tm.getD 19 undef, tm.getD 20 undef, tm.getD 21 undef, tm.getD 22 undef, tm.getD 23 undef, tm.getD 24 undef, tm.getD 25 undef, tm.getD 26 undef, tm.getD 27 undef, tm.getD 28 undef, tm.getD 29 undef, tm.getD 30 undef, tm.getD 31 undef, tm.getD 32 undef, tm.getD 33 undef, tm.getD 34 undef, tm.getD 35 undef, tm.getD 36 undef, tm.getD 37 undef, tm.getD 38 undef, tm.getD 39 undef, tm.getD 40 undef, tm.getD 41 undef, tm.getD 42 undef, tm.getD 43 undef, tm.getD 44 undef, tm.getD 45 undef, tm.getD 46 undef, tm.getD 47 undef, tm.getD 48 undef, tm.getD 49 undef, tm.getD 50 undef, tm.getD 51 undef, tm.getD 52 undef, tm.getD 53 undef, tm.getD 54 undef, tm.getD 55 undef, tm.getD 56 undef, tm.getD 57 undef, tm.getD 58 undef, tm.getD 59 undef, tm.getD 60 undef, tm.getD 61 undef, tm.getD 62 undef, tm.getD 63 undef, tm.getD 64 undef, tm.getD 65 undef, tm.getD 66 undef, tm.getD 67 undef, tm.getD 68 undef, tm.getD 69 undef, tm.getD 70 undef, tm.getD 71 undef, tm.getD 72 undef, tm.getD 73 undef, tm.getD 74 undef, tm.getD 75 undef, tm.getD 76 undef, tm.getD 77 undef, tm.getD 78 undef, tm.getD 79 undef, tm.getD 80 undef, tm.getD 81 undef, tm.getD 82 undef, tm.getD 83 undef] := arr_eta (n := 84) hsz
  replace hdf : df = [] := hdf
  subst hdf
  clear hsz hfr hG
  rw [he, k1, k2, k52]
  clear he k1 k2 k52
  generalize tm.getD 0 undef = x0
  generalize tm.getD 3 undef = x3
  generalize tm.getD 4 undef = x4
  generalize tm.getD 5 undef = x5
  generalize tm.getD 6 undef = x6
  generalize tm.getD 7 undef = x7
  generalize tm.getD 8 undef = x8
  generalize tm.getD 9 undef = x9
  generalize tm.getD 10 undef = x10
  generalize tm.getD 11 undef = x11
  generalize tm.getD 12 undef = x12
  generalize tm.getD 13 undef = x13
  generalize tm.getD 14 undef = x14
  generalize tm.getD 15 undef = x15
  generalize tm.getD 16 undef = x16
  generalize tm.getD 17 undef = x17
  generalize tm.getD 18 undef = x18
  generalize tm.getD 19 undef = x19
  generalize tm.getD 20 undef = x20
  generalize tm.getD 21 undef = x21
  generalize tm.getD 22 undef = x22
  generalize tm.getD 23 undef = x23
  generalize tm.getD 24 undef = x24
  generalize tm.getD 25 undef = x25
  generalize tm.getD 26 undef = x26
  generalize tm.getD 27 undef = x27
  generalize tm.getD 28 undef = x28
  generalize tm.getD 29 undef = x29
  generalize tm.getD 30 undef = x30
  generalize tm.getD 31 undef = x31
  generalize tm.getD 32 undef = x32
  generalize tm.getD 33 undef = x33
  generalize tm.getD 34 undef = x34
  generalize tm.getD 35 undef = x35
  generalize tm.getD 36 undef = x36
  generalize tm.getD 37 undef = x37
  generalize tm.getD 38 undef = x38
  generalize tm.getD 39 undef = x39
  generalize tm.getD 40 undef = x40
  generalize tm.getD 41 undef = x41
  generalize tm.getD 42 undef = x42
  generalize tm.getD 43 undef = x43
  generalize tm.getD 44 undef = x44
  generalize tm.getD 45 undef = x45
  generalize tm.getD 46 undef = x46
  generalize tm.getD 47 undef = x47
  generalize tm.getD 48 undef = x48
  generalize tm.getD 49 undef = x49
  generalize tm.getD 50 undef = x50
  generalize tm.getD 51 undef = x51
  generalize tm.getD 53 undef = x53
  generalize tm.getD 54 undef = x54
  generalize tm.getD 55 undef = x55
  generalize tm.getD 56 undef = x56
  generalize tm.getD 57 undef = x57
  generalize tm.getD 58 undef = x58
  generalize tm.getD 59 undef = x59
  generalize tm.getD 60 undef = x60
  generalize tm.getD 61 undef = x61
  generalize tm.getD 62 undef = x62
  generalize tm.getD 63 undef = x63
  generalize tm.getD 64 undef = x64
  generalize tm.getD 65 undef = x65
  generalize tm.getD 66 undef = x66
  generalize tm.getD 67 undef = x67
  generalize tm.getD 68 undef = x68
  generalize tm.getD 69 undef = x69
  generalize tm.getD 70 undef = x70
  generalize tm.getD 71 undef = x71
  generalize tm.getD 72 undef = x72
  generalize tm.getD 73 undef = x73
  generalize tm.getD 74 undef = x74
  generalize tm.getD 75 undef = x75
  generalize tm.getD 76 undef = x76
  generalize tm.getD 77 undef = x77
  generalize tm.getD 78 undef = x78
  generalize tm.getD 79 undef = x79
  generalize tm.getD 80 undef = x80
  generalize tm.getD 81 undef = x81
  generalize tm.getD 82 undef = x82
  generalize tm.getD 83 undef = x83
  simp only [List.drop_succ_cons, List.drop_zero]
  have hO5 := HO3.out.trans hO
  have z5 := blk_cell hT 5
  have z6 := blk_cell hT 6
  have z9 := blk_cell hT 9
  simp only [List.getElem?_toArray, List.getElem?_cons_zero, List.getElem?_cons_succ] at z5 z6 z9
  clear hT hO HZ3 HO3
  go_wp2_with fail
  go_ret
  exact ⟨rfl, hO5⟩

end Go.Proofs.Ythgkdfllddljcaa

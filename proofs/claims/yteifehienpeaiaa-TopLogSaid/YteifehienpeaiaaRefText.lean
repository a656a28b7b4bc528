/-
  The bytes of a letter, by the reference.
  Conditions: letters that may be.
-/
import Derived.Test.YteifehienpeaiaaLetText
import Derived.Test.YteifehienpeaiaaFacts
set_option linter.unusedVariables false
set_option linter.unusedSimpArgs false
set_option maxRecDepth 100000
namespace Go.Proofs.Yteifehienpeaiaa
open Go.RowKit

/-- What each operation of the reference's Text leaves. -/
def TextG (p : Nat) (k e r n a : Int) (d : ByteArray) : Nat → Value → World → Prop
  | 0, v, w' => v = .pointer (some ⟨p, 0, none⟩)
  | 1, v, w' => v = .int .i64 k
  | 2, v, w' => v = .int .u8 k
  | 3, v, w' => ∃ g cap, v = .slice (some ⟨g, 0, none⟩) 1 cap ∧ w'.cell? ⟨g, 0, none⟩ = some (.int .u8 k)
  | 4, v, w' => v = .string (textOf 1 k)
  | 5, v, w' => v = .pointer (some ⟨p, 1, none⟩)
  | 6, v, w' => v = .int .i64 e
  | 7, v, w' => v = .string (textOf 4 e)
  | 8, v, w' => v = .string (textOf 1 k ++ textOf 4 e)
  | 9, v, w' => v = .pointer (some ⟨p, 2, none⟩)
  | 10, v, w' => v = .int .i64 r
  | 11, v, w' => v = .int .u8 r
  | 12, v, w' => ∃ g cap, v = .slice (some ⟨g, 0, none⟩) 1 cap ∧ w'.cell? ⟨g, 0, none⟩ = some (.int .u8 r)
  | 13, v, w' => v = .string (textOf 1 r)
  | 14, v, w' => v = .string (textOf 1 k ++ textOf 4 e ++ textOf 1 r)
  | 15, v, w' => v = .pointer (some ⟨p, 3, none⟩)
  | 16, v, w' => v = .int .i64 n
  | 17, v, w' => v = .string (textOf 4 n)
  | 18, v, w' => v = .string (textOf 1 k ++ textOf 4 e ++ textOf 1 r ++ textOf 4 n)
  | 19, v, w' => v = .pointer (some ⟨p, 4, none⟩)
  | 20, v, w' => v = .int .i64 a
  | 21, v, w' => v = .string (textOf 4 a)
  | 22, v, w' => v = .string (textOf 1 k ++ textOf 4 e ++ textOf 1 r ++ textOf 4 n ++ textOf 4 a)
  | 23, v, w' => v = .pointer (some ⟨p, 5, none⟩)
  | 24, v, w' => v = .string d
  | 25, v, w' => v = .int .i64 d.size
  | 26, v, w' => v = .string (textOf 2 d.size)
  | 27, v, w' => v = .string (textOf 1 k ++ textOf 4 e ++ textOf 1 r ++ textOf 4 n ++ textOf 4 a ++ textOf 2 d.size)
  | 28, v, w' => v = .pointer (some ⟨p, 5, none⟩)
  | 29, v, w' => v = .string d
  | 30, v, w' => v = .string (letHead k e r n a d)
  | 31, v, w' => v = .string (letHead k e r n a d)
  | _, _, _ => True
def textDs : List Nat := [5, 6, 7, 8, 9, 10, 11, 12, 13, 14, 15, 16, 17, 18, 19, 20, 21, 22, 23, 24, 25, 26, 27, 28, 29, 30, 31, 32, 33, 34, 35, 3]
def textNeed : List (List Nat) := [[], [0], [1], [2], [3], [], [5], [6], [4, 7], [], [9], [10], [11], [12], [8, 13], [], [15], [16], [14, 17], [], [19], [20], [18, 21], [], [23], [24], [25], [22, 26], [], [28], [27, 29], [30]]
theorem TextG.keep {p : Nat} {k e r n a : Int} {d : ByteArray} : ∀ j v w w', TextG p k e r n a d j v w → Only (fun _ => False) w w' → TextG p k e r n a d j v w' := by
  intro j v w w' h hO
  match j with
  | 0 => exact h
  | 1 => exact h
  | 2 => exact h
  | 3 => obtain ⟨g, cap, hv, hc⟩ := h; exact ⟨g, cap, hv, cell_only hO (fun h => h) hc⟩
  | 4 => exact h
  | 5 => exact h
  | 6 => exact h
  | 7 => exact h
  | 8 => exact h
  | 9 => exact h
  | 10 => exact h
  | 11 => exact h
  | 12 => obtain ⟨g, cap, hv, hc⟩ := h; exact ⟨g, cap, hv, cell_only hO (fun h => h) hc⟩
  | 13 => exact h
  | 14 => exact h
  | 15 => exact h
  | 16 => exact h
  | 17 => exact h
  | 18 => exact h
  | 19 => exact h
  | 20 => exact h
  | 21 => exact h
  | 22 => exact h
  | 23 => exact h
  | 24 => exact h
  | 25 => exact h
  | 26 => exact h
  | 27 => exact h
  | 28 => exact h
  | 29 => exact h
  | 30 => exact h
  | 31 => exact h
  | n + 32 => trivial

set_option maxHeartbeats 4000000 in
theorem rletter_any (k e r n a : Int) (d : ByteArray) (w : World) (h : letterB k e r n a d = true) : Calls Try.prog 41 #[.agg #[.int .i64 k, .int .i64 e, .int .i64 r, .int .i64 n, .int .i64 a, .string d]] w fun e' w' => e' = .returned (.string (letBytes k e r n a d)) ∧ Only (fun _ => False) w w' := by
  obtain ⟨hk0, ⟨e0, e1⟩, ⟨n0, n1⟩, ⟨a0, a1⟩, ⟨r0, r1⟩, d1⟩ := letterB_bounds h
  have k0 : 0 ≤ k := by omega
  have k1 : k < 3 := by omega
  clear h hk0
  have hwk : IntKind.u8.wrap k = k := by unfold IntKind.wrap; simp [IntKind.bits, IntKind.signed]; omega
  have hwr : IntKind.u8.wrap r = r := by unfold IntKind.wrap; simp [IntKind.bits, IntKind.signed]; omega
  have y0 : (textOf 1 k).size ≤ 1 := by rw [textOf_size]; omega
  have y1 : (textOf 4 e).size ≤ 4 := by rw [textOf_size]; omega
  have y2 : (textOf 1 r).size ≤ 1 := by rw [textOf_size]; omega
  have y3 : (textOf 4 n).size ≤ 4 := by rw [textOf_size]; omega
  have y4 : (textOf 4 a).size ≤ 4 := by rw [textOf_size]; omega
  have y5 : (textOf 2 d.size).size ≤ 2 := by rw [textOf_size]; omega
  have s1 : ¬ 9223372036854775807 < (textOf 1 k).size + (textOf 4 e).size := by omega
  have s2 : ¬ 9223372036854775807 < (textOf 1 k).size + (textOf 4 e).size + (textOf 1 r).size := by omega
  have s3 : ¬ 9223372036854775807 < (textOf 1 k).size + (textOf 4 e).size + (textOf 1 r).size + (textOf 4 n).size := by omega
  have s4 : ¬ 9223372036854775807 < (textOf 1 k).size + (textOf 4 e).size + (textOf 1 r).size + (textOf 4 n).size + (textOf 4 a).size := by omega
  have s5 : ¬ 9223372036854775807 < (textOf 1 k).size + (textOf 4 e).size + (textOf 1 r).size + (textOf 4 n).size + (textOf 4 a).size + (textOf 2 d.size).size := by omega
  have s6 : ¬ 9223372036854775807 < (textOf 1 k).size + (textOf 4 e).size + (textOf 1 r).size + (textOf 4 n).size + (textOf 4 a).size + (textOf 2 d.size).size + d.size := by omega
  clear y0 y1 y2 y3 y4 y5
  have hO := (Only.refl (fun _ => False) w).alloc (.cells #[.int .i64 k, .int .i64 e, .int .i64 r, .int .i64 n, .int .i64 a, .string d] 23)
  have hz := blk_new w (.cells #[.int .i64 k, .int .i64 e, .int .i64 r, .int .i64 n, .int .i64 a, .string d] 23)
  have z0 := blk_cell hz 0
  have z1 := blk_cell hz 1
  have z2 := blk_cell hz 2
  have z3 := blk_cell hz 3
  have z4 := blk_cell hz 4
  have z5 := blk_cell hz 5
  simp only [List.getElem?_toArray, List.getElem?_cons_zero, List.getElem?_cons_succ] at z0 z1 z2 z3 z4 z5
  clear hz
  go_enter Try.func41, Try.ntmps41
  go_wp2_with fail
  generalize w.alloc (.cells #[.int .i64 k, .int .i64 e, .int .i64 r, .int .i64 n, .int .i64 a, .string d] 23) = wa at hO z0 z1 z2 z3 z4 z5 ⊢
  generalize w.heap.size = p at z0 z1 z2 z3 z4 z5 ⊢
  refine wp_region_facts textDs textNeed (fun w' => (w'.cell? ⟨p, 0, none⟩ = some (.int .i64 k) ∧ w'.cell? ⟨p, 1, none⟩ = some (.int .i64 e) ∧ w'.cell? ⟨p, 2, none⟩ = some (.int .i64 r) ∧ w'.cell? ⟨p, 3, none⟩ = some (.int .i64 n) ∧ w'.cell? ⟨p, 4, none⟩ = some (.int .i64 a) ∧ w'.cell? ⟨p, 5, none⟩ = some (.string d)) ∧ Only (fun _ => False) w w') (Only (fun _ => False)) (TextG p k e r n a d) rfl (by kernel_rfl) (by kernel_rfl) (by kernel_rfl) ⟨⟨z0, z1, z2, z3, z4, z5⟩, hO.drew⟩ TextG.keep ?_ ?_
  · refine And.intro ?op0 (And.intro ?op1 (And.intro ?op2 (And.intro ?op3 (And.intro ?op4 (And.intro ?op5 (And.intro ?op6 (And.intro ?op7 (And.intro ?op8 (And.intro ?op9 (And.intro ?op10 (And.intro ?op11 (And.intro ?op12 (And.intro ?op13 (And.intro ?op14 (And.intro ?op15 (And.intro ?op16 (And.intro ?op17 (And.intro ?op18 (And.intro ?op19 (And.intro ?op20 (And.intro ?op21 (And.intro ?op22 (And.intro ?op23 (And.intro ?op24 (And.intro ?op25 (And.intro ?op26 (And.intro ?op27 (And.intro ?op28 (And.intro ?op29 (And.intro ?op30 (And.intro ?op31 trivial)))))))))))))))))))))))))))))))
    case op0 =>
      intro ev w1 ⟨⟨z0, z1, z2, z3, z4, z5⟩, hO⟩ hc hf hfr hG
      have h1 : ev (.tmp 1) = .pointer (some ⟨p, 0, none⟩) := hfr 1 (by decide)
      clear hG hfr
      refine OpSays.value (v := .pointer (some ⟨p, 0, none⟩)) (w' := w1) ?_ ⟨⟨⟨z0, z1, z2, z3, z4, z5⟩, hO⟩, Only.refl _ _, rfl⟩
      go_simp
    case op1 =>
      intro ev w1 ⟨⟨z0, z1, z2, z3, z4, z5⟩, hO⟩ hc hf hfr hG
      have hg : (ev (.tmp 5) = .pointer (some ⟨p, 0, none⟩)) ∧ True := hG
      obtain ⟨g0, _⟩ := hg
      clear hG hfr
      refine OpSays.value (v := .int .i64 k) (w' := w1) ?_ ⟨⟨⟨z0, z1, z2, z3, z4, z5⟩, hO⟩, Only.refl _ _, rfl⟩
      go_simp
    case op2 =>
      intro ev w1 ⟨⟨z0, z1, z2, z3, z4, z5⟩, hO⟩ hc hf hfr hG
      have hg : (ev (.tmp 6) = .int .i64 k) ∧ True := hG
      obtain ⟨g1, _⟩ := hg
      clear hG hfr
      refine OpSays.value (v := .int .u8 k) (w' := w1) ?_ ⟨⟨⟨z0, z1, z2, z3, z4, z5⟩, hO⟩, Only.refl _ _, rfl⟩
      go_simp
    case op3 =>
      intro ev w1 ⟨⟨z0, z1, z2, z3, z4, z5⟩, hO⟩ hc hf hfr hG
      have hg : (ev (.tmp 7) = .int .u8 k) ∧ True := hG
      obtain ⟨g2, _⟩ := hg
      clear hG hfr
      refine OpSays.value (v := .slice (some ⟨w1.heap.size, 0, none⟩) 1 1) (w' := w1.alloc (.cells #[.int .u8 k] 5)) ?_ ⟨?_, ?_, ?_⟩
      · go_simp
      · have xz := fun {o y} => cell_only (p := ⟨p, o, none⟩) (v := y) ((Only.refl (fun _ => False) w1).alloc (.cells #[.int .u8 k] 5)) (fun h => h)
        exact ⟨⟨xz z0, xz z1, xz z2, xz z3, xz z4, xz z5⟩, hO.alloc _⟩
      · exact (Only.refl _ _).alloc _
      · exact ⟨_, _, rfl, (blk_cell (blk_new w1 _) 0).trans rfl⟩
    case op4 =>
      intro ev w1 ⟨⟨z0, z1, z2, z3, z4, z5⟩, hO⟩ hc hf hfr hG
      have hg : (∃ g cap, ev (.tmp 8) = .slice (some ⟨g, 0, none⟩) 1 cap ∧ w1.cell? ⟨g, 0, none⟩ = some (.int .u8 k)) ∧ True := hG
      obtain ⟨g3, _⟩ := hg
      clear hG hfr
      obtain ⟨g, cap, gv, gc⟩ := g3
      have hcv := run_convert_bytes_arg (P := Try.prog) w1 34 5 Try.underlying34 Try.underlying5 g 0 1 cap [k] rfl (fun i hi => by rw [Nat.zero_add]; match i, hi with | 0, _ => exact gc) 9 Try.underlying9
      rw [text1 k (by omega) (by omega)] at hcv
      refine OpSays.value (v := .string (textOf 1 k)) (w' := w1) ?_ ⟨⟨⟨z0, z1, z2, z3, z4, z5⟩, hO⟩, Only.refl _ _, rfl⟩
      go_simp
    case op5 =>
      intro ev w1 ⟨⟨z0, z1, z2, z3, z4, z5⟩, hO⟩ hc hf hfr hG
      have h1 : ev (.tmp 1) = .pointer (some ⟨p, 0, none⟩) := hfr 1 (by decide)
      clear hG hfr
      refine OpSays.value (v := .pointer (some ⟨p, 1, none⟩)) (w' := w1) ?_ ⟨⟨⟨z0, z1, z2, z3, z4, z5⟩, hO⟩, Only.refl _ _, rfl⟩
      go_simp
    case op6 =>
      intro ev w1 ⟨⟨z0, z1, z2, z3, z4, z5⟩, hO⟩ hc hf hfr hG
      have hg : (ev (.tmp 10) = .pointer (some ⟨p, 1, none⟩)) ∧ True := hG
      obtain ⟨g5, _⟩ := hg
      clear hG hfr
      refine OpSays.value (v := .int .i64 e) (w' := w1) ?_ ⟨⟨⟨z0, z1, z2, z3, z4, z5⟩, hO⟩, Only.refl _ _, rfl⟩
      go_simp
    case op7 =>
      intro ev w1 ⟨⟨z0, z1, z2, z3, z4, z5⟩, hO⟩ hc hf hfr hG
      have hg : (ev (.tmp 11) = .int .i64 e) ∧ True := hG
      obtain ⟨g6, _⟩ := hg
      clear hG hfr
      refine OpSays.enter (f := 70) (args := #[.int .i64 e, .int .i64 4]) (w' := w1) ?_ ?_
      · go_simp
      · refine (rtext4 e w1 (by omega) (by omega)).mono ?_
        rintro e' w2 ⟨rfl, hk⟩
        have c := fun {o x} => cell_only (p := ⟨p, o, none⟩) (v := x) hk (fun h => h)
        exact ⟨_, rfl, ⟨⟨c z0, c z1, c z2, c z3, c z4, c z5⟩, hO.then hk (fun _ _ h => h)⟩, hk, rfl⟩
    case op8 =>
      intro ev w1 ⟨⟨z0, z1, z2, z3, z4, z5⟩, hO⟩ hc hf hfr hG
      have hg : (ev (.tmp 9) = .string (textOf 1 k)) ∧ (ev (.tmp 12) = .string (textOf 4 e)) ∧ True := hG
      obtain ⟨g4, g7, _⟩ := hg
      clear hG hfr
      refine OpSays.value (v := .string (textOf 1 k ++ textOf 4 e)) (w' := w1) ?_ ⟨⟨⟨z0, z1, z2, z3, z4, z5⟩, hO⟩, Only.refl _ _, rfl⟩
      go_simp
    case op9 =>
      intro ev w1 ⟨⟨z0, z1, z2, z3, z4, z5⟩, hO⟩ hc hf hfr hG
      have h1 : ev (.tmp 1) = .pointer (some ⟨p, 0, none⟩) := hfr 1 (by decide)
      clear hG hfr
      refine OpSays.value (v := .pointer (some ⟨p, 2, none⟩)) (w' := w1) ?_ ⟨⟨⟨z0, z1, z2, z3, z4, z5⟩, hO⟩, Only.refl _ _, rfl⟩
      go_simp
    case op10 =>
      intro ev w1 ⟨⟨z0, z1, z2, z3, z4, z5⟩, hO⟩ hc hf hfr hG
      have hg : (ev (.tmp 14) = .pointer (some ⟨p, 2, none⟩)) ∧ True := hG
      obtain ⟨g9, _⟩ := hg
      clear hG hfr
      refine OpSays.value (v := .int .i64 r) (w' := w1) ?_ ⟨⟨⟨z0, z1, z2, z3, z4, z5⟩, hO⟩, Only.refl _ _, rfl⟩
      go_simp
    case op11 =>
      intro ev w1 ⟨⟨z0, z1, z2, z3, z4, z5⟩, hO⟩ hc hf hfr hG
      have hg : (ev (.tmp 15) = .int .i64 r) ∧ True := hG
      obtain ⟨g10, _⟩ := hg
      clear hG hfr
      refine OpSays.value (v := .int .u8 r) (w' := w1) ?_ ⟨⟨⟨z0, z1, z2, z3, z4, z5⟩, hO⟩, Only.refl _ _, rfl⟩
      go_simp
    case op12 =>
      intro ev w1 ⟨⟨z0, z1, z2, z3, z4, z5⟩, hO⟩ hc hf hfr hG
      have hg : (ev (.tmp 16) = .int .u8 r) ∧ True := hG
      obtain ⟨g11, _⟩ := hg
      clear hG hfr
      refine OpSays.value (v := .slice (some ⟨w1.heap.size, 0, none⟩) 1 1) (w' := w1.alloc (.cells #[.int .u8 r] 5)) ?_ ⟨?_, ?_, ?_⟩
      · go_simp
      · have xz := fun {o y} => cell_only (p := ⟨p, o, none⟩) (v := y) ((Only.refl (fun _ => False) w1).alloc (.cells #[.int .u8 r] 5)) (fun h => h)
        exact ⟨⟨xz z0, xz z1, xz z2, xz z3, xz z4, xz z5⟩, hO.alloc _⟩
      · exact (Only.refl _ _).alloc _
      · exact ⟨_, _, rfl, (blk_cell (blk_new w1 _) 0).trans rfl⟩
    case op13 =>
      intro ev w1 ⟨⟨z0, z1, z2, z3, z4, z5⟩, hO⟩ hc hf hfr hG
      have hg : (∃ g cap, ev (.tmp 17) = .slice (some ⟨g, 0, none⟩) 1 cap ∧ w1.cell? ⟨g, 0, none⟩ = some (.int .u8 r)) ∧ True := hG
      obtain ⟨g12, _⟩ := hg
      clear hG hfr
      obtain ⟨g, cap, gv, gc⟩ := g12
      have hcv := run_convert_bytes_arg (P := Try.prog) w1 34 5 Try.underlying34 Try.underlying5 g 0 1 cap [r] rfl (fun i hi => by rw [Nat.zero_add]; match i, hi with | 0, _ => exact gc) 9 Try.underlying9
      rw [text1 r (by omega) (by omega)] at hcv
      refine OpSays.value (v := .string (textOf 1 r)) (w' := w1) ?_ ⟨⟨⟨z0, z1, z2, z3, z4, z5⟩, hO⟩, Only.refl _ _, rfl⟩
      go_simp
    case op14 =>
      intro ev w1 ⟨⟨z0, z1, z2, z3, z4, z5⟩, hO⟩ hc hf hfr hG
      have hg : (ev (.tmp 13) = .string (textOf 1 k ++ textOf 4 e)) ∧ (ev (.tmp 18) = .string (textOf 1 r)) ∧ True := hG
      obtain ⟨g8, g13, _⟩ := hg
      clear hG hfr
      refine OpSays.value (v := .string (textOf 1 k ++ textOf 4 e ++ textOf 1 r)) (w' := w1) ?_ ⟨⟨⟨z0, z1, z2, z3, z4, z5⟩, hO⟩, Only.refl _ _, rfl⟩
      go_simp
    case op15 =>
      intro ev w1 ⟨⟨z0, z1, z2, z3, z4, z5⟩, hO⟩ hc hf hfr hG
      have h1 : ev (.tmp 1) = .pointer (some ⟨p, 0, none⟩) := hfr 1 (by decide)
      clear hG hfr
      refine OpSays.value (v := .pointer (some ⟨p, 3, none⟩)) (w' := w1) ?_ ⟨⟨⟨z0, z1, z2, z3, z4, z5⟩, hO⟩, Only.refl _ _, rfl⟩
      go_simp
    case op16 =>
      intro ev w1 ⟨⟨z0, z1, z2, z3, z4, z5⟩, hO⟩ hc hf hfr hG
      have hg : (ev (.tmp 20) = .pointer (some ⟨p, 3, none⟩)) ∧ True := hG
      obtain ⟨g15, _⟩ := hg
      clear hG hfr
      refine OpSays.value (v := .int .i64 n) (w' := w1) ?_ ⟨⟨⟨z0, z1, z2, z3, z4, z5⟩, hO⟩, Only.refl _ _, rfl⟩
      go_simp
    case op17 =>
      intro ev w1 ⟨⟨z0, z1, z2, z3, z4, z5⟩, hO⟩ hc hf hfr hG
      have hg : (ev (.tmp 21) = .int .i64 n) ∧ True := hG
      obtain ⟨g16, _⟩ := hg
      clear hG hfr
      refine OpSays.enter (f := 70) (args := #[.int .i64 n, .int .i64 4]) (w' := w1) ?_ ?_
      · go_simp
      · refine (rtext4 n w1 (by omega) (by omega)).mono ?_
        rintro e' w2 ⟨rfl, hk⟩
        have c := fun {o x} => cell_only (p := ⟨p, o, none⟩) (v := x) hk (fun h => h)
        exact ⟨_, rfl, ⟨⟨c z0, c z1, c z2, c z3, c z4, c z5⟩, hO.then hk (fun _ _ h => h)⟩, hk, rfl⟩
    case op18 =>
      intro ev w1 ⟨⟨z0, z1, z2, z3, z4, z5⟩, hO⟩ hc hf hfr hG
      have hg : (ev (.tmp 19) = .string (textOf 1 k ++ textOf 4 e ++ textOf 1 r)) ∧ (ev (.tmp 22) = .string (textOf 4 n)) ∧ True := hG
      obtain ⟨g14, g17, _⟩ := hg
      clear hG hfr
      refine OpSays.value (v := .string (textOf 1 k ++ textOf 4 e ++ textOf 1 r ++ textOf 4 n)) (w' := w1) ?_ ⟨⟨⟨z0, z1, z2, z3, z4, z5⟩, hO⟩, Only.refl _ _, rfl⟩
      go_simp
    case op19 =>
      intro ev w1 ⟨⟨z0, z1, z2, z3, z4, z5⟩, hO⟩ hc hf hfr hG
      have h1 : ev (.tmp 1) = .pointer (some ⟨p, 0, none⟩) := hfr 1 (by decide)
      clear hG hfr
      refine OpSays.value (v := .pointer (some ⟨p, 4, none⟩)) (w' := w1) ?_ ⟨⟨⟨z0, z1, z2, z3, z4, z5⟩, hO⟩, Only.refl _ _, rfl⟩
      go_simp
    case op20 =>
      intro ev w1 ⟨⟨z0, z1, z2, z3, z4, z5⟩, hO⟩ hc hf hfr hG
      have hg : (ev (.tmp 24) = .pointer (some ⟨p, 4, none⟩)) ∧ True := hG
      obtain ⟨g19, _⟩ := hg
      clear hG hfr
      refine OpSays.value (v := .int .i64 a) (w' := w1) ?_ ⟨⟨⟨z0, z1, z2, z3, z4, z5⟩, hO⟩, Only.refl _ _, rfl⟩
      go_simp
    case op21 =>
      intro ev w1 ⟨⟨z0, z1, z2, z3, z4, z5⟩, hO⟩ hc hf hfr hG
      have hg : (ev (.tmp 25) = .int .i64 a) ∧ True := hG
      obtain ⟨g20, _⟩ := hg
      clear hG hfr
      refine OpSays.enter (f := 70) (args := #[.int .i64 a, .int .i64 4]) (w' := w1) ?_ ?_
      · go_simp
      · refine (rtext4 a w1 (by omega) (by omega)).mono ?_
        rintro e' w2 ⟨rfl, hk⟩
        have c := fun {o x} => cell_only (p := ⟨p, o, none⟩) (v := x) hk (fun h => h)
        exact ⟨_, rfl, ⟨⟨c z0, c z1, c z2, c z3, c z4, c z5⟩, hO.then hk (fun _ _ h => h)⟩, hk, rfl⟩
    case op22 =>
      intro ev w1 ⟨⟨z0, z1, z2, z3, z4, z5⟩, hO⟩ hc hf hfr hG
      have hg : (ev (.tmp 23) = .string (textOf 1 k ++ textOf 4 e ++ textOf 1 r ++ textOf 4 n)) ∧ (ev (.tmp 26) = .string (textOf 4 a)) ∧ True := hG
      obtain ⟨g18, g21, _⟩ := hg
      clear hG hfr
      refine OpSays.value (v := .string (textOf 1 k ++ textOf 4 e ++ textOf 1 r ++ textOf 4 n ++ textOf 4 a)) (w' := w1) ?_ ⟨⟨⟨z0, z1, z2, z3, z4, z5⟩, hO⟩, Only.refl _ _, rfl⟩
      go_simp
    case op23 =>
      intro ev w1 ⟨⟨z0, z1, z2, z3, z4, z5⟩, hO⟩ hc hf hfr hG
      have h1 : ev (.tmp 1) = .pointer (some ⟨p, 0, none⟩) := hfr 1 (by decide)
      clear hG hfr
      refine OpSays.value (v := .pointer (some ⟨p, 5, none⟩)) (w' := w1) ?_ ⟨⟨⟨z0, z1, z2, z3, z4, z5⟩, hO⟩, Only.refl _ _, rfl⟩
      go_simp
    case op24 =>
      intro ev w1 ⟨⟨z0, z1, z2, z3, z4, z5⟩, hO⟩ hc hf hfr hG
      have hg : (ev (.tmp 28) = .pointer (some ⟨p, 5, none⟩)) ∧ True := hG
      obtain ⟨g23, _⟩ := hg
      clear hG hfr
      refine OpSays.value (v := .string d) (w' := w1) ?_ ⟨⟨⟨z0, z1, z2, z3, z4, z5⟩, hO⟩, Only.refl _ _, rfl⟩
      go_simp
    case op25 =>
      intro ev w1 ⟨⟨z0, z1, z2, z3, z4, z5⟩, hO⟩ hc hf hfr hG
      have hg : (ev (.tmp 29) = .string d) ∧ True := hG
      obtain ⟨g24, _⟩ := hg
      clear hG hfr
      refine OpSays.value (v := .int .i64 d.size) (w' := w1) ?_ ⟨⟨⟨z0, z1, z2, z3, z4, z5⟩, hO⟩, Only.refl _ _, rfl⟩
      go_simp
    case op26 =>
      intro ev w1 ⟨⟨z0, z1, z2, z3, z4, z5⟩, hO⟩ hc hf hfr hG
      have hg : (ev (.tmp 30) = .int .i64 d.size) ∧ True := hG
      obtain ⟨g25, _⟩ := hg
      clear hG hfr
      refine OpSays.enter (f := 70) (args := #[.int .i64 d.size, .int .i64 2]) (w' := w1) ?_ ?_
      · go_simp
      · refine (rtext2 (d.size : Int) w1 (by omega) (by omega)).mono ?_
        rintro e' w2 ⟨rfl, hk⟩
        have c := fun {o x} => cell_only (p := ⟨p, o, none⟩) (v := x) hk (fun h => h)
        exact ⟨_, rfl, ⟨⟨c z0, c z1, c z2, c z3, c z4, c z5⟩, hO.then hk (fun _ _ h => h)⟩, hk, rfl⟩
    case op27 =>
      intro ev w1 ⟨⟨z0, z1, z2, z3, z4, z5⟩, hO⟩ hc hf hfr hG
      have hg : (ev (.tmp 27) = .string (textOf 1 k ++ textOf 4 e ++ textOf 1 r ++ textOf 4 n ++ textOf 4 a)) ∧ (ev (.tmp 31) = .string (textOf 2 d.size)) ∧ True := hG
      obtain ⟨g22, g26, _⟩ := hg
      clear hG hfr
      refine OpSays.value (v := .string (textOf 1 k ++ textOf 4 e ++ textOf 1 r ++ textOf 4 n ++ textOf 4 a ++ textOf 2 d.size)) (w' := w1) ?_ ⟨⟨⟨z0, z1, z2, z3, z4, z5⟩, hO⟩, Only.refl _ _, rfl⟩
      go_simp
    case op28 =>
      intro ev w1 ⟨⟨z0, z1, z2, z3, z4, z5⟩, hO⟩ hc hf hfr hG
      have h1 : ev (.tmp 1) = .pointer (some ⟨p, 0, none⟩) := hfr 1 (by decide)
      clear hG hfr
      refine OpSays.value (v := .pointer (some ⟨p, 5, none⟩)) (w' := w1) ?_ ⟨⟨⟨z0, z1, z2, z3, z4, z5⟩, hO⟩, Only.refl _ _, rfl⟩
      go_simp
    case op29 =>
      intro ev w1 ⟨⟨z0, z1, z2, z3, z4, z5⟩, hO⟩ hc hf hfr hG
      have hg : (ev (.tmp 33) = .pointer (some ⟨p, 5, none⟩)) ∧ True := hG
      obtain ⟨g28, _⟩ := hg
      clear hG hfr
      refine OpSays.value (v := .string d) (w' := w1) ?_ ⟨⟨⟨z0, z1, z2, z3, z4, z5⟩, hO⟩, Only.refl _ _, rfl⟩
      go_simp
    case op30 =>
      intro ev w1 ⟨⟨z0, z1, z2, z3, z4, z5⟩, hO⟩ hc hf hfr hG
      have hg : (ev (.tmp 32) = .string (textOf 1 k ++ textOf 4 e ++ textOf 1 r ++ textOf 4 n ++ textOf 4 a ++ textOf 2 d.size)) ∧ (ev (.tmp 34) = .string d) ∧ True := hG
      obtain ⟨g27, g29, _⟩ := hg
      clear hG hfr
      refine OpSays.value (v := .string (letHead k e r n a d)) (w' := w1) ?_ ⟨⟨⟨z0, z1, z2, z3, z4, z5⟩, hO⟩, Only.refl _ _, rfl⟩
      rw [show letHead k e r n a d = textOf 1 k ++ textOf 4 e ++ textOf 1 r ++ textOf 4 n ++ textOf 4 a ++ textOf 2 d.size ++ d from rfl]
      go_simp
    case op31 =>
      intro ev w1 ⟨⟨z0, z1, z2, z3, z4, z5⟩, hO⟩ hc hf hfr hG
      have hg : (ev (.tmp 35) = .string (letHead k e r n a d)) ∧ True := hG
      obtain ⟨g30, _⟩ := hg
      clear hG hfr
      refine OpSays.value (v := .string (letHead k e r n a d)) (w' := w1) ?_ ⟨⟨⟨z0, z1, z2, z3, z4, z5⟩, hO⟩, Only.refl _ _, rfl⟩
      go_simp
  rintro ⟨tm, df⟩ wn ⟨_, hO2⟩ hsz hdf hfr hG
  have g3 : tm.getD 3 undef = .string (letHead k e r n a d) := AllG.get hG 31 (by decide)
  have he : tm = #[tm.getD 0 undef, tm.getD 1 undef, tm.getD 2 undef, tm.getD 3 undef, tm.getD 4 undef, tm.getD 5 undef, tm.getD 6 undef, tm.getD 7 undef, tm.getD 8 undef, tm.getD 9 undef, tm.getD 10 undef, tm.getD 11 undef, tm.getD 12 undef, tm.getD 13 undef, tm.getD 14 undef, tm.getD 15 undef, tm.getD 16 undef, tm.getD 17 undef, tm.getD 18 undef, tm.getD 19 undef, tm.getD 20 undef, tm.getD 21 undef, tm.getD 22 undef, tm.getD 23 undef, tm.getD 24 undef, tm.getD 25 undef, tm.getD 26 undef, tm.getD 27 undef, tm.getD 28 undef, tm.getD 29 undef, tm.getD 30 undef, tm.getD 31 undef, tm.getD 32 undef, tm.getD 33 undef, tm.getD 34 undef, tm.getD 35 undef, tm.getD 36 undef, tm.getD 37 undef, tm.getD 38 undef, tm.getD 39 undef, tm.getD 40 undef, tm.getD 41 undef, tm.getD 42 undef, tm.getD 43 undef, tm.getD 44 undef, tm.getD 45 undef, tm.getD 46 undef, tm.getD 47 undef, tm.getD 48 undef, tm.getD 49 undef, tm.getD 50 undef, tm.getD 51 undef, tm.getD 52 undef] := arr_eta (n := 53) hsz
  replace hdf : df = [] := hdf
  subst hdf
  clear hsz hfr hG
  rw [he, g3]
  clear he g3
  generalize tm.getD 0 undef = x0
  generalize tm.getD 1 undef = x1
  generalize tm.getD 2 undef = x2
  generalize tm.getD 4 undef = x4
  generalize tm.getD 5 undef = x5
  generalize tm.getD 6 undef = x6
  generalize tm.getD 7 undef = x7
  generalize tm.getD 8 undef = x8
  generalize tm.getD 9 undef = x9
  generalize tm.getD 10 undef = x10
  generalize tm.getD 11 undef = x11
  generalize tm.getD 12 undef = x12
  generalize tm.getD 13 undef = x13
  generalize tm.getD 14 undef = x14
  generalize tm.getD 15 undef = x15
  generalize tm.getD 16 undef = x16
  generalize tm.getD 17 undef = x17
  generalize tm.getD 18 undef = x18
  generalize tm.getD 19 undef = x19
  generalize tm.getD 20 undef = x20
  generalize tm.getD 21 undef = x21
  generalize tm.getD 22 undef = x22
  generalize tm.getD 23 undef = x23
  generalize tm.getD 24 undef = x24
  generalize tm.getD 25 undef = x25
  generalize tm.getD 26 undef = x26
  generalize tm.getD 27 undef = x27
  generalize tm.getD 28 undef = x28
  generalize tm.getD 29 undef = x29
  generalize tm.getD 30 undef = x30
  generalize tm.getD 31 undef = x31
  generalize tm.getD 32 undef = x32
  generalize tm.getD 33 undef = x33
  generalize tm.getD 34 undef = x34
  generalize tm.getD 35 undef = x35
  generalize tm.getD 36 undef = x36
  generalize tm.getD 37 undef = x37
  generalize tm.getD 38 undef = x38
  generalize tm.getD 39 undef = x39
  generalize tm.getD 40 undef = x40
  generalize tm.getD 41 undef = x41
  generalize tm.getD 42 undef = x42
  generalize tm.getD 43 undef = x43
  generalize tm.getD 44 undef = x44
  generalize tm.getD 45 undef = x45
  generalize tm.getD 46 undef = x46
  generalize tm.getD 47 undef = x47
  generalize tm.getD 48 undef = x48
  generalize tm.getD 49 undef = x49
  generalize tm.getD 50 undef = x50
  generalize tm.getD 51 undef = x51
  generalize tm.getD 52 undef = x52
  clear s1 s2 s3 s4 s5 s6 z0 z1 z2 z3 z4 z5 hO
  have hhs : (letHead k e r n a d).size ≤ 8192 := by
    unfold letHead
    simp only [ByteArray.size_append, textOf_size]
    omega
  have hT := Lib.hid (show letBytes k e r n a d = letHead k e r n a d ++ tailOf (crcV (letHead k e r n a d) : Nat) from rfl)
  generalize letHead k e r n a d = H at hhs hT ⊢
  go_wp2_with fail
  refine (rcrc_any H _ (by omega)).mono ?_
  rintro e' w1 ⟨rfl, hk1⟩
  replace hO2 := hO2.then hk1 (fun _ _ h => h)
  have hc1 : crcV H < 4294967296 := Nat.xor_lt_two_pow (n := 32) (crcN_lt H _) (by decide)
  generalize hC : crcV H = c at hc1 hT ⊢
  clear hC
  have q0 : IntKind.u8.wrap (c : Int) = (c : Int) % 256 := by unfold IntKind.wrap; simp [IntKind.bits, IntKind.signed]
  have q1 : IntKind.u8.wrap ((c : Int) / 256) = (c : Int) / 256 % 256 := by unfold IntKind.wrap; simp [IntKind.bits, IntKind.signed]
  have q2 : IntKind.u8.wrap ((c : Int) / 65536) = (c : Int) / 65536 % 256 := by unfold IntKind.wrap; simp [IntKind.bits, IntKind.signed]
  have q3 : IntKind.u8.wrap ((c : Int) / 16777216) = (c : Int) / 16777216 := by unfold IntKind.wrap; simp [IntKind.bits, IntKind.signed]; omega
  have hb := blk_new w1 (.cells #[.int .u8 ((c : Int) % 256), .int .u8 ((c : Int) / 256 % 256), .int .u8 ((c : Int) / 65536 % 256), .int .u8 ((c : Int) / 16777216)] 5)
  have v0 := blk_cell hb 0
  have v1 := blk_cell hb 1
  have v2 := blk_cell hb 2
  have v3 := blk_cell hb 3
  simp only [List.getElem?_toArray, List.getElem?_cons_zero, List.getElem?_cons_succ] at v0 v1 v2 v3
  have hO3 := hO2.alloc (.cells #[.int .u8 ((c : Int) % 256), .int .u8 ((c : Int) / 256 % 256), .int .u8 ((c : Int) / 65536 % 256), .int .u8 ((c : Int) / 16777216)] 5)
  have hcv := run_convert_bytes_arg (P := Try.prog) _ 34 5 Try.underlying34 Try.underlying5 w1.heap.size 0 4 4 [(c : Int) % 256, (c : Int) / 256 % 256, (c : Int) / 65536 % 256, (c : Int) / 16777216] rfl (fun i hi => by
    rw [Nat.zero_add]
    match i, hi with
    | 0, _ => exact v0
    | 1, _ => exact v1
    | 2, _ => exact v2
    | 3, _ => exact v3) 9 Try.underlying9
  rw [show strOfNums [(c : Int) % 256, (c : Int) / 256 % 256, (c : Int) / 65536 % 256, (c : Int) / 16777216] = tailOf c from rfl] at hcv
  have hts2 : (tailOf c).size = 4 := by unfold tailOf; rw [strOfNums_size]; rfl
  have hsum : ¬ 9223372036854775807 < H.size + (tailOf c).size := by omega
  clear v0 v1 v2 v3 hb hts2
  go_wp2_with fail
  go_ret
  exact ⟨by rw [hT.out]; rfl, hO3⟩

end Go.Proofs.Yteifehienpeaiaa


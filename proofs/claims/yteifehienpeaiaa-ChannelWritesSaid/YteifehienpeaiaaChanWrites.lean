/-
  The walk of the law ChannelWrites.
  No conditions.
-/
import Derived.Test.YteifehienpeaiaaDecBoth
import Derived.Test.YteifehienpeaiaaOpen
set_option linter.unusedVariables false
set_option linter.unusedSimpArgs false
set_option maxRecDepth 100000
namespace Go.Proofs.Yteifehienpeaiaa
open Go.RowKit

theorem letter_cells {cs : List Value} (h : CellsAre [.i, .i, .i, .i, .i, .s] cs) : ∃ (k e r n a : Int) (d : ByteArray), cs = [.int .i64 k, .int .i64 e, .int .i64 r, .int .i64 n, .int .i64 a, .string d] ∧ d.size ≤ reachB := by
  obtain ⟨k, _, rfl, _, h1⟩ := h.i
  obtain ⟨e, _, rfl, _, h2⟩ := h1.i
  obtain ⟨r, _, rfl, _, h3⟩ := h2.i
  obtain ⟨n, _, rfl, _, h4⟩ := h3.i
  obtain ⟨a, _, rfl, _, h5⟩ := h4.i
  obtain ⟨d, _, rfl, hd, h6⟩ := h5.s
  obtain rfl := h6.nil
  exact ⟨k, e, r, n, a, d, rfl, hd⟩

def cwG (p y z : Nat) (k e r n a : Int) (d : ByteArray) (c : Int) (E s : ByteArray) (k2 e2 r2 n2 a2 : Int) (d2 : ByteArray) (c2 : Int) : Nat → Value → World → Prop
  | 0, v, w' => v = .bool true
  | 1, v, w' => v = .bool true
  | 2, v, w' => v = .string E
  | 3, v, w' => v = .string E
  | 4, v, w' => v = .bool true
  | 5, v, w' => v = .bool true
  | 6, v, w' => v = .bool true
  | 7, v, w' => v = .int .i64 c
  | 8, v, w' => v = .int .i64 c
  | 9, v, w' => v = .bool true
  | 10, v, w' => v = .bool true
  | 11, v, w' => v = .bool true
  | 12, v, w' => v = .agg #[.int .i64 k, .int .i64 e, .int .i64 r, .int .i64 n, .int .i64 a, .string d]
  | 13, v, w' => v = .int .i64 c
  | 14, v, w' => v = .agg #[.int .i64 k, .int .i64 e, .int .i64 r, .int .i64 n, .int .i64 a, .string d]
  | 15, v, w' => v = .int .i64 c
  | 16, v, w' => v = .bool true
  | 17, v, w' => v = .bool true
  | 18, v, w' => v = .bool true
  | 19, v, w' => v = .agg #[.int .i64 k2, .int .i64 e2, .int .i64 r2, .int .i64 n2, .int .i64 a2, .string d2]
  | 20, v, w' => v = .agg #[.int .i64 k2, .int .i64 e2, .int .i64 r2, .int .i64 n2, .int .i64 a2, .string d2]
  | 21, v, w' => v = .bool true
  | 22, v, w' => v = .bool true
  | 23, v, w' => v = .bool true
  | 24, v, w' => v = .int .i64 c2
  | 25, v, w' => v = .int .i64 c2
  | 26, v, w' => v = .bool true
  | 27, v, w' => v = .bool true
  | 28, v, w' => v = .bool true
  | 29, v, w' => v = .string s
  | 30, v, w' => v = .int .i64 (crcV s : Nat)
  | 31, v, w' => v = .string s
  | 32, v, w' => v = .int .i64 (crcV s : Nat)
  | 33, v, w' => v = .bool true
  | 34, v, w' => v = .bool true
  | 35, v, w' => v = .bool true
  | 36, v, w' => v = .bool true
  | 37, v, w' => v = .bool true
  | 38, v, w' => v = .bool true
  | _, _, _ => True
def cwDs : List Nat := [50, 51, 52, 53, 54, 55, 56, 57, 58, 59, 60, 61, 62, 63, 64, 65, 66, 67, 68, 69, 70, 71, 72, 73, 74, 75, 76, 77, 78, 79, 80, 81, 82, 83, 84, 85, 86, 87, 4]
def cwNeed : List (List Nat) := [[], [0], [], [], [2, 3], [1, 4], [5], [], [], [7, 8], [6, 9], [10], [], [12], [], [14], [13, 15], [11, 16], [17], [], [], [19, 20], [18, 21], [22], [], [], [24, 25], [23, 26], [27], [], [29], [], [31], [30, 32], [28, 33], [34], [], [35, 36], [37]]
def cwGs : List (Option Bool) := [none, some true, none, none, none, none, some true, none, none, none, none, some true, none, none, none, none, none, none, some true, none, none, none, none, some true, none, none, none, none, some true, none, none, none, none, none, none, some true]
theorem cwG.keep {p y z : Nat} {k e r n a : Int} {d : ByteArray} {c : Int} {E s : ByteArray} {k2 e2 r2 n2 a2 : Int} {d2 : ByteArray} {c2 : Int} : ∀ j v w w', cwG p y z k e r n a d c E s k2 e2 r2 n2 a2 d2 c2 j v w → Only (fun _ => False) w w' → cwG p y z k e r n a d c E s k2 e2 r2 n2 a2 d2 c2 j v w' := by
  intro j v w w' h hO
  match j with
  | 0 => exact h
  | 1 => exact h
  | 2 => exact h
  | 3 => exact h
  | 4 => exact h
  | 5 => exact h
  | 6 => exact h
  | 7 => exact h
  | 8 => exact h
  | 9 => exact h
  | 10 => exact h
  | 11 => exact h
  | 12 => exact h
  | 13 => exact h
  | 14 => exact h
  | 15 => exact h
  | 16 => exact h
  | 17 => exact h
  | 18 => exact h
  | 19 => exact h
  | 20 => exact h
  | 21 => exact h
  | 22 => exact h
  | 23 => exact h
  | 24 => exact h
  | 25 => exact h
  | 26 => exact h
  | 27 => exact h
  | 28 => exact h
  | 29 => exact h
  | 30 => exact h
  | 31 => exact h
  | 32 => exact h
  | 33 => exact h
  | 34 => exact h
  | 35 => exact h
  | 36 => exact h
  | 37 => exact h
  | 38 => exact h
  | n + 39 => trivial
theorem cwG.guard {p y z : Nat} {k e r n a : Int} {d : ByteArray} {c : Int} {E s : ByteArray} {k2 e2 r2 n2 a2 : Int} {d2 : ByteArray} {c2 : Int} : ∀ g' b', cwGs.getD g' none = some b' → ∀ v w, cwG p y z k e r n a d c E s k2 e2 r2 n2 a2 d2 c2 g' v w → v = .bool b' := by
  intro g' b' hbb v w hgg
  match g', hbb, hgg with
  | 0, hbb, hgg => cases hbb
  | 1, hbb, hgg => cases hbb; exact hgg
  | 2, hbb, hgg => cases hbb
  | 3, hbb, hgg => cases hbb
  | 4, hbb, hgg => cases hbb
  | 5, hbb, hgg => cases hbb
  | 6, hbb, hgg => cases hbb; exact hgg
  | 7, hbb, hgg => cases hbb
  | 8, hbb, hgg => cases hbb
  | 9, hbb, hgg => cases hbb
  | 10, hbb, hgg => cases hbb
  | 11, hbb, hgg => cases hbb; exact hgg
  | 12, hbb, hgg => cases hbb
  | 13, hbb, hgg => cases hbb
  | 14, hbb, hgg => cases hbb
  | 15, hbb, hgg => cases hbb
  | 16, hbb, hgg => cases hbb
  | 17, hbb, hgg => cases hbb
  | 18, hbb, hgg => cases hbb; exact hgg
  | 19, hbb, hgg => cases hbb
  | 20, hbb, hgg => cases hbb
  | 21, hbb, hgg => cases hbb
  | 22, hbb, hgg => cases hbb
  | 23, hbb, hgg => cases hbb; exact hgg
  | 24, hbb, hgg => cases hbb
  | 25, hbb, hgg => cases hbb
  | 26, hbb, hgg => cases hbb
  | 27, hbb, hgg => cases hbb
  | 28, hbb, hgg => cases hbb; exact hgg
  | 29, hbb, hgg => cases hbb
  | 30, hbb, hgg => cases hbb
  | 31, hbb, hgg => cases hbb
  | 32, hbb, hgg => cases hbb
  | 33, hbb, hgg => cases hbb
  | 34, hbb, hgg => cases hbb
  | 35, hbb, hgg => cases hbb; exact hgg
  | n' + 36, hbb, hgg => exact absurd hbb (by simp [cwGs])

set_option maxHeartbeats 4000000 in
theorem chanWrites_walk (W : World) (cs : List Value) (hcs : CellsAre [.i, .i, .i, .i, .i, .s] cs) (s : ByteArray) (hs : s.size ≤ reachB) :
    Calls Try.prog 3 #[.agg cs.toArray, .string s] W fun e W' => e = .returned (.bool true) ∧ Below W.heap.size W W' := by
  obtain ⟨k, e, r, n, a, d, rfl, hd⟩ := letter_cells hcs
  unfold reachB at hs hd
  clear hcs
  have hO := (Only.refl (fun _ => False) W).alloc (.cells #[.int .i64 k, .int .i64 e, .int .i64 r, .int .i64 n, .int .i64 a, .string d] 23)
  have hx := blk_new W (.cells #[.int .i64 k, .int .i64 e, .int .i64 r, .int .i64 n, .int .i64 a, .string d] 23)
  have z0 := blk_cell hx 0
  have z1 := blk_cell hx 1
  have z2 := blk_cell hx 2
  have z3 := blk_cell hx 3
  have z4 := blk_cell hx 4
  have z5 := blk_cell hx 5
  simp only [List.getElem?_toArray, List.getElem?_cons_zero, List.getElem?_cons_succ] at z0 z1 z2 z3 z4 z5
  obtain ⟨k2, e2, r2, n2, a2, d2, c2, hD, hRD⟩ := decode_both s (by omega)
  have HD := Lib.hid hD
  have HRD := Lib.hid hRD
  clear hD hRD
  by_cases hbig : ¬ (3000 < s.size) ∧ ¬ (3000 < d.size ∧ d.size ≤ 4096)
  case neg =>
    go_enter Try.func3, Try.ntmps3
    go_wp2_with fail
    all_goals
      first
        | (exfalso; omega)
        | (refine (works24 _).mono ?_
           rintro e' w1 ⟨rfl, hk⟩
           replace hO := hO.then hk (fun _ _ h => h)
           go_wp2_with fail
           go_ret
           exact ⟨rfl, hO.below (Nat.le_refl _) (fun _ _ h => h)⟩)
  obtain ⟨hs3, hd3⟩ := hbig
  have ds : decide (3000 < (s.size : Int)) = false := decide_eq_false (by omega)
  have hss : (s.size : Int) ≤ 3000 := by omega
  have HDD : (decide (3000 < (d.size : Int)) = false ∧ (d.size : Int) ≤ 3000) ∨ (decide (3000 < (d.size : Int)) = true ∧ decide ((d.size : Int) ≤ 4096) = false ∧ 4096 < (d.size : Int)) := by
    by_cases h : 3000 < d.size
    · exact .inr ⟨decide_eq_true (by omega), decide_eq_false (by omega), by omega⟩
    · exact .inl ⟨decide_eq_false (by omega), by omega⟩
  clear hs3 hd3
  rcases HDD with ⟨d1, d2'⟩ | ⟨d1, d2', d3⟩
  all_goals
    go_enter Try.func3, Try.ntmps3
    go_wp2_with fail
    refine (encode_any k e r n a d _).mono ?_
    rintro e' w1 ⟨rfl, hk⟩
    replace hO := hO.then hk (fun _ _ h => h)
    replace hx := hk.at hx (fun h => h)
    clear hk z0 z1 z2 z3 z4 z5
    have z0 := blk_cell hx 0
    have z1 := blk_cell hx 1
    have z2 := blk_cell hx 2
    have z3 := blk_cell hx 3
    have z4 := blk_cell hx 4
    have z5 := blk_cell hx 5
    simp only [List.getElem?_toArray, List.getElem?_cons_zero, List.getElem?_cons_succ] at z0 z1 z2 z3 z4 z5
    go_wp2_with fail
    refine (rencode_any k e r n a d _).mono ?_
    rintro e' w2 ⟨rfl, hk⟩
    replace hO := hO.then hk (fun _ _ h => h)
    replace hx := hk.at hx (fun h => h)
    clear hk z0 z1 z2 z3 z4 z5
    have hck : ∀ w, Calls Try.prog 15 #[.agg #[.int .i64 k, .int .i64 e, .int .i64 r, .int .i64 n, .int .i64 a, .string d]] w fun e' w' => e' = .returned (.int .i64 (lcode k e r n a d)) ∧ Only (fun _ => False) w w' := fun w => lcheck_any k e r n a d w
    have hrck : ∀ w, Calls Try.prog 16 #[.agg #[.int .i64 k, .int .i64 e, .int .i64 r, .int .i64 n, .int .i64 a, .string d]] w fun e' w' => e' = .returned (.int .i64 (lcode k e r n a d)) ∧ Only (fun _ => False) w w' := fun w => rlcheck_any k e r n a d w
    generalize lcode k e r n a d = c at *
    generalize encB k e r n a d = E at *
    generalize hp : W.heap.size = p at hx ⊢
    go_wp2_with fail
    refine (HD.out _).mono ?_
    rintro e' w3 ⟨rfl, hk⟩
    replace hO := (hO.then hk (fun _ _ h => h)).alloc (.cells #[.int .i64 k2, .int .i64 e2, .int .i64 r2, .int .i64 n2, .int .i64 a2, .string d2] 23)
    replace hx := blk_alloc (hk.at hx (fun h => h)) (.cells #[.int .i64 k2, .int .i64 e2, .int .i64 r2, .int .i64 n2, .int .i64 a2, .string d2] 23)
    have hy := blk_new w3 (.cells #[.int .i64 k2, .int .i64 e2, .int .i64 r2, .int .i64 n2, .int .i64 a2, .string d2] 23)
    clear hk
    go_wp2_with fail
    refine (HRD.out _).mono ?_
    rintro e' w4 ⟨rfl, hk⟩
    replace hO := (hO.then hk (fun _ _ h => h)).alloc (.cells #[.int .i64 k2, .int .i64 e2, .int .i64 r2, .int .i64 n2, .int .i64 a2, .string d2] 23)
    replace hx := blk_alloc (hk.at hx (fun h => h)) (.cells #[.int .i64 k2, .int .i64 e2, .int .i64 r2, .int .i64 n2, .int .i64 a2, .string d2] 23)
    replace hy := blk_alloc (hk.at hy (fun h => h)) (.cells #[.int .i64 k2, .int .i64 e2, .int .i64 r2, .int .i64 n2, .int .i64 a2, .string d2] 23)
    have hz := blk_new w4 (.cells #[.int .i64 k2, .int .i64 e2, .int .i64 r2, .int .i64 n2, .int .i64 a2, .string d2] 23)
    clear hk
    go_wp2_with fail
    generalize w4.alloc (.cells #[.int .i64 k2, .int .i64 e2, .int .i64 r2, .int .i64 n2, .int .i64 a2, .string d2] 23) = w5 at hO hx hy hz ⊢
    generalize w4.heap.size = z at hz ⊢
    generalize w3.heap.size = y at hy ⊢
    refine wp_region_facts_tail 39 cwDs cwNeed cwGs (fun w' => (w'.heap[p]? = some (.cells #[.int .i64 k, .int .i64 e, .int .i64 r, .int .i64 n, .int .i64 a, .string d] 23 (0, 0)) ∧ w'.heap[y]? = some (.cells #[.int .i64 k2, .int .i64 e2, .int .i64 r2, .int .i64 n2, .int .i64 a2, .string d2] 23 (0, 0)) ∧ w'.heap[z]? = some (.cells #[.int .i64 k2, .int .i64 e2, .int .i64 r2, .int .i64 n2, .int .i64 a2, .string d2] 23 (0, 0))) ∧ Only (fun _ => False) W w') (Only (fun _ => False)) (cwG p y z k e r n a d c E s k2 e2 r2 n2 a2 d2 c2) rfl rfl (by kernel_rfl) (by kernel_rfl) (by kernel_rfl) (by kernel_rfl) (by kernel_rfl) ⟨⟨hx, hy, hz⟩, hO.drew⟩ cwG.keep cwG.guard ?_ ?_
    · refine And.intro ?op0 (And.intro ?op1 (And.intro ?op2 (And.intro ?op3 (And.intro ?op4 (And.intro ?op5 (And.intro ?op6 (And.intro ?op7 (And.intro ?op8 (And.intro ?op9 (And.intro ?op10 (And.intro ?op11 (And.intro ?op12 (And.intro ?op13 (And.intro ?op14 (And.intro ?op15 (And.intro ?op16 (And.intro ?op17 (And.intro ?op18 (And.intro ?op19 (And.intro ?op20 (And.intro ?op21 (And.intro ?op22 (And.intro ?op23 (And.intro ?op24 (And.intro ?op25 (And.intro ?op26 (And.intro ?op27 (And.intro ?op28 (And.intro ?op29 (And.intro ?op30 (And.intro ?op31 (And.intro ?op32 (And.intro ?op33 (And.intro ?op34 (And.intro ?op35 (And.intro ?op36 (And.intro ?op37 (And.intro ?op38 trivial))))))))))))))))))))))))))))))))))))))
      case op0 =>
        intro ev w1 hT1 hc hf hfr hG
        rw [if_pos (by decide)]
        obtain ⟨⟨hx, hy, hz⟩, hO⟩ := hT1
        have h13 : ev (.tmp 13) = .bool true := hfr 13 (by decide)
        clear hG hfr
        refine OpSays.value (v := .bool true) (w' := w1) ?_ ⟨⟨⟨hx, hy, hz⟩, hO⟩, Only.refl _ _, rfl⟩
        go_simp
      case op1 =>
        intro ev w1 hT1 hc hf hfr hG
        rw [if_pos (by decide)]
        obtain ⟨⟨hx, hy, hz⟩, hO⟩ := hT1
        have hg : (ev (.tmp 50) = .bool true) ∧ True := hG
        obtain ⟨g0, _⟩ := hg
        clear hG hfr
        refine OpSays.value (v := .bool true) (w' := w1) ?_ ⟨⟨⟨hx, hy, hz⟩, hO⟩, Only.refl _ _, rfl⟩
        go_simp
      case op2 =>
        intro ev w1 hT1 hc hf hfr hG
        rw [if_pos (by decide)]
        obtain ⟨⟨hx, hy, hz⟩, hO⟩ := hT1
        have h5 : ev (.tmp 5) = .string E := hfr 5 (by decide)
        clear hG hfr
        refine OpSays.value (v := .string E) (w' := w1) ?_ ⟨⟨⟨hx, hy, hz⟩, hO⟩, Only.refl _ _, rfl⟩
        go_simp
      case op3 =>
        intro ev w1 hT1 hc hf hfr hG
        rw [if_pos (by decide)]
        obtain ⟨⟨hx, hy, hz⟩, hO⟩ := hT1
        have h7 : ev (.tmp 7) = .string E := hfr 7 (by decide)
        clear hG hfr
        refine OpSays.value (v := .string E) (w' := w1) ?_ ⟨⟨⟨hx, hy, hz⟩, hO⟩, Only.refl _ _, rfl⟩
        go_simp
      case op4 =>
        intro ev w1 hT1 hc hf hfr hG
        rw [if_pos (by decide)]
        obtain ⟨⟨hx, hy, hz⟩, hO⟩ := hT1
        have hg : (ev (.tmp 52) = .string E) ∧ (ev (.tmp 53) = .string E) ∧ True := hG
        obtain ⟨g2, g3, _⟩ := hg
        clear hG hfr
        refine OpSays.value (v := .bool true) (w' := w1) ?_ ⟨⟨⟨hx, hy, hz⟩, hO⟩, Only.refl _ _, rfl⟩
        go_simp
      case op5 =>
        intro ev w1 hT1 hc hf hfr hG
        rw [if_pos (by decide)]
        obtain ⟨⟨hx, hy, hz⟩, hO⟩ := hT1
        have hg : (ev (.tmp 51) = .bool true) ∧ (ev (.tmp 54) = .bool true) ∧ True := hG
        obtain ⟨g1, g4, _⟩ := hg
        clear hG hfr
        refine OpSays.value (v := .bool true) (w' := w1) ?_ ⟨⟨⟨hx, hy, hz⟩, hO⟩, Only.refl _ _, rfl⟩
        go_simp
      case op6 =>
        intro ev w1 hT1 hc hf hfr hG
        rw [if_pos (by decide)]
        obtain ⟨⟨hx, hy, hz⟩, hO⟩ := hT1
        have hg : (ev (.tmp 55) = .bool true) ∧ True := hG
        obtain ⟨g5, _⟩ := hg
        clear hG hfr
        refine OpSays.value (v := .bool true) (w' := w1) ?_ ⟨⟨⟨hx, hy, hz⟩, hO⟩, Only.refl _ _, rfl⟩
        go_simp
      case op7 =>
        intro ev w1 hT1 hc hf hfr hG
        rw [if_pos (by decide)]
        obtain ⟨⟨hx, hy, hz⟩, hO⟩ := hT1
        have h6 : ev (.tmp 6) = .int .i64 c := hfr 6 (by decide)
        clear hG hfr
        refine OpSays.value (v := .int .i64 c) (w' := w1) ?_ ⟨⟨⟨hx, hy, hz⟩, hO⟩, Only.refl _ _, rfl⟩
        go_simp
      case op8 =>
        intro ev w1 hT1 hc hf hfr hG
        rw [if_pos (by decide)]
        obtain ⟨⟨hx, hy, hz⟩, hO⟩ := hT1
        have h8 : ev (.tmp 8) = .int .i64 c := hfr 8 (by decide)
        clear hG hfr
        refine OpSays.value (v := .int .i64 c) (w' := w1) ?_ ⟨⟨⟨hx, hy, hz⟩, hO⟩, Only.refl _ _, rfl⟩
        go_simp
      case op9 =>
        intro ev w1 hT1 hc hf hfr hG
        rw [if_pos (by decide)]
        obtain ⟨⟨hx, hy, hz⟩, hO⟩ := hT1
        have hg : (ev (.tmp 57) = .int .i64 c) ∧ (ev (.tmp 58) = .int .i64 c) ∧ True := hG
        obtain ⟨g7, g8, _⟩ := hg
        clear hG hfr
        refine OpSays.value (v := .bool true) (w' := w1) ?_ ⟨⟨⟨hx, hy, hz⟩, hO⟩, Only.refl _ _, rfl⟩
        go_simp
      case op10 =>
        intro ev w1 hT1 hc hf hfr hG
        rw [if_pos (by decide)]
        obtain ⟨⟨hx, hy, hz⟩, hO⟩ := hT1
        have hg : (ev (.tmp 56) = .bool true) ∧ (ev (.tmp 59) = .bool true) ∧ True := hG
        obtain ⟨g6, g9, _⟩ := hg
        clear hG hfr
        refine OpSays.value (v := .bool true) (w' := w1) ?_ ⟨⟨⟨hx, hy, hz⟩, hO⟩, Only.refl _ _, rfl⟩
        go_simp
      case op11 =>
        intro ev w1 hT1 hc hf hfr hG
        rw [if_pos (by decide)]
        obtain ⟨⟨hx, hy, hz⟩, hO⟩ := hT1
        have hg : (ev (.tmp 60) = .bool true) ∧ True := hG
        obtain ⟨g10, _⟩ := hg
        clear hG hfr
        refine OpSays.value (v := .bool true) (w' := w1) ?_ ⟨⟨⟨hx, hy, hz⟩, hO⟩, Only.refl _ _, rfl⟩
        go_simp
      case op12 =>
        intro ev w1 hT1 hc hf hfr hG
        rw [if_pos (by decide)]
        obtain ⟨⟨hx, hy, hz⟩, hO⟩ := hT1
        have h2 : ev (.tmp 2) = .pointer (some ⟨p, 0, none⟩) := hfr 2 (by decide)
        clear hG hfr
        have u0 := blk_cell hx 0
        have u1 := blk_cell hx 1
        have u2 := blk_cell hx 2
        have u3 := blk_cell hx 3
        have u4 := blk_cell hx 4
        have u5 := blk_cell hx 5
        simp only [List.getElem?_toArray, List.getElem?_cons_zero, List.getElem?_cons_succ] at u0 u1 u2 u3 u4 u5
        refine OpSays.value (v := .agg #[.int .i64 k, .int .i64 e, .int .i64 r, .int .i64 n, .int .i64 a, .string d]) (w' := w1) ?_ ⟨⟨⟨hx, hy, hz⟩, hO⟩, Only.refl _ _, rfl⟩
        go_simp
      case op13 =>
        intro ev w1 hT1 hc hf hfr hG
        rw [if_pos (by decide)]
        obtain ⟨⟨hx, hy, hz⟩, hO⟩ := hT1
        have hg : (ev (.tmp 62) = .agg #[.int .i64 k, .int .i64 e, .int .i64 r, .int .i64 n, .int .i64 a, .string d]) ∧ True := hG
        obtain ⟨g12, _⟩ := hg
        clear hG hfr
        refine OpSays.enter (f := 15) (args := #[.agg #[.int .i64 k, .int .i64 e, .int .i64 r, .int .i64 n, .int .i64 a, .string d]]) (w' := w1) ?_ ?_
        · go_simp
        · refine (hck w1).mono ?_
          rintro e' w2 ⟨rfl, hk⟩
          exact ⟨_, rfl, ⟨⟨hk.at hx (fun h => h), hk.at hy (fun h => h), hk.at hz (fun h => h)⟩, hO.then hk (fun _ _ h => h)⟩, hk, rfl⟩
      case op14 =>
        intro ev w1 hT1 hc hf hfr hG
        rw [if_pos (by decide)]
        obtain ⟨⟨hx, hy, hz⟩, hO⟩ := hT1
        have h2 : ev (.tmp 2) = .pointer (some ⟨p, 0, none⟩) := hfr 2 (by decide)
        clear hG hfr
        have u0 := blk_cell hx 0
        have u1 := blk_cell hx 1
        have u2 := blk_cell hx 2
        have u3 := blk_cell hx 3
        have u4 := blk_cell hx 4
        have u5 := blk_cell hx 5
        simp only [List.getElem?_toArray, List.getElem?_cons_zero, List.getElem?_cons_succ] at u0 u1 u2 u3 u4 u5
        refine OpSays.value (v := .agg #[.int .i64 k, .int .i64 e, .int .i64 r, .int .i64 n, .int .i64 a, .string d]) (w' := w1) ?_ ⟨⟨⟨hx, hy, hz⟩, hO⟩, Only.refl _ _, rfl⟩
        go_simp
      case op15 =>
        intro ev w1 hT1 hc hf hfr hG
        rw [if_pos (by decide)]
        obtain ⟨⟨hx, hy, hz⟩, hO⟩ := hT1
        have hg : (ev (.tmp 64) = .agg #[.int .i64 k, .int .i64 e, .int .i64 r, .int .i64 n, .int .i64 a, .string d]) ∧ True := hG
        obtain ⟨g14, _⟩ := hg
        clear hG hfr
        refine OpSays.enter (f := 16) (args := #[.agg #[.int .i64 k, .int .i64 e, .int .i64 r, .int .i64 n, .int .i64 a, .string d]]) (w' := w1) ?_ ?_
        · go_simp
        · refine (hrck w1).mono ?_
          rintro e' w2 ⟨rfl, hk⟩
          exact ⟨_, rfl, ⟨⟨hk.at hx (fun h => h), hk.at hy (fun h => h), hk.at hz (fun h => h)⟩, hO.then hk (fun _ _ h => h)⟩, hk, rfl⟩
      case op16 =>
        intro ev w1 hT1 hc hf hfr hG
        rw [if_pos (by decide)]
        obtain ⟨⟨hx, hy, hz⟩, hO⟩ := hT1
        have hg : (ev (.tmp 63) = .int .i64 c) ∧ (ev (.tmp 65) = .int .i64 c) ∧ True := hG
        obtain ⟨g13, g15, _⟩ := hg
        clear hG hfr
        refine OpSays.value (v := .bool true) (w' := w1) ?_ ⟨⟨⟨hx, hy, hz⟩, hO⟩, Only.refl _ _, rfl⟩
        go_simp
      case op17 =>
        intro ev w1 hT1 hc hf hfr hG
        rw [if_pos (by decide)]
        obtain ⟨⟨hx, hy, hz⟩, hO⟩ := hT1
        have hg : (ev (.tmp 61) = .bool true) ∧ (ev (.tmp 66) = .bool true) ∧ True := hG
        obtain ⟨g11, g16, _⟩ := hg
        clear hG hfr
        refine OpSays.value (v := .bool true) (w' := w1) ?_ ⟨⟨⟨hx, hy, hz⟩, hO⟩, Only.refl _ _, rfl⟩
        go_simp
      case op18 =>
        intro ev w1 hT1 hc hf hfr hG
        rw [if_pos (by decide)]
        obtain ⟨⟨hx, hy, hz⟩, hO⟩ := hT1
        have hg : (ev (.tmp 67) = .bool true) ∧ True := hG
        obtain ⟨g17, _⟩ := hg
        clear hG hfr
        refine OpSays.value (v := .bool true) (w' := w1) ?_ ⟨⟨⟨hx, hy, hz⟩, hO⟩, Only.refl _ _, rfl⟩
        go_simp
      case op19 =>
        intro ev w1 hT1 hc hf hfr hG
        rw [if_pos (by decide)]
        obtain ⟨⟨hx, hy, hz⟩, hO⟩ := hT1
        have h9 : ev (.tmp 9) = .pointer (some ⟨y, 0, none⟩) := hfr 9 (by decide)
        clear hG hfr
        have u0 := blk_cell hy 0
        have u1 := blk_cell hy 1
        have u2 := blk_cell hy 2
        have u3 := blk_cell hy 3
        have u4 := blk_cell hy 4
        have u5 := blk_cell hy 5
        simp only [List.getElem?_toArray, List.getElem?_cons_zero, List.getElem?_cons_succ] at u0 u1 u2 u3 u4 u5
        refine OpSays.value (v := .agg #[.int .i64 k2, .int .i64 e2, .int .i64 r2, .int .i64 n2, .int .i64 a2, .string d2]) (w' := w1) ?_ ⟨⟨⟨hx, hy, hz⟩, hO⟩, Only.refl _ _, rfl⟩
        go_simp
      case op20 =>
        intro ev w1 hT1 hc hf hfr hG
        rw [if_pos (by decide)]
        obtain ⟨⟨hx, hy, hz⟩, hO⟩ := hT1
        have h11 : ev (.tmp 11) = .pointer (some ⟨z, 0, none⟩) := hfr 11 (by decide)
        clear hG hfr
        have u0 := blk_cell hz 0
        have u1 := blk_cell hz 1
        have u2 := blk_cell hz 2
        have u3 := blk_cell hz 3
        have u4 := blk_cell hz 4
        have u5 := blk_cell hz 5
        simp only [List.getElem?_toArray, List.getElem?_cons_zero, List.getElem?_cons_succ] at u0 u1 u2 u3 u4 u5
        refine OpSays.value (v := .agg #[.int .i64 k2, .int .i64 e2, .int .i64 r2, .int .i64 n2, .int .i64 a2, .string d2]) (w' := w1) ?_ ⟨⟨⟨hx, hy, hz⟩, hO⟩, Only.refl _ _, rfl⟩
        go_simp
      case op21 =>
        intro ev w1 hT1 hc hf hfr hG
        rw [if_pos (by decide)]
        obtain ⟨⟨hx, hy, hz⟩, hO⟩ := hT1
        have hg : (ev (.tmp 69) = .agg #[.int .i64 k2, .int .i64 e2, .int .i64 r2, .int .i64 n2, .int .i64 a2, .string d2]) ∧ (ev (.tmp 70) = .agg #[.int .i64 k2, .int .i64 e2, .int .i64 r2, .int .i64 n2, .int .i64 a2, .string d2]) ∧ True := hG
        obtain ⟨g19, g20, _⟩ := hg
        clear hG hfr
        refine OpSays.value (v := .bool true) (w' := w1) ?_ ⟨⟨⟨hx, hy, hz⟩, hO⟩, Only.refl _ _, rfl⟩
        go_simp
      case op22 =>
        intro ev w1 hT1 hc hf hfr hG
        rw [if_pos (by decide)]
        obtain ⟨⟨hx, hy, hz⟩, hO⟩ := hT1
        have hg : (ev (.tmp 68) = .bool true) ∧ (ev (.tmp 71) = .bool true) ∧ True := hG
        obtain ⟨g18, g21, _⟩ := hg
        clear hG hfr
        refine OpSays.value (v := .bool true) (w' := w1) ?_ ⟨⟨⟨hx, hy, hz⟩, hO⟩, Only.refl _ _, rfl⟩
        go_simp
      case op23 =>
        intro ev w1 hT1 hc hf hfr hG
        rw [if_pos (by decide)]
        obtain ⟨⟨hx, hy, hz⟩, hO⟩ := hT1
        have hg : (ev (.tmp 72) = .bool true) ∧ True := hG
        obtain ⟨g22, _⟩ := hg
        clear hG hfr
        refine OpSays.value (v := .bool true) (w' := w1) ?_ ⟨⟨⟨hx, hy, hz⟩, hO⟩, Only.refl _ _, rfl⟩
        go_simp
      case op24 =>
        intro ev w1 hT1 hc hf hfr hG
        rw [if_pos (by decide)]
        obtain ⟨⟨hx, hy, hz⟩, hO⟩ := hT1
        have h10 : ev (.tmp 10) = .int .i64 c2 := hfr 10 (by decide)
        clear hG hfr
        refine OpSays.value (v := .int .i64 c2) (w' := w1) ?_ ⟨⟨⟨hx, hy, hz⟩, hO⟩, Only.refl _ _, rfl⟩
        go_simp
      case op25 =>
        intro ev w1 hT1 hc hf hfr hG
        rw [if_pos (by decide)]
        obtain ⟨⟨hx, hy, hz⟩, hO⟩ := hT1
        have h12 : ev (.tmp 12) = .int .i64 c2 := hfr 12 (by decide)
        clear hG hfr
        refine OpSays.value (v := .int .i64 c2) (w' := w1) ?_ ⟨⟨⟨hx, hy, hz⟩, hO⟩, Only.refl _ _, rfl⟩
        go_simp
      case op26 =>
        intro ev w1 hT1 hc hf hfr hG
        rw [if_pos (by decide)]
        obtain ⟨⟨hx, hy, hz⟩, hO⟩ := hT1
        have hg : (ev (.tmp 74) = .int .i64 c2) ∧ (ev (.tmp 75) = .int .i64 c2) ∧ True := hG
        obtain ⟨g24, g25, _⟩ := hg
        clear hG hfr
        refine OpSays.value (v := .bool true) (w' := w1) ?_ ⟨⟨⟨hx, hy, hz⟩, hO⟩, Only.refl _ _, rfl⟩
        go_simp
      case op27 =>
        intro ev w1 hT1 hc hf hfr hG
        rw [if_pos (by decide)]
        obtain ⟨⟨hx, hy, hz⟩, hO⟩ := hT1
        have hg : (ev (.tmp 73) = .bool true) ∧ (ev (.tmp 76) = .bool true) ∧ True := hG
        obtain ⟨g23, g26, _⟩ := hg
        clear hG hfr
        refine OpSays.value (v := .bool true) (w' := w1) ?_ ⟨⟨⟨hx, hy, hz⟩, hO⟩, Only.refl _ _, rfl⟩
        go_simp
      case op28 =>
        intro ev w1 hT1 hc hf hfr hG
        rw [if_pos (by decide)]
        obtain ⟨⟨hx, hy, hz⟩, hO⟩ := hT1
        have hg : (ev (.tmp 77) = .bool true) ∧ True := hG
        obtain ⟨g27, _⟩ := hg
        clear hG hfr
        refine OpSays.value (v := .bool true) (w' := w1) ?_ ⟨⟨⟨hx, hy, hz⟩, hO⟩, Only.refl _ _, rfl⟩
        go_simp
      case op29 =>
        intro ev w1 hT1 hc hf hfr hG
        rw [if_pos (by decide)]
        obtain ⟨⟨hx, hy, hz⟩, hO⟩ := hT1
        have h1 : ev (.tmp 1) = .string s := hfr 1 (by decide)
        clear hG hfr
        refine OpSays.value (v := .string s) (w' := w1) ?_ ⟨⟨⟨hx, hy, hz⟩, hO⟩, Only.refl _ _, rfl⟩
        go_simp
      case op30 =>
        intro ev w1 hT1 hc hf hfr hG
        rw [if_pos (by decide)]
        obtain ⟨⟨hx, hy, hz⟩, hO⟩ := hT1
        have hg : (ev (.tmp 79) = .string s) ∧ True := hG
        obtain ⟨g29, _⟩ := hg
        clear hG hfr
        refine OpSays.enter (f := 17) (args := #[.string s]) (w' := w1) ?_ ?_
        · go_simp
        · refine (crc_any s w1 (by omega)).mono ?_
          rintro e' w2 ⟨rfl, hk⟩
          exact ⟨_, rfl, ⟨⟨hk.at hx (fun h => h), hk.at hy (fun h => h), hk.at hz (fun h => h)⟩, hO.then hk (fun _ _ h => h)⟩, hk, rfl⟩
      case op31 =>
        intro ev w1 hT1 hc hf hfr hG
        rw [if_pos (by decide)]
        obtain ⟨⟨hx, hy, hz⟩, hO⟩ := hT1
        have h1 : ev (.tmp 1) = .string s := hfr 1 (by decide)
        clear hG hfr
        refine OpSays.value (v := .string s) (w' := w1) ?_ ⟨⟨⟨hx, hy, hz⟩, hO⟩, Only.refl _ _, rfl⟩
        go_simp
      case op32 =>
        intro ev w1 hT1 hc hf hfr hG
        rw [if_pos (by decide)]
        obtain ⟨⟨hx, hy, hz⟩, hO⟩ := hT1
        have hg : (ev (.tmp 81) = .string s) ∧ True := hG
        obtain ⟨g31, _⟩ := hg
        clear hG hfr
        refine OpSays.enter (f := 18) (args := #[.string s]) (w' := w1) ?_ ?_
        · go_simp
        · refine (rcrc_any s w1 (by omega)).mono ?_
          rintro e' w2 ⟨rfl, hk⟩
          exact ⟨_, rfl, ⟨⟨hk.at hx (fun h => h), hk.at hy (fun h => h), hk.at hz (fun h => h)⟩, hO.then hk (fun _ _ h => h)⟩, hk, rfl⟩
      case op33 =>
        intro ev w1 hT1 hc hf hfr hG
        rw [if_pos (by decide)]
        obtain ⟨⟨hx, hy, hz⟩, hO⟩ := hT1
        have hg : (ev (.tmp 80) = .int .i64 (crcV s : Nat)) ∧ (ev (.tmp 82) = .int .i64 (crcV s : Nat)) ∧ True := hG
        obtain ⟨g30, g32, _⟩ := hg
        clear hG hfr
        refine OpSays.value (v := .bool true) (w' := w1) ?_ ⟨⟨⟨hx, hy, hz⟩, hO⟩, Only.refl _ _, rfl⟩
        go_simp
      case op34 =>
        intro ev w1 hT1 hc hf hfr hG
        rw [if_pos (by decide)]
        obtain ⟨⟨hx, hy, hz⟩, hO⟩ := hT1
        have hg : (ev (.tmp 78) = .bool true) ∧ (ev (.tmp 83) = .bool true) ∧ True := hG
        obtain ⟨g28, g33, _⟩ := hg
        clear hG hfr
        refine OpSays.value (v := .bool true) (w' := w1) ?_ ⟨⟨⟨hx, hy, hz⟩, hO⟩, Only.refl _ _, rfl⟩
        go_simp
      case op35 =>
        intro ev w1 hT1 hc hf hfr hG
        rw [if_pos (by decide)]
        obtain ⟨⟨hx, hy, hz⟩, hO⟩ := hT1
        have hg : (ev (.tmp 84) = .bool true) ∧ True := hG
        obtain ⟨g34, _⟩ := hg
        clear hG hfr
        refine OpSays.value (v := .bool true) (w' := w1) ?_ ⟨⟨⟨hx, hy, hz⟩, hO⟩, Only.refl _ _, rfl⟩
        go_simp
      case op36 =>
        intro ev w1 hT1 hc hf hfr hG
        rw [if_pos (by decide)]
        obtain ⟨⟨hx, hy, hz⟩, hO⟩ := hT1
        clear hG hfr
        refine OpSays.enter (f := 10) (args := #[]) (w' := w1) ?_ ?_
        · go_simp
        · refine (works24 w1).mono ?_
          rintro e' w2 ⟨rfl, hk⟩
          exact ⟨_, rfl, ⟨⟨hk.at hx (fun h => h), hk.at hy (fun h => h), hk.at hz (fun h => h)⟩, hO.then hk (fun _ _ h => h)⟩, hk, rfl⟩
      case op37 =>
        intro ev w1 hT1 hc hf hfr hG
        rw [if_pos (by decide)]
        obtain ⟨⟨hx, hy, hz⟩, hO⟩ := hT1
        have hg : (ev (.tmp 85) = .bool true) ∧ (ev (.tmp 86) = .bool true) ∧ True := hG
        obtain ⟨g35, g36, _⟩ := hg
        clear hG hfr
        refine OpSays.value (v := .bool true) (w' := w1) ?_ ⟨⟨⟨hx, hy, hz⟩, hO⟩, Only.refl _ _, rfl⟩
        go_simp
      case op38 =>
        intro ev w1 hT1 hc hf hfr hG
        rw [if_pos (by decide)]
        obtain ⟨⟨hx, hy, hz⟩, hO⟩ := hT1
        have hg : (ev (.tmp 87) = .bool true) ∧ True := hG
        obtain ⟨g37, _⟩ := hg
        clear hG hfr
        refine OpSays.value (v := .bool true) (w' := w1) ?_ ⟨⟨⟨hx, hy, hz⟩, hO⟩, Only.refl _ _, rfl⟩
        go_simp
    rintro ⟨tm, df⟩ wz ⟨⟨hxz, hyz, hzz⟩, hOz⟩ hsz hdf hfr hG
    have k4 : tm.getD 4 undef = .bool true := AllG.get hG 38 (by decide)
    have he : tm = #[tm.getD 0 undef, tm.getD 1 undef, tm.getD 2 undef, tm.getD 3 undef, tm.getD 4 undef, tm.getD 5 undef, tm.getD 6 undef, tm.getD 7 undef, tm.getD 8 undef, tm.getD 9 undef, tm.getD 10 undef, tm.getD 11 undef, tm.getD 12 undef, tm.getD 13 undef, tm.getD 14 undef, tm.getD 15 undef, tm.getD 16 undef, tm.getD 17 undef, tm.getD 18 undef, tm.getD 19 undef, tm.getD 20 undef, tm.getD 21 undef, tm.getD 22 undef, tm.getD 23 undef, tm.getD 24 undef, tm.getD 25 undef, tm.getD 26 undef, tm.getD 27 undef, tm.getD 28 undef, tm.getD 29 undef, tm.getD 30 undef, tm.getD 31 undef, tm.getD 32 undef, tm.getD 33 undef, tm.getD 34 undef, tm.getD 35 undef, tm.getD 36 undef, tm.getD 37 undef, tm.getD 38 undef, tm.getD 39 undef, tm.getD 40 undef, tm.getD 41 undef, tm.getD 42 undef, tm.getD 43 undef, tm.getD 44 undef, tm.getD 45 undef, tm.getD 46 undef, tm.getD 47 undef, tm.getD 48 undef, tm.getD 49 undef, tm.getD 50 undef, tm.getD 51 undef, tm.getD 52 undef, tm.getD 53 undef, tm.getD 54 undef, tm.getD 55 undef, tm.getD 56 undef, tm.getD 57 undef, tm.getD 58 undef, tm.getD 59 undef, tm.getD 60 undef, tm.getD 61 undef, tm.getD 62 undef, tm.getD 63 undef, tm.getD 64 undef, tm.getD 65 undef, tm.getD 66 undef, tm.getD 67 undef, tm.getD 68 undef, tm.getD 69 undef, tm.getD 70 undef, tm.getD 71 undef, tm.getD 72 undef, tm.getD 73 undef, tm.getD 74 undef, tm.getD 75 undef, tm.getD 76 undef, tm.getD 77 undef, tm.getD 78 undef, tm.getD 79 undef, tm.getD 80 undef, tm.getD 81 undef, tm.getD 82 undef, tm.getD 83 undef, tm.getD 84 undef, tm.getD 85 undef, tm.getD 86 undef, tm.getD 87 undef] := arr_eta (n := 88) hsz
    replace hdf : df = [] := hdf
    subst hdf
    clear hsz hfr hG
    rw [he, k4]
    clear he k4
    generalize tm.getD 0 undef = x0
    generalize tm.getD 1 undef = x1
    generalize tm.getD 2 undef = x2
    generalize tm.getD 3 undef = x3
    generalize tm.getD 5 undef = x5
    generalize tm.getD 6 undef = x6
    generalize tm.getD 7 undef = x7
    generalize tm.getD 8 undef = x8
    generalize tm.getD 9 undef = x9
    generalize tm.getD 10 undef = x10
    generalize tm.getD 11 undef = x11
    generalize tm.getD 12 undef = x12
    generalize tm.getD 13 undef = x13
    generalize tm.getD 14 undef = x14
    generalize tm.getD 15 undef = x15
    generalize tm.getD 16 undef = x16
    generalize tm.getD 17 undef = x17
    generalize tm.getD 18 undef = x18
    generalize tm.getD 19 undef = x19
    generalize tm.getD 20 undef = x20
    generalize tm.getD 21 undef = x21
    generalize tm.getD 22 undef = x22
    generalize tm.getD 23 undef = x23
    generalize tm.getD 24 undef = x24
    generalize tm.getD 25 undef = x25
    generalize tm.getD 26 undef = x26
    generalize tm.getD 27 undef = x27
    generalize tm.getD 28 undef = x28
    generalize tm.getD 29 undef = x29
    generalize tm.getD 30 undef = x30
    generalize tm.getD 31 undef = x31
    generalize tm.getD 32 undef = x32
    generalize tm.getD 33 undef = x33
    generalize tm.getD 34 undef = x34
    generalize tm.getD 35 undef = x35
    generalize tm.getD 36 undef = x36
    generalize tm.getD 37 undef = x37
    generalize tm.getD 38 undef = x38
    generalize tm.getD 39 undef = x39
    generalize tm.getD 40 undef = x40
    generalize tm.getD 41 undef = x41
    generalize tm.getD 42 undef = x42
    generalize tm.getD 43 undef = x43
    generalize tm.getD 44 undef = x44
    generalize tm.getD 45 undef = x45
    generalize tm.getD 46 undef = x46
    generalize tm.getD 47 undef = x47
    generalize tm.getD 48 undef = x48
    generalize tm.getD 49 undef = x49
    generalize tm.getD 50 undef = x50
    generalize tm.getD 51 undef = x51
    generalize tm.getD 52 undef = x52
    generalize tm.getD 53 undef = x53
    generalize tm.getD 54 undef = x54
    generalize tm.getD 55 undef = x55
    generalize tm.getD 56 undef = x56
    generalize tm.getD 57 undef = x57
    generalize tm.getD 58 undef = x58
    generalize tm.getD 59 undef = x59
    generalize tm.getD 60 undef = x60
    generalize tm.getD 61 undef = x61
    generalize tm.getD 62 undef = x62
    generalize tm.getD 63 undef = x63
    generalize tm.getD 64 undef = x64
    generalize tm.getD 65 undef = x65
    generalize tm.getD 66 undef = x66
    generalize tm.getD 67 undef = x67
    generalize tm.getD 68 undef = x68
    generalize tm.getD 69 undef = x69
    generalize tm.getD 70 undef = x70
    generalize tm.getD 71 undef = x71
    generalize tm.getD 72 undef = x72
    generalize tm.getD 73 undef = x73
    generalize tm.getD 74 undef = x74
    generalize tm.getD 75 undef = x75
    generalize tm.getD 76 undef = x76
    generalize tm.getD 77 undef = x77
    generalize tm.getD 78 undef = x78
    generalize tm.getD 79 undef = x79
    generalize tm.getD 80 undef = x80
    generalize tm.getD 81 undef = x81
    generalize tm.getD 82 undef = x82
    generalize tm.getD 83 undef = x83
    generalize tm.getD 84 undef = x84
    generalize tm.getD 85 undef = x85
    generalize tm.getD 86 undef = x86
    generalize tm.getD 87 undef = x87
    go_wp2_with fail
    go_ret
    exact ⟨rfl, hOz.below (Nat.le_refl _) (fun _ _ h => h)⟩

end Go.Proofs.Yteifehienpeaiaa

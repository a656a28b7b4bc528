/-
  Decode, by the code.
  Conditions: strings within the form's reach.
-/
import Derived.Test.YteifehienpeaiaaDecGet
import Derived.Test.YteifehienpeaiaaFacts
set_option linter.unusedVariables false
set_option linter.unusedSimpArgs false
set_option maxRecDepth 100000
namespace Go.Proofs.Yteifehienpeaiaa
open Go.RowKit

def dr2G (b z : Nat) (s : ByteArray) (β : Bool) : Nat → Value → World → Prop
  | 0, v, w' => v = .string s
  | 1, v, w' => v = .int .i64 (s.size)
  | 2, v, w' => v = .bool false
  | 3, v, w' => v = .bool false
  | 4, v, w' => v = .string s
  | 5, v, w' => v = .int .i64 (s.size)
  | 6, v, w' => v = .int .i64 ((s.size : Int) - 16)
  | 7, v, w' => v = .int .i64 ((s.size : Int) - 16 - 4)
  | 8, v, w' => v = .func (.func 42) #[] #[.pointer (some ⟨b, 0, none⟩)]
  | 9, v, w' => v = .int .i64 (numAt s 14 2)
  | 10, v, w' => v = .bool β
  | 11, v, w' => v = .bool β
  | _, _, _ => True
def dr2Ds : List Nat := [7, 8, 9, 10, 11, 12, 13, 14, 15, 16, 17, 18]
def dr2Need : List (List Nat) := [[], [0], [1], [2], [], [4], [5], [6], [], [8], [7, 9], [3, 10]]
def dr2Gs : List (Option Bool) := [none, none, none, some false]
theorem dr2G.keep {b z : Nat} {s : ByteArray} {β : Bool} : ∀ j v w w', dr2G b z s β j v w → Only (fun _ => False) w w' → dr2G b z s β j v w' := by
  intro j v w w' h hO
  match j with
  | 0 => exact h
  | 1 => exact h
  | 2 => exact h
  | 3 => exact h
  | 4 => exact h
  | 5 => exact h
  | 6 => exact h
  | 7 => exact h
  | 8 => exact h
  | 9 => exact h
  | 10 => exact h
  | 11 => exact h
  | n + 12 => trivial
theorem dr2G.guard {b z : Nat} {s : ByteArray} {β : Bool} : ∀ g' b', dr2Gs.getD g' none = some b' → ∀ v w, dr2G b z s β g' v w → v = .bool b' := by
  intro g' b' hbb v w hgg
  match g', hbb, hgg with
  | 0, hbb, hgg => cases hbb
  | 1, hbb, hgg => cases hbb
  | 2, hbb, hgg => cases hbb
  | 3, hbb, hgg => cases hbb; exact hgg
  | n' + 4, hbb, hgg => exact absurd hbb (by simp [dr2Gs])
def dr4G (b z : Nat) (s : ByteArray) : Nat → Value → World → Prop
  | 0, v, w' => v = .func (.func 42) #[] #[.pointer (some ⟨b, 0, none⟩)]
  | 1, v, w' => v = .int .i64 (numAt s 0 1)
  | 2, v, w' => v = .func (.func 42) #[] #[.pointer (some ⟨b, 0, none⟩)]
  | 3, v, w' => v = .int .i64 (numAt s 1 4)
  | 4, v, w' => v = .func (.func 42) #[] #[.pointer (some ⟨b, 0, none⟩)]
  | 5, v, w' => v = .int .i64 (numAt s 5 1)
  | 6, v, w' => v = .func (.func 42) #[] #[.pointer (some ⟨b, 0, none⟩)]
  | 7, v, w' => v = .int .i64 (numAt s 6 4)
  | 8, v, w' => v = .func (.func 42) #[] #[.pointer (some ⟨b, 0, none⟩)]
  | 9, v, w' => v = .int .i64 (numAt s 10 4)
  | 10, v, w' => v = .string s
  | 11, v, w' => v = .string s
  | 12, v, w' => v = .int .i64 (s.size)
  | 13, v, w' => v = .int .i64 ((s.size : Int) - 4)
  | 14, v, w' => v = .string (s.extract 16 (s.size - 4))
  | 15, v, w' => v = .agg #[.int .i64 (numAt s 0 1), .int .i64 (numAt s 1 4), .int .i64 (numAt s 5 1), .int .i64 (numAt s 6 4), .int .i64 (numAt s 10 4), .string (s.extract 16 (s.size - 4))]
  | 16, v, w' => ∃ g, v = .pointer (some ⟨g, 0, none⟩) ∧ z < g ∧ w'.heap[g]? = some (.cells #[.int .i64 0, .int .i64 0, .int .i64 0, .int .i64 0, .int .i64 0, .string ⟨#[]⟩] 23 (0, 0))
  | _, _, _ => True
def dr4Ds : List Nat := [20, 21, 22, 23, 24, 25, 26, 27, 28, 29, 30, 31, 32, 33, 34, 35, 5]
def dr4Need : List (List Nat) := [[], [0], [], [2], [], [4], [], [6], [], [8], [], [], [11], [12], [10, 13], [1, 3, 5, 7, 9, 14], []]
def dr4Gs : List (Option Bool) := []
theorem dr4G.keep {b z : Nat} {s : ByteArray} : ∀ j v w w', dr4G b z s j v w → Only (fun _ => False) w w' → dr4G b z s j v w' := by
  intro j v w w' h hO
  match j with
  | 0 => exact h
  | 1 => exact h
  | 2 => exact h
  | 3 => exact h
  | 4 => exact h
  | 5 => exact h
  | 6 => exact h
  | 7 => exact h
  | 8 => exact h
  | 9 => exact h
  | 10 => exact h
  | 11 => exact h
  | 12 => exact h
  | 13 => exact h
  | 14 => exact h
  | 15 => exact h
  | 16 => obtain ⟨g, h1, h2, h3⟩ := h; exact ⟨g, h1, h2, hO.at h3 (fun h => h)⟩
  | n + 17 => trivial
theorem dr4G.guard {b z : Nat} {s : ByteArray} : ∀ g' b', dr4Gs.getD g' none = some b' → ∀ v w, dr4G b z s g' v w → v = .bool b' := by
  intro g' b' hbb v w hgg
  match g', hbb, hgg with
  | n' + 0, hbb, hgg => exact absurd hbb (by simp [dr4Gs])
def dr5G (b z g : Nat) (s : ByteArray) (k e r n a : Int) (d : ByteArray) (β : Bool) : Nat → Value → World → Prop
  | 0, v, w' => v = .agg #[.int .i64 k, .int .i64 e, .int .i64 r, .int .i64 n, .int .i64 a, .string d]
  | 1, v, w' => v = .int .i64 0
  | 2, v, w' => v = .bool false
  | 3, v, w' => v = .bool false
  | 4, v, w' => v = .agg #[.int .i64 k, .int .i64 e, .int .i64 r, .int .i64 n, .int .i64 a, .string d]
  | 5, v, w' => v = .string (letBytes k e r n a d)
  | 6, v, w' => v = .string s
  | 7, v, w' => v = .bool β
  | 8, v, w' => v = .bool β
  | _, _, _ => True
def dr5Ds : List Nat := [36, 37, 38, 39, 40, 41, 42, 43, 44]
def dr5Need : List (List Nat) := [[], [0], [1], [2], [], [4], [], [5, 6], [3, 7]]
def dr5Gs : List (Option Bool) := [none, none, none, some false]
theorem dr5G.keep {b z g : Nat} {s : ByteArray} {k e r n a : Int} {d : ByteArray} {β : Bool} : ∀ j v w w', dr5G b z g s k e r n a d β j v w → Only (fun _ => False) w w' → dr5G b z g s k e r n a d β j v w' := by
  intro j v w w' h hO
  match j with
  | 0 => exact h
  | 1 => exact h
  | 2 => exact h
  | 3 => exact h
  | 4 => exact h
  | 5 => exact h
  | 6 => exact h
  | 7 => exact h
  | 8 => exact h
  | n + 9 => trivial
theorem dr5G.guard {b z g : Nat} {s : ByteArray} {k e r n a : Int} {d : ByteArray} {β : Bool} : ∀ g' b', dr5Gs.getD g' none = some b' → ∀ v w, dr5G b z g s k e r n a d β g' v w → v = .bool b' := by
  intro g' b' hbb v w hgg
  match g', hbb, hgg with
  | 0, hbb, hgg => cases hbb
  | 1, hbb, hgg => cases hbb
  | 2, hbb, hgg => cases hbb
  | 3, hbb, hgg => cases hbb; exact hgg
  | n' + 4, hbb, hgg => exact absurd hbb (by simp [dr5Gs])
def dr6G (b z g : Nat) (s : ByteArray) (k e r n a : Int) (d : ByteArray) (β : Bool) : Nat → Value → World → Prop
  | 0, v, w' => v = .agg #[.int .i64 k, .int .i64 e, .int .i64 r, .int .i64 n, .int .i64 a, .string d]
  | 1, v, w' => v = .int .i64 240
  | 2, v, w' => v = .bool true
  | 3, v, w' => v = .bool true
  | 4, v, w' => True
  | 5, v, w' => True
  | 6, v, w' => True
  | 7, v, w' => True
  | 8, v, w' => v = .bool true
  | _, _, _ => True
def dr6Ds : List Nat := [36, 37, 38, 39, 40, 41, 42, 43, 44]
def dr6Need : List (List Nat) := [[], [0], [1], [2], [], [], [], [], [3, 7]]
def dr6Gs : List (Option Bool) := [none, none, none, some true]
theorem dr6G.keep {b z g : Nat} {s : ByteArray} {k e r n a : Int} {d : ByteArray} {β : Bool} : ∀ j v w w', dr6G b z g s k e r n a d β j v w → Only (fun _ => False) w w' → dr6G b z g s k e r n a d β j v w' := by
  intro j v w w' h hO
  match j with
  | 0 => exact h
  | 1 => exact h
  | 2 => exact h
  | 3 => exact h
  | 4 => exact h
  | 5 => exact h
  | 6 => exact h
  | 7 => exact h
  | 8 => exact h
  | n + 9 => trivial
theorem dr6G.guard {b z g : Nat} {s : ByteArray} {k e r n a : Int} {d : ByteArray} {β : Bool} : ∀ g' b', dr6Gs.getD g' none = some b' → ∀ v w, dr6G b z g s k e r n a d β g' v w → v = .bool b' := by
  intro g' b' hbb v w hgg
  match g', hbb, hgg with
  | 0, hbb, hgg => cases hbb
  | 1, hbb, hgg => cases hbb
  | 2, hbb, hgg => cases hbb
  | 3, hbb, hgg => cases hbb; exact hgg
  | n' + 4, hbb, hgg => exact absurd hbb (by simp [dr6Gs])

/-- Six cells of a block, stored one behind the other. -/
def set6w (w : World) (z : Nat) (v0 v1 v2 v3 v4 v5 : Value) : World := (((((w.setCell ⟨z, 0, none⟩ v0).setCell ⟨z, 1, none⟩ v1).setCell ⟨z, 2, none⟩ v2).setCell ⟨z, 3, none⟩ v3).setCell ⟨z, 4, none⟩ v4).setCell ⟨z, 5, none⟩ v5
theorem set6 {w : World} {z : Nat} {T : TypeId} {c0 c1 c2 c3 c4 c5 : Value} (h : w.heap[z]? = some (.cells #[c0, c1, c2, c3, c4, c5] T (0, 0))) (v0 v1 v2 v3 v4 v5 : Value) : (set6w w z v0 v1 v2 v3 v4 v5).heap[z]? = some (.cells #[v0, v1, v2, v3, v4, v5] T (0, 0)) := by
  have := blk_set (blk_set (blk_set (blk_set (blk_set (blk_set h 0 v0) 1 v1) 2 v2) 3 v3) 4 v4) 5 v5
  unfold set6w
  rw [this]
  simp

theorem set6_only {S : Nat → Prop} {a w : World} {z : Nat} (h : Only S a w) (hz : z < a.heap.size → S z) (v0 v1 v2 v3 v4 v5 : Value) : Only S a (set6w w z v0 v1 v2 v3 v4 v5) :=
  (((((h.setCell ⟨z, 0, none⟩ v0 hz).setCell ⟨z, 1, none⟩ v1 hz).setCell ⟨z, 2, none⟩ v2 hz).setCell ⟨z, 3, none⟩ v3 hz).setCell ⟨z, 4, none⟩ v4 hz).setCell ⟨z, 5, none⟩ v5 hz

/-- What Decode tells of bytes that are none. -/
def noLetter : Value := .tuple #[.agg #[.int .i64 0, .int .i64 0, .int .i64 0, .int .i64 0, .int .i64 0, .string ⟨#[]⟩], .int .i64 240]

set_option maxHeartbeats 4000000 in
theorem dec_short (s : ByteArray) (w : World) (h20 : s.size < 20) :
    Calls Try.prog 13 #[.string s] w fun e w' => e = .returned noLetter ∧ Only (fun _ => False) w w' := by
  have d1 : decide ((s.size : Int) < 20) = true := decide_eq_true (by omega)
  have hO := ((Only.refl (fun _ => False) w).alloc (.cells #[.string s] 9)).alloc (.cells #[.int .i64 0, .int .i64 0, .int .i64 0, .int .i64 0, .int .i64 0, .string ⟨#[]⟩] 23)
  have hz := blk_new2 w (.cells #[.string s] 9) (.cells #[.int .i64 0, .int .i64 0, .int .i64 0, .int .i64 0, .int .i64 0, .string ⟨#[]⟩] 23)
  have hb := (blk_cell (blk_alloc (blk_new w (.cells #[.string s] 9)) (.cells #[.int .i64 0, .int .i64 0, .int .i64 0, .int .i64 0, .int .i64 0, .string ⟨#[]⟩] 23)) 0).trans rfl
  unfold noLetter
  go_enter Try.func13, Try.ntmps13
  go_wp2_with fail
  generalize (w.alloc (.cells #[.string s] 9)).alloc (.cells #[.int .i64 0, .int .i64 0, .int .i64 0, .int .i64 0, .int .i64 0, .string ⟨#[]⟩] 23) = w0 at hO hb hz ⊢
  have hbz : w.heap.size + 1 < w0.heap.size := heap_lt hz
  generalize hzz : w.heap.size + 1 = z at hz hbz ⊢
  generalize hbb : w.heap.size = b at hb hzz ⊢
  go_quiet (fail)
  replace hz : (w0.drewN nq).heap[z]? = _ := hz
  replace hO := hO.drewN nq
  generalize w0.drewN nq = w1 at hz hO ⊢
  have q0 := blk_cell hz 0
  have q1 := blk_cell hz 1
  have q2 := blk_cell hz 2
  have q3 := blk_cell hz 3
  have q4 := blk_cell hz 4
  have q5 := blk_cell hz 5
  have qf := blk_free hz
  simp only [List.getElem?_toArray, List.getElem?_cons_zero, List.getElem?_cons_succ] at q0 q1 q2 q3 q4 q5
  go_wp2_with fail
  have hs := set6 hz (.int .i64 0) (.int .i64 0) (.int .i64 0) (.int .i64 0) (.int .i64 0) (.string ⟨#[]⟩)
  have hOO : Only (fun _ => False) w (set6w w1 z (.int .i64 0) (.int .i64 0) (.int .i64 0) (.int .i64 0) (.int .i64 0) (.string ⟨#[]⟩)) := set6_only hO (fun h => by omega) _ _ _ _ _ _
  change bodyPost _ _ _ _ _ (set6w w1 z (.int .i64 0) (.int .i64 0) (.int .i64 0) (.int .i64 0) (.int .i64 0) (.string ⟨#[]⟩))
  generalize set6w w1 z (.int .i64 0) (.int .i64 0) (.int .i64 0) (.int .i64 0) (.int .i64 0) (.string ⟨#[]⟩) = wz at hs hOO ⊢
  have y0 := blk_cell hs 0
  have y1 := blk_cell hs 1
  have y2 := blk_cell hs 2
  have y3 := blk_cell hs 3
  have y4 := blk_cell hs 4
  have y5 := blk_cell hs 5
  simp only [List.getElem?_toArray, List.getElem?_cons_zero, List.getElem?_cons_succ] at y0 y1 y2 y3 y4 y5
  clear hs q0 q1 q2 q3 q4 q5 qf
  refine bodyPost_ret (v := .tuple #[.agg #[.int .i64 0, .int .i64 0, .int .i64 0, .int .i64 0, .int .i64 0, .string ⟨#[]⟩], .int .i64 240]) (by simp [results, Try.results13, go_sem, y0, y1, y2, y3, y4, y5]) rfl ⟨rfl, hOO⟩

set_option maxHeartbeats 4000000 in
theorem dec_long (s : ByteArray) (w : World) (h20 : 20 ≤ s.size) (hs : s.size ≤ 140737488355328) (hβ : (((s.size : Int) - 16 - 4) != numAt s 14 2) = true) :
    Calls Try.prog 13 #[.string s] w fun e w' => e = .returned noLetter ∧ Only (fun _ => False) w w' := by
  have d1 : decide ((s.size : Int) < 20) = false := decide_eq_false (by omega)
  have hO := ((Only.refl (fun _ => False) w).alloc (.cells #[.string s] 9)).alloc (.cells #[.int .i64 0, .int .i64 0, .int .i64 0, .int .i64 0, .int .i64 0, .string ⟨#[]⟩] 23)
  have hb := (blk_cell (blk_alloc (blk_new w (.cells #[.string s] 9)) (.cells #[.int .i64 0, .int .i64 0, .int .i64 0, .int .i64 0, .int .i64 0, .string ⟨#[]⟩] 23)) 0).trans rfl
  have hz := blk_new2 w (.cells #[.string s] 9) (.cells #[.int .i64 0, .int .i64 0, .int .i64 0, .int .i64 0, .int .i64 0, .string ⟨#[]⟩] 23)
  unfold noLetter
  go_enter Try.func13, Try.ntmps13
  go_wp2_with fail
  generalize (w.alloc (.cells #[.string s] 9)).alloc (.cells #[.int .i64 0, .int .i64 0, .int .i64 0, .int .i64 0, .int .i64 0, .string ⟨#[]⟩] 23) = w0 at hO hb hz ⊢
  have hbz : w.heap.size + 1 < w0.heap.size := heap_lt hz
  generalize hzz : w.heap.size + 1 = z at hz hbz ⊢
  generalize hbb : w.heap.size = b at hb hzz ⊢
  refine wp_region_facts_tail 12 dr2Ds dr2Need dr2Gs (fun w' => (w'.cell? ⟨b, 0, none⟩ = some (.string s) ∧ w'.heap[z]? = some (.cells #[.int .i64 0, .int .i64 0, .int .i64 0, .int .i64 0, .int .i64 0, .string ⟨#[]⟩] 23 (0, 0))) ∧ Only (fun _ => False) w w') (Only (fun _ => False)) (dr2G b z s true) rfl rfl (by kernel_rfl) (by kernel_rfl) (by kernel_rfl) (by kernel_rfl) (by kernel_rfl) ⟨⟨hb, hz⟩, hO.drew⟩ dr2G.keep dr2G.guard ?_ ?_
  · refine And.intro ?op0 (And.intro ?op1 (And.intro ?op2 (And.intro ?op3 (And.intro ?op4 (And.intro ?op5 (And.intro ?op6 (And.intro ?op7 (And.intro ?op8 (And.intro ?op9 (And.intro ?op10 (And.intro ?op11 trivial)))))))))))
    case op0 =>
      intro ev w1 hT1 hc hf hfr hG
      rw [if_pos (by decide)]
      obtain ⟨⟨hb, hz⟩, hO⟩ := hT1
      have h1 : ev (.tmp 1) = .pointer (some ⟨b, 0, none⟩) := hfr 1 (by decide)
      clear hG hfr
      refine OpSays.value (v := .string s) (w' := w1) ?_ ⟨⟨⟨hb, hz⟩, hO⟩, Only.refl _ _, rfl⟩
      go_simp
    case op1 =>
      intro ev w1 hT1 hc hf hfr hG
      rw [if_pos (by decide)]
      obtain ⟨⟨hb, hz⟩, hO⟩ := hT1
      have hg : (ev (.tmp 7) = .string s) ∧ True := hG
      obtain ⟨g0, _⟩ := hg
      clear hG hfr
      refine OpSays.value (v := .int .i64 (s.size)) (w' := w1) ?_ ⟨⟨⟨hb, hz⟩, hO⟩, Only.refl _ _, rfl⟩
      go_simp
    case op2 =>
      intro ev w1 hT1 hc hf hfr hG
      rw [if_pos (by decide)]
      obtain ⟨⟨hb, hz⟩, hO⟩ := hT1
      have hg : (ev (.tmp 8) = .int .i64 (s.size)) ∧ True := hG
      obtain ⟨g1, _⟩ := hg
      clear hG hfr
      refine OpSays.value (v := .bool false) (w' := w1) ?_ ⟨⟨⟨hb, hz⟩, hO⟩, Only.refl _ _, rfl⟩
      go_simp
    case op3 =>
      intro ev w1 hT1 hc hf hfr hG
      rw [if_pos (by decide)]
      obtain ⟨⟨hb, hz⟩, hO⟩ := hT1
      have hg : (ev (.tmp 9) = .bool false) ∧ True := hG
      obtain ⟨g2, _⟩ := hg
      clear hG hfr
      refine OpSays.value (v := .bool false) (w' := w1) ?_ ⟨⟨⟨hb, hz⟩, hO⟩, Only.refl _ _, rfl⟩
      go_simp
    case op4 =>
      intro ev w1 hT1 hc hf hfr hG
      rw [if_pos (by decide)]
      obtain ⟨⟨hb, hz⟩, hO⟩ := hT1
      have h1 : ev (.tmp 1) = .pointer (some ⟨b, 0, none⟩) := hfr 1 (by decide)
      clear hG hfr
      refine OpSays.value (v := .string s) (w' := w1) ?_ ⟨⟨⟨hb, hz⟩, hO⟩, Only.refl _ _, rfl⟩
      go_simp
    case op5 =>
      intro ev w1 hT1 hc hf hfr hG
      rw [if_pos (by decide)]
      obtain ⟨⟨hb, hz⟩, hO⟩ := hT1
      have hg : (ev (.tmp 11) = .string s) ∧ True := hG
      obtain ⟨g4, _⟩ := hg
      clear hG hfr
      refine OpSays.value (v := .int .i64 (s.size)) (w' := w1) ?_ ⟨⟨⟨hb, hz⟩, hO⟩, Only.refl _ _, rfl⟩
      go_simp
    case op6 =>
      intro ev w1 hT1 hc hf hfr hG
      rw [if_pos (by decide)]
      obtain ⟨⟨hb, hz⟩, hO⟩ := hT1
      have hg : (ev (.tmp 12) = .int .i64 (s.size)) ∧ True := hG
      obtain ⟨g5, _⟩ := hg
      clear hG hfr
      refine OpSays.value (v := .int .i64 ((s.size : Int) - 16)) (w' := w1) ?_ ⟨⟨⟨hb, hz⟩, hO⟩, Only.refl _ _, rfl⟩
      go_simp; rw [IntKind.wrap_i64]; omega
    case op7 =>
      intro ev w1 hT1 hc hf hfr hG
      rw [if_pos (by decide)]
      obtain ⟨⟨hb, hz⟩, hO⟩ := hT1
      have hg : (ev (.tmp 13) = .int .i64 ((s.size : Int) - 16)) ∧ True := hG
      obtain ⟨g6, _⟩ := hg
      clear hG hfr
      refine OpSays.value (v := .int .i64 ((s.size : Int) - 16 - 4)) (w' := w1) ?_ ⟨⟨⟨hb, hz⟩, hO⟩, Only.refl _ _, rfl⟩
      go_simp; rw [IntKind.wrap_i64]; omega
    case op8 =>
      intro ev w1 hT1 hc hf hfr hG
      rw [if_pos (by decide)]
      obtain ⟨⟨hb, hz⟩, hO⟩ := hT1
      have h4 : ev (.tmp 4) = .func (.func 42) #[] #[.pointer (some ⟨b, 0, none⟩)] := hfr 4 (by decide)
      clear hG hfr
      refine OpSays.value (v := .func (.func 42) #[] #[.pointer (some ⟨b, 0, none⟩)]) (w' := w1) ?_ ⟨⟨⟨hb, hz⟩, hO⟩, Only.refl _ _, rfl⟩
      go_simp
    case op9 =>
      intro ev w1 hT1 hc hf hfr hG
      rw [if_pos (by decide)]
      obtain ⟨⟨hb, hz⟩, hO⟩ := hT1
      have hg : (ev (.tmp 15) = .func (.func 42) #[] #[.pointer (some ⟨b, 0, none⟩)]) ∧ True := hG
      obtain ⟨g8, _⟩ := hg
      clear hG hfr
      refine OpSays.enter (f := 42) (args := #[.int .i64 14, .int .i64 2, .pointer (some ⟨b, 0, none⟩)]) (w' := w1) ?_ ?_
      · go_simp
      · refine (dget2 s 14 b w1 hb (by omega) (by omega) (by omega)).mono ?_
        rintro e' w2 ⟨rfl, hk⟩
        exact ⟨_, rfl, ⟨⟨cell_only hk (fun h => h) hb, hk.at hz (fun h => h)⟩, hO.then hk (fun _ _ h => h)⟩, hk, rfl⟩
    case op10 =>
      intro ev w1 hT1 hc hf hfr hG
      rw [if_pos (by decide)]
      obtain ⟨⟨hb, hz⟩, hO⟩ := hT1
      have hg : (ev (.tmp 14) = .int .i64 ((s.size : Int) - 16 - 4)) ∧ (ev (.tmp 16) = .int .i64 (numAt s 14 2)) ∧ True := hG
      obtain ⟨g7, g9, _⟩ := hg
      clear hG hfr
      refine OpSays.value (v := .bool true) (w' := w1) ?_ ⟨⟨⟨hb, hz⟩, hO⟩, Only.refl _ _, rfl⟩
      go_simp
    case op11 =>
      intro ev w1 hT1 hc hf hfr hG
      rw [if_pos (by decide)]
      obtain ⟨⟨hb, hz⟩, hO⟩ := hT1
      have hg : (ev (.tmp 10) = .bool false) ∧ (ev (.tmp 17) = .bool true) ∧ True := hG
      obtain ⟨g3, g10, _⟩ := hg
      clear hG hfr
      refine OpSays.value (v := .bool true) (w' := w1) ?_ ⟨⟨⟨hb, hz⟩, hO⟩, Only.refl _ _, rfl⟩
      go_simp
  rintro ⟨tm, df⟩ w2 ⟨⟨hb2, hz2⟩, hO2⟩ hsz hdf hfr hG
  have k1 : tm.getD 1 undef = .pointer (some ⟨b, 0, none⟩) := hfr 1 (by decide)
  have k2 : tm.getD 2 undef = .pointer (some ⟨z, 0, none⟩) := hfr 2 (by decide)
  have k3 : tm.getD 3 undef = .int .i64 0 := hfr 3 (by decide)
  have k4 : tm.getD 4 undef = .func (.func 42) #[] #[.pointer (some ⟨b, 0, none⟩)] := hfr 4 (by decide)
  have k18 : tm.getD 18 undef = .bool true := AllG.get hG 11 (by decide)
  have he : tm = #[tm.getD 0 undef, tm.getD 1 undef, tm.getD 2 undef, tm.getD 3 undef, tm.getD 4 undef, tm.getD 5 undef, tm.getD 6 undef, tm.getD 7 undef, tm.getD 8 undef, tm.getD 9 undef, tm.getD 10 undef, tm.getD 11 undef, tm.getD 12 undef, tm.getD 13 undef, tm.getD 14 undef, tm.getD 15 undef, tm.getD 16 undef, tm.getD 17 undef, tm.getD 18 undef, tm.getD 19 undef, tm.getD 20 undef, tm.getD 21 undef, tm.getD 22 undef, tm.getD 23 undef, tm.getD 24 undef, tm.getD 25 undef, tm.getD 26 undef, tm.getD 27 undef, tm.getD 28 undef, tm.getD 29 undef, tm.getD 30 undef, tm.getD 31 undef, tm.getD 32 undef, tm.getD 33 undef, tm.getD 34 undef, tm.getD 35 undef, tm.getD 36 undef, tm.getD 37 undef, tm.getD 38 undef, tm.getD 39 undef, tm.getD 40 undef, tm.getD 41 undef, tm.getD 42 undef, tm.getD 43 undef, tm.getD 44 undef, tm.getD 45 undef, tm.getD 46 undef] := arr_eta (n := 47) hsz
  replace hdf : df = [] := hdf
  subst hdf
  clear hsz hfr hG
  rw [he, k1, k2, k3, k4, k18]
  clear he k1 k2 k3 k4 k18
  generalize tm.getD 0 undef = x0
  generalize tm.getD 5 undef = x5
  generalize tm.getD 6 undef = x6
  generalize tm.getD 7 undef = x7
  generalize tm.getD 8 undef = x8
  generalize tm.getD 9 undef = x9
  generalize tm.getD 10 undef = x10
  generalize tm.getD 11 undef = x11
  generalize tm.getD 12 undef = x12
  generalize tm.getD 13 undef = x13
  generalize tm.getD 14 undef = x14
  generalize tm.getD 15 undef = x15
  generalize tm.getD 16 undef = x16
  generalize tm.getD 17 undef = x17
  generalize tm.getD 19 undef = x19
  generalize tm.getD 20 undef = x20
  generalize tm.getD 21 undef = x21
  generalize tm.getD 22 undef = x22
  generalize tm.getD 23 undef = x23
  generalize tm.getD 24 undef = x24
  generalize tm.getD 25 undef = x25
  generalize tm.getD 26 undef = x26
  generalize tm.getD 27 undef = x27
  generalize tm.getD 28 undef = x28
  generalize tm.getD 29 undef = x29
  generalize tm.getD 30 undef = x30
  generalize tm.getD 31 undef = x31
  generalize tm.getD 32 undef = x32
  generalize tm.getD 33 undef = x33
  generalize tm.getD 34 undef = x34
  generalize tm.getD 35 undef = x35
  generalize tm.getD 36 undef = x36
  generalize tm.getD 37 undef = x37
  generalize tm.getD 38 undef = x38
  generalize tm.getD 39 undef = x39
  generalize tm.getD 40 undef = x40
  generalize tm.getD 41 undef = x41
  generalize tm.getD 42 undef = x42
  generalize tm.getD 43 undef = x43
  generalize tm.getD 44 undef = x44
  generalize tm.getD 45 undef = x45
  generalize tm.getD 46 undef = x46
  clear hz hO hb
  have q0 := blk_cell hz2 0
  have q1 := blk_cell hz2 1
  have q2 := blk_cell hz2 2
  have q3 := blk_cell hz2 3
  have q4 := blk_cell hz2 4
  have q5 := blk_cell hz2 5
  have qf := blk_free hz2
  simp only [List.getElem?_toArray, List.getElem?_cons_zero, List.getElem?_cons_succ] at q0 q1 q2 q3 q4 q5
  go_wp2_with fail
  have hs := set6 hz2 (.int .i64 0) (.int .i64 0) (.int .i64 0) (.int .i64 0) (.int .i64 0) (.string ⟨#[]⟩)
  have hOO : Only (fun _ => False) w (set6w w2 z (.int .i64 0) (.int .i64 0) (.int .i64 0) (.int .i64 0) (.int .i64 0) (.string ⟨#[]⟩)) := set6_only hO2 (fun h => by omega) _ _ _ _ _ _
  change bodyPost _ _ _ _ _ (set6w w2 z (.int .i64 0) (.int .i64 0) (.int .i64 0) (.int .i64 0) (.int .i64 0) (.string ⟨#[]⟩))
  generalize set6w w2 z (.int .i64 0) (.int .i64 0) (.int .i64 0) (.int .i64 0) (.int .i64 0) (.string ⟨#[]⟩) = wz at hs hOO ⊢
  have y0 := blk_cell hs 0
  have y1 := blk_cell hs 1
  have y2 := blk_cell hs 2
  have y3 := blk_cell hs 3
  have y4 := blk_cell hs 4
  have y5 := blk_cell hs 5
  simp only [List.getElem?_toArray, List.getElem?_cons_zero, List.getElem?_cons_succ] at y0 y1 y2 y3 y4 y5
  clear hs q0 q1 q2 q3 q4 q5 qf
  refine bodyPost_ret (v := .tuple #[.agg #[.int .i64 0, .int .i64 0, .int .i64 0, .int .i64 0, .int .i64 0, .string ⟨#[]⟩], .int .i64 240]) (by simp [results, Try.results13, go_sem, y0, y1, y2, y3, y4, y5]) rfl ⟨rfl, hOO⟩
set_option maxHeartbeats 4000000 in
theorem dec_shape (s : ByteArray) (w : World) (h20 : 20 ≤ s.size) (hs : s.size ≤ 140737488355328) (hβ : (((s.size : Int) - 16 - 4) != numAt s 14 2) = false) (hL : letterB (numAt s 0 1) (numAt s 1 4) (numAt s 5 1) (numAt s 6 4) (numAt s 10 4) (s.extract 16 (s.size - 4)) = false) :
    Calls Try.prog 13 #[.string s] w fun e w' => e = .returned noLetter ∧ Only (fun _ => False) w w' := by
  have d1 : decide ((s.size : Int) < 20) = false := decide_eq_false (by omega)
  have hO := ((Only.refl (fun _ => False) w).alloc (.cells #[.string s] 9)).alloc (.cells #[.int .i64 0, .int .i64 0, .int .i64 0, .int .i64 0, .int .i64 0, .string ⟨#[]⟩] 23)
  have hb := (blk_cell (blk_alloc (blk_new w (.cells #[.string s] 9)) (.cells #[.int .i64 0, .int .i64 0, .int .i64 0, .int .i64 0, .int .i64 0, .string ⟨#[]⟩] 23)) 0).trans rfl
  have hz := blk_new2 w (.cells #[.string s] 9) (.cells #[.int .i64 0, .int .i64 0, .int .i64 0, .int .i64 0, .int .i64 0, .string ⟨#[]⟩] 23)
  unfold noLetter
  go_enter Try.func13, Try.ntmps13
  go_wp2_with fail
  generalize (w.alloc (.cells #[.string s] 9)).alloc (.cells #[.int .i64 0, .int .i64 0, .int .i64 0, .int .i64 0, .int .i64 0, .string ⟨#[]⟩] 23) = w0 at hO hb hz ⊢
  have hbz : w.heap.size + 1 < w0.heap.size := heap_lt hz
  generalize hzz : w.heap.size + 1 = z at hz hbz ⊢
  generalize hbb : w.heap.size = b at hb hzz ⊢
  refine wp_region_facts_tail 12 dr2Ds dr2Need dr2Gs (fun w' => (w'.cell? ⟨b, 0, none⟩ = some (.string s) ∧ w'.heap[z]? = some (.cells #[.int .i64 0, .int .i64 0, .int .i64 0, .int .i64 0, .int .i64 0, .string ⟨#[]⟩] 23 (0, 0))) ∧ Only (fun _ => False) w w') (Only (fun _ => False)) (dr2G b z s false) rfl rfl (by kernel_rfl) (by kernel_rfl) (by kernel_rfl) (by kernel_rfl) (by kernel_rfl) ⟨⟨hb, hz⟩, hO.drew⟩ dr2G.keep dr2G.guard ?_ ?_
  · refine And.intro ?op0 (And.intro ?op1 (And.intro ?op2 (And.intro ?op3 (And.intro ?op4 (And.intro ?op5 (And.intro ?op6 (And.intro ?op7 (And.intro ?op8 (And.intro ?op9 (And.intro ?op10 (And.intro ?op11 trivial)))))))))))
    case op0 =>
      intro ev w1 hT1 hc hf hfr hG
      rw [if_pos (by decide)]
      obtain ⟨⟨hb, hz⟩, hO⟩ := hT1
      have h1 : ev (.tmp 1) = .pointer (some ⟨b, 0, none⟩) := hfr 1 (by decide)
      clear hG hfr
      refine OpSays.value (v := .string s) (w' := w1) ?_ ⟨⟨⟨hb, hz⟩, hO⟩, Only.refl _ _, rfl⟩
      go_simp
    case op1 =>
      intro ev w1 hT1 hc hf hfr hG
      rw [if_pos (by decide)]
      obtain ⟨⟨hb, hz⟩, hO⟩ := hT1
      have hg : (ev (.tmp 7) = .string s) ∧ True := hG
      obtain ⟨g0, _⟩ := hg
      clear hG hfr
      refine OpSays.value (v := .int .i64 (s.size)) (w' := w1) ?_ ⟨⟨⟨hb, hz⟩, hO⟩, Only.refl _ _, rfl⟩
      go_simp
    case op2 =>
      intro ev w1 hT1 hc hf hfr hG
      rw [if_pos (by decide)]
      obtain ⟨⟨hb, hz⟩, hO⟩ := hT1
      have hg : (ev (.tmp 8) = .int .i64 (s.size)) ∧ True := hG
      obtain ⟨g1, _⟩ := hg
      clear hG hfr
      refine OpSays.value (v := .bool false) (w' := w1) ?_ ⟨⟨⟨hb, hz⟩, hO⟩, Only.refl _ _, rfl⟩
      go_simp
    case op3 =>
      intro ev w1 hT1 hc hf hfr hG
      rw [if_pos (by decide)]
      obtain ⟨⟨hb, hz⟩, hO⟩ := hT1
      have hg : (ev (.tmp 9) = .bool false) ∧ True := hG
      obtain ⟨g2, _⟩ := hg
      clear hG hfr
      refine OpSays.value (v := .bool false) (w' := w1) ?_ ⟨⟨⟨hb, hz⟩, hO⟩, Only.refl _ _, rfl⟩
      go_simp
    case op4 =>
      intro ev w1 hT1 hc hf hfr hG
      rw [if_pos (by decide)]
      obtain ⟨⟨hb, hz⟩, hO⟩ := hT1
      have h1 : ev (.tmp 1) = .pointer (some ⟨b, 0, none⟩) := hfr 1 (by decide)
      clear hG hfr
      refine OpSays.value (v := .string s) (w' := w1) ?_ ⟨⟨⟨hb, hz⟩, hO⟩, Only.refl _ _, rfl⟩
      go_simp
    case op5 =>
      intro ev w1 hT1 hc hf hfr hG
      rw [if_pos (by decide)]
      obtain ⟨⟨hb, hz⟩, hO⟩ := hT1
      have hg : (ev (.tmp 11) = .string s) ∧ True := hG
      obtain ⟨g4, _⟩ := hg
      clear hG hfr
      refine OpSays.value (v := .int .i64 (s.size)) (w' := w1) ?_ ⟨⟨⟨hb, hz⟩, hO⟩, Only.refl _ _, rfl⟩
      go_simp
    case op6 =>
      intro ev w1 hT1 hc hf hfr hG
      rw [if_pos (by decide)]
      obtain ⟨⟨hb, hz⟩, hO⟩ := hT1
      have hg : (ev (.tmp 12) = .int .i64 (s.size)) ∧ True := hG
      obtain ⟨g5, _⟩ := hg
      clear hG hfr
      refine OpSays.value (v := .int .i64 ((s.size : Int) - 16)) (w' := w1) ?_ ⟨⟨⟨hb, hz⟩, hO⟩, Only.refl _ _, rfl⟩
      go_simp; rw [IntKind.wrap_i64]; omega
    case op7 =>
      intro ev w1 hT1 hc hf hfr hG
      rw [if_pos (by decide)]
      obtain ⟨⟨hb, hz⟩, hO⟩ := hT1
      have hg : (ev (.tmp 13) = .int .i64 ((s.size : Int) - 16)) ∧ True := hG
      obtain ⟨g6, _⟩ := hg
      clear hG hfr
      refine OpSays.value (v := .int .i64 ((s.size : Int) - 16 - 4)) (w' := w1) ?_ ⟨⟨⟨hb, hz⟩, hO⟩, Only.refl _ _, rfl⟩
      go_simp; rw [IntKind.wrap_i64]; omega
    case op8 =>
      intro ev w1 hT1 hc hf hfr hG
      rw [if_pos (by decide)]
      obtain ⟨⟨hb, hz⟩, hO⟩ := hT1
      have h4 : ev (.tmp 4) = .func (.func 42) #[] #[.pointer (some ⟨b, 0, none⟩)] := hfr 4 (by decide)
      clear hG hfr
      refine OpSays.value (v := .func (.func 42) #[] #[.pointer (some ⟨b, 0, none⟩)]) (w' := w1) ?_ ⟨⟨⟨hb, hz⟩, hO⟩, Only.refl _ _, rfl⟩
      go_simp
    case op9 =>
      intro ev w1 hT1 hc hf hfr hG
      rw [if_pos (by decide)]
      obtain ⟨⟨hb, hz⟩, hO⟩ := hT1
      have hg : (ev (.tmp 15) = .func (.func 42) #[] #[.pointer (some ⟨b, 0, none⟩)]) ∧ True := hG
      obtain ⟨g8, _⟩ := hg
      clear hG hfr
      refine OpSays.enter (f := 42) (args := #[.int .i64 14, .int .i64 2, .pointer (some ⟨b, 0, none⟩)]) (w' := w1) ?_ ?_
      · go_simp
      · refine (dget2 s 14 b w1 hb (by omega) (by omega) (by omega)).mono ?_
        rintro e' w2 ⟨rfl, hk⟩
        exact ⟨_, rfl, ⟨⟨cell_only hk (fun h => h) hb, hk.at hz (fun h => h)⟩, hO.then hk (fun _ _ h => h)⟩, hk, rfl⟩
    case op10 =>
      intro ev w1 hT1 hc hf hfr hG
      rw [if_pos (by decide)]
      obtain ⟨⟨hb, hz⟩, hO⟩ := hT1
      have hg : (ev (.tmp 14) = .int .i64 ((s.size : Int) - 16 - 4)) ∧ (ev (.tmp 16) = .int .i64 (numAt s 14 2)) ∧ True := hG
      obtain ⟨g7, g9, _⟩ := hg
      clear hG hfr
      refine OpSays.value (v := .bool false) (w' := w1) ?_ ⟨⟨⟨hb, hz⟩, hO⟩, Only.refl _ _, rfl⟩
      go_simp
    case op11 =>
      intro ev w1 hT1 hc hf hfr hG
      rw [if_pos (by decide)]
      obtain ⟨⟨hb, hz⟩, hO⟩ := hT1
      have hg : (ev (.tmp 10) = .bool false) ∧ (ev (.tmp 17) = .bool false) ∧ True := hG
      obtain ⟨g3, g10, _⟩ := hg
      clear hG hfr
      refine OpSays.value (v := .bool false) (w' := w1) ?_ ⟨⟨⟨hb, hz⟩, hO⟩, Only.refl _ _, rfl⟩
      go_simp
  rintro ⟨tm, df⟩ w2 ⟨⟨hb2, hz2⟩, hO2⟩ hsz hdf hfr hG
  have k1 : tm.getD 1 undef = .pointer (some ⟨b, 0, none⟩) := hfr 1 (by decide)
  have k2 : tm.getD 2 undef = .pointer (some ⟨z, 0, none⟩) := hfr 2 (by decide)
  have k3 : tm.getD 3 undef = .int .i64 0 := hfr 3 (by decide)
  have k4 : tm.getD 4 undef = .func (.func 42) #[] #[.pointer (some ⟨b, 0, none⟩)] := hfr 4 (by decide)
  have k18 : tm.getD 18 undef = .bool false := AllG.get hG 11 (by decide)
  have he : tm = #[tm.getD 0 undef, tm.getD 1 undef, tm.getD 2 undef, tm.getD 3 undef, tm.getD 4 undef, tm.getD 5 undef, tm.getD 6 undef, tm.getD 7 undef, tm.getD 8 undef, tm.getD 9 undef, tm.getD 10 undef, tm.getD 11 undef, tm.getD 12 undef, tm.getD 13 undef, tm.getD 14 undef, tm.getD 15 undef, tm.getD 16 undef, tm.getD 17 undef, tm.getD 18 undef, tm.getD 19 undef, tm.getD 20 undef, tm.getD 21 undef, tm.getD 22 undef, tm.getD 23 undef, tm.getD 24 undef, tm.getD 25 undef, tm.getD 26 undef, tm.getD 27 undef, tm.getD 28 undef, tm.getD 29 undef, tm.getD 30 undef, tm.getD 31 undef, tm.getD 32 undef, tm.getD 33 undef, tm.getD 34 undef, tm.getD 35 undef, tm.getD 36 undef, tm.getD 37 undef, tm.getD 38 undef, tm.getD 39 undef, tm.getD 40 undef, tm.getD 41 undef, tm.getD 42 undef, tm.getD 43 undef, tm.getD 44 undef, tm.getD 45 undef, tm.getD 46 undef] := arr_eta (n := 47) hsz
  replace hdf : df = [] := hdf
  subst hdf
  clear hsz hfr hG
  rw [he, k1, k2, k3, k4, k18]
  clear he k1 k2 k3 k4 k18
  generalize tm.getD 0 undef = x0
  generalize tm.getD 5 undef = x5
  generalize tm.getD 6 undef = x6
  generalize tm.getD 7 undef = x7
  generalize tm.getD 8 undef = x8
  generalize tm.getD 9 undef = x9
  generalize tm.getD 10 undef = x10
  generalize tm.getD 11 undef = x11
  generalize tm.getD 12 undef = x12
  generalize tm.getD 13 undef = x13
  generalize tm.getD 14 undef = x14
  generalize tm.getD 15 undef = x15
  generalize tm.getD 16 undef = x16
  generalize tm.getD 17 undef = x17
  generalize tm.getD 19 undef = x19
  generalize tm.getD 20 undef = x20
  generalize tm.getD 21 undef = x21
  generalize tm.getD 22 undef = x22
  generalize tm.getD 23 undef = x23
  generalize tm.getD 24 undef = x24
  generalize tm.getD 25 undef = x25
  generalize tm.getD 26 undef = x26
  generalize tm.getD 27 undef = x27
  generalize tm.getD 28 undef = x28
  generalize tm.getD 29 undef = x29
  generalize tm.getD 30 undef = x30
  generalize tm.getD 31 undef = x31
  generalize tm.getD 32 undef = x32
  generalize tm.getD 33 undef = x33
  generalize tm.getD 34 undef = x34
  generalize tm.getD 35 undef = x35
  generalize tm.getD 36 undef = x36
  generalize tm.getD 37 undef = x37
  generalize tm.getD 38 undef = x38
  generalize tm.getD 39 undef = x39
  generalize tm.getD 40 undef = x40
  generalize tm.getD 41 undef = x41
  generalize tm.getD 42 undef = x42
  generalize tm.getD 43 undef = x43
  generalize tm.getD 44 undef = x44
  generalize tm.getD 45 undef = x45
  generalize tm.getD 46 undef = x46
  clear hz hO hb
  go_wp2_with fail
  refine wp_region_facts_tail 17 dr4Ds dr4Need dr4Gs (fun w' => (w'.cell? ⟨b, 0, none⟩ = some (.string s) ∧ w'.heap[z]? = some (.cells #[.int .i64 0, .int .i64 0, .int .i64 0, .int .i64 0, .int .i64 0, .string ⟨#[]⟩] 23 (0, 0))) ∧ Only (fun _ => False) w w') (Only (fun _ => False)) (dr4G b z s) rfl rfl (by kernel_rfl) (by kernel_rfl) (by kernel_rfl) (by kernel_rfl) (by kernel_rfl) ⟨⟨hb2, hz2⟩, hO2.drew⟩ dr4G.keep dr4G.guard ?_ ?_
  · refine And.intro ?op0 (And.intro ?op1 (And.intro ?op2 (And.intro ?op3 (And.intro ?op4 (And.intro ?op5 (And.intro ?op6 (And.intro ?op7 (And.intro ?op8 (And.intro ?op9 (And.intro ?op10 (And.intro ?op11 (And.intro ?op12 (And.intro ?op13 (And.intro ?op14 (And.intro ?op15 (And.intro ?op16 trivial))))))))))))))))
    case op0 =>
      intro ev w1 hT1 hc hf hfr hG
      rw [if_pos (by decide)]
      obtain ⟨⟨hb, hz⟩, hO⟩ := hT1
      have h4 : ev (.tmp 4) = .func (.func 42) #[] #[.pointer (some ⟨b, 0, none⟩)] := hfr 4 (by decide)
      clear hG hfr
      refine OpSays.value (v := .func (.func 42) #[] #[.pointer (some ⟨b, 0, none⟩)]) (w' := w1) ?_ ⟨⟨⟨hb, hz⟩, hO⟩, Only.refl _ _, rfl⟩
      go_simp
    case op1 =>
      intro ev w1 hT1 hc hf hfr hG
      rw [if_pos (by decide)]
      obtain ⟨⟨hb, hz⟩, hO⟩ := hT1
      have hg : (ev (.tmp 20) = .func (.func 42) #[] #[.pointer (some ⟨b, 0, none⟩)]) ∧ True := hG
      obtain ⟨g0, _⟩ := hg
      clear hG hfr
      refine OpSays.enter (f := 42) (args := #[.int .i64 0, .int .i64 1, .pointer (some ⟨b, 0, none⟩)]) (w' := w1) ?_ ?_
      · go_simp
      · refine (dget1 s 0 b w1 hb (by omega) (by omega) (by omega)).mono ?_
        rintro e' w2 ⟨rfl, hk⟩
        exact ⟨_, rfl, ⟨⟨cell_only hk (fun h => h) hb, hk.at hz (fun h => h)⟩, hO.then hk (fun _ _ h => h)⟩, hk, rfl⟩
    case op2 =>
      intro ev w1 hT1 hc hf hfr hG
      rw [if_pos (by decide)]
      obtain ⟨⟨hb, hz⟩, hO⟩ := hT1
      have h4 : ev (.tmp 4) = .func (.func 42) #[] #[.pointer (some ⟨b, 0, none⟩)] := hfr 4 (by decide)
      clear hG hfr
      refine OpSays.value (v := .func (.func 42) #[] #[.pointer (some ⟨b, 0, none⟩)]) (w' := w1) ?_ ⟨⟨⟨hb, hz⟩, hO⟩, Only.refl _ _, rfl⟩
      go_simp
    case op3 =>
      intro ev w1 hT1 hc hf hfr hG
      rw [if_pos (by decide)]
      obtain ⟨⟨hb, hz⟩, hO⟩ := hT1
      have hg : (ev (.tmp 22) = .func (.func 42) #[] #[.pointer (some ⟨b, 0, none⟩)]) ∧ True := hG
      obtain ⟨g2, _⟩ := hg
      clear hG hfr
      refine OpSays.enter (f := 42) (args := #[.int .i64 1, .int .i64 4, .pointer (some ⟨b, 0, none⟩)]) (w' := w1) ?_ ?_
      · go_simp
      · refine (dget4 s 1 b w1 hb (by omega) (by omega) (by omega)).mono ?_
        rintro e' w2 ⟨rfl, hk⟩
        exact ⟨_, rfl, ⟨⟨cell_only hk (fun h => h) hb, hk.at hz (fun h => h)⟩, hO.then hk (fun _ _ h => h)⟩, hk, rfl⟩
    case op4 =>
      intro ev w1 hT1 hc hf hfr hG
      rw [if_pos (by decide)]
      obtain ⟨⟨hb, hz⟩, hO⟩ := hT1
      have h4 : ev (.tmp 4) = .func (.func 42) #[] #[.pointer (some ⟨b, 0, none⟩)] := hfr 4 (by decide)
      clear hG hfr
      refine OpSays.value (v := .func (.func 42) #[] #[.pointer (some ⟨b, 0, none⟩)]) (w' := w1) ?_ ⟨⟨⟨hb, hz⟩, hO⟩, Only.refl _ _, rfl⟩
      go_simp
    case op5 =>
      intro ev w1 hT1 hc hf hfr hG
      rw [if_pos (by decide)]
      obtain ⟨⟨hb, hz⟩, hO⟩ := hT1
      have hg : (ev (.tmp 24) = .func (.func 42) #[] #[.pointer (some ⟨b, 0, none⟩)]) ∧ True := hG
      obtain ⟨g4, _⟩ := hg
      clear hG hfr
      refine OpSays.enter (f := 42) (args := #[.int .i64 5, .int .i64 1, .pointer (some ⟨b, 0, none⟩)]) (w' := w1) ?_ ?_
      · go_simp
      · refine (dget1 s 5 b w1 hb (by omega) (by omega) (by omega)).mono ?_
        rintro e' w2 ⟨rfl, hk⟩
        exact ⟨_, rfl, ⟨⟨cell_only hk (fun h => h) hb, hk.at hz (fun h => h)⟩, hO.then hk (fun _ _ h => h)⟩, hk, rfl⟩
    case op6 =>
      intro ev w1 hT1 hc hf hfr hG
      rw [if_pos (by decide)]
      obtain ⟨⟨hb, hz⟩, hO⟩ := hT1
      have h4 : ev (.tmp 4) = .func (.func 42) #[] #[.pointer (some ⟨b, 0, none⟩)] := hfr 4 (by decide)
      clear hG hfr
      refine OpSays.value (v := .func (.func 42) #[] #[.pointer (some ⟨b, 0, none⟩)]) (w' := w1) ?_ ⟨⟨⟨hb, hz⟩, hO⟩, Only.refl _ _, rfl⟩
      go_simp
    case op7 =>
      intro ev w1 hT1 hc hf hfr hG
      rw [if_pos (by decide)]
      obtain ⟨⟨hb, hz⟩, hO⟩ := hT1
      have hg : (ev (.tmp 26) = .func (.func 42) #[] #[.pointer (some ⟨b, 0, none⟩)]) ∧ True := hG
      obtain ⟨g6, _⟩ := hg
      clear hG hfr
      refine OpSays.enter (f := 42) (args := #[.int .i64 6, .int .i64 4, .pointer (some ⟨b, 0, none⟩)]) (w' := w1) ?_ ?_
      · go_simp
      · refine (dget4 s 6 b w1 hb (by omega) (by omega) (by omega)).mono ?_
        rintro e' w2 ⟨rfl, hk⟩
        exact ⟨_, rfl, ⟨⟨cell_only hk (fun h => h) hb, hk.at hz (fun h => h)⟩, hO.then hk (fun _ _ h => h)⟩, hk, rfl⟩
    case op8 =>
      intro ev w1 hT1 hc hf hfr hG
      rw [if_pos (by decide)]
      obtain ⟨⟨hb, hz⟩, hO⟩ := hT1
      have h4 : ev (.tmp 4) = .func (.func 42) #[] #[.pointer (some ⟨b, 0, none⟩)] := hfr 4 (by decide)
      clear hG hfr
      refine OpSays.value (v := .func (.func 42) #[] #[.pointer (some ⟨b, 0, none⟩)]) (w' := w1) ?_ ⟨⟨⟨hb, hz⟩, hO⟩, Only.refl _ _, rfl⟩
      go_simp
    case op9 =>
      intro ev w1 hT1 hc hf hfr hG
      rw [if_pos (by decide)]
      obtain ⟨⟨hb, hz⟩, hO⟩ := hT1
      have hg : (ev (.tmp 28) = .func (.func 42) #[] #[.pointer (some ⟨b, 0, none⟩)]) ∧ True := hG
      obtain ⟨g8, _⟩ := hg
      clear hG hfr
      refine OpSays.enter (f := 42) (args := #[.int .i64 10, .int .i64 4, .pointer (some ⟨b, 0, none⟩)]) (w' := w1) ?_ ?_
      · go_simp
      · refine (dget4 s 10 b w1 hb (by omega) (by omega) (by omega)).mono ?_
        rintro e' w2 ⟨rfl, hk⟩
        exact ⟨_, rfl, ⟨⟨cell_only hk (fun h => h) hb, hk.at hz (fun h => h)⟩, hO.then hk (fun _ _ h => h)⟩, hk, rfl⟩
    case op10 =>
      intro ev w1 hT1 hc hf hfr hG
      rw [if_pos (by decide)]
      obtain ⟨⟨hb, hz⟩, hO⟩ := hT1
      have h1 : ev (.tmp 1) = .pointer (some ⟨b, 0, none⟩) := hfr 1 (by decide)
      clear hG hfr
      refine OpSays.value (v := .string s) (w' := w1) ?_ ⟨⟨⟨hb, hz⟩, hO⟩, Only.refl _ _, rfl⟩
      go_simp
    case op11 =>
      intro ev w1 hT1 hc hf hfr hG
      rw [if_pos (by decide)]
      obtain ⟨⟨hb, hz⟩, hO⟩ := hT1
      have h1 : ev (.tmp 1) = .pointer (some ⟨b, 0, none⟩) := hfr 1 (by decide)
      clear hG hfr
      refine OpSays.value (v := .string s) (w' := w1) ?_ ⟨⟨⟨hb, hz⟩, hO⟩, Only.refl _ _, rfl⟩
      go_simp
    case op12 =>
      intro ev w1 hT1 hc hf hfr hG
      rw [if_pos (by decide)]
      obtain ⟨⟨hb, hz⟩, hO⟩ := hT1
      have hg : (ev (.tmp 31) = .string s) ∧ True := hG
      obtain ⟨g11, _⟩ := hg
      clear hG hfr
      refine OpSays.value (v := .int .i64 (s.size)) (w' := w1) ?_ ⟨⟨⟨hb, hz⟩, hO⟩, Only.refl _ _, rfl⟩
      go_simp
    case op13 =>
      intro ev w1 hT1 hc hf hfr hG
      rw [if_pos (by decide)]
      obtain ⟨⟨hb, hz⟩, hO⟩ := hT1
      have hg : (ev (.tmp 32) = .int .i64 (s.size)) ∧ True := hG
      obtain ⟨g12, _⟩ := hg
      clear hG hfr
      refine OpSays.value (v := .int .i64 ((s.size : Int) - 4)) (w' := w1) ?_ ⟨⟨⟨hb, hz⟩, hO⟩, Only.refl _ _, rfl⟩
      go_simp; rw [IntKind.wrap_i64]; omega
    case op14 =>
      intro ev w1 hT1 hc hf hfr hG
      rw [if_pos (by decide)]
      obtain ⟨⟨hb, hz⟩, hO⟩ := hT1
      have hg : (ev (.tmp 30) = .string s) ∧ (ev (.tmp 33) = .int .i64 ((s.size : Int) - 4)) ∧ True := hG
      obtain ⟨g10, g13, _⟩ := hg
      clear hG hfr
      have hx : ((s.size : Int) - 4).toNat = s.size - 4 := by omega
      refine OpSays.value (v := .string (s.extract 16 (s.size - 4))) (w' := w1) ?_ ⟨⟨⟨hb, hz⟩, hO⟩, Only.refl _ _, rfl⟩
      go_simp; rw [if_pos (by omega), if_pos (by omega)]
    case op15 =>
      intro ev w1 hT1 hc hf hfr hG
      rw [if_pos (by decide)]
      obtain ⟨⟨hb, hz⟩, hO⟩ := hT1
      have hg : (ev (.tmp 21) = .int .i64 (numAt s 0 1)) ∧ (ev (.tmp 23) = .int .i64 (numAt s 1 4)) ∧ (ev (.tmp 25) = .int .i64 (numAt s 5 1)) ∧ (ev (.tmp 27) = .int .i64 (numAt s 6 4)) ∧ (ev (.tmp 29) = .int .i64 (numAt s 10 4)) ∧ (ev (.tmp 34) = .string (s.extract 16 (s.size - 4))) ∧ True := hG
      obtain ⟨g1, g3, g5, g7, g9, g14, _⟩ := hg
      clear hG hfr
      refine OpSays.value (v := .agg #[.int .i64 (numAt s 0 1), .int .i64 (numAt s 1 4), .int .i64 (numAt s 5 1), .int .i64 (numAt s 6 4), .int .i64 (numAt s 10 4), .string (s.extract 16 (s.size - 4))]) (w' := w1) ?_ ⟨⟨⟨hb, hz⟩, hO⟩, Only.refl _ _, rfl⟩
      go_simp
    case op16 =>
      intro ev w1 hT1 hc hf hfr hG
      rw [if_pos (by decide)]
      obtain ⟨⟨hb, hz⟩, hO⟩ := hT1
      clear hG hfr
      refine OpSays.value (v := .pointer (some ⟨w1.heap.size, 0, none⟩)) (w' := w1.alloc (.cells #[.int .i64 0, .int .i64 0, .int .i64 0, .int .i64 0, .int .i64 0, .string ⟨#[]⟩] 23)) ?_ ?_
      · go_simp
      · have hk := (Only.refl (fun _ => False) w1).alloc (.cells #[.int .i64 0, .int .i64 0, .int .i64 0, .int .i64 0, .int .i64 0, .string ⟨#[]⟩] 23)
        exact ⟨⟨⟨cell_only hk (fun h => h) hb, hk.at hz (fun h => h)⟩, hO.then hk (fun _ _ h => h)⟩, hk, w1.heap.size, rfl, heap_lt hz, blk_new w1 _⟩
  rintro ⟨tm, df⟩ w3 ⟨⟨hb3, hz3⟩, hO3⟩ hsz hdf hfr hG
  have k1 : tm.getD 1 undef = .pointer (some ⟨b, 0, none⟩) := hfr 1 (by decide)
  have k2 : tm.getD 2 undef = .pointer (some ⟨z, 0, none⟩) := hfr 2 (by decide)
  have k3 : tm.getD 3 undef = .int .i64 0 := hfr 3 (by decide)
  have k35 : tm.getD 35 undef = .agg #[.int .i64 (numAt s 0 1), .int .i64 (numAt s 1 4), .int .i64 (numAt s 5 1), .int .i64 (numAt s 6 4), .int .i64 (numAt s 10 4), .string (s.extract 16 (s.size - 4))] := AllG.get hG 15 (by decide)
  have he : tm = #[tm.getD 0 undef, tm.getD 1 undef, tm.getD 2 undef, tm.getD 3 undef, tm.getD 4 undef, tm.getD 5 undef, tm.getD 6 undef, tm.getD 7 undef, tm.getD 8 undef, tm.getD 9 undef, tm.getD 10 undef, tm.getD 11 undef, tm.getD 12 undef, tm.getD 13 undef, tm.getD 14 undef, tm.getD 15 undef, tm.getD 16 undef, tm.getD 17 undef, tm.getD 18 undef, tm.getD 19 undef, tm.getD 20 undef, tm.getD 21 undef, tm.getD 22 undef, tm.getD 23 undef, tm.getD 24 undef, tm.getD 25 undef, tm.getD 26 undef, tm.getD 27 undef, tm.getD 28 undef, tm.getD 29 undef, tm.getD 30 undef, tm.getD 31 undef, tm.getD 32 undef, tm.getD 33 undef, tm.getD 34 undef, tm.getD 35 undef, tm.getD 36 undef, tm.getD 37 undef, tm.getD 38 undef, tm.getD 39 undef, tm.getD 40 undef, tm.getD 41 undef, tm.getD 42 undef, tm.getD 43 undef, tm.getD 44 undef, tm.getD 45 undef, tm.getD 46 undef] := arr_eta (n := 47) hsz
  replace hdf : df = [] := hdf
  subst hdf
  obtain ⟨g, hg5, hgN, hgx⟩ : ∃ g, tm.getD 5 undef = .pointer (some ⟨g, 0, none⟩) ∧ _ := AllG.get hG 16 (by decide)
  clear hsz hfr hG
  rw [he, hg5, k1, k2, k3, k35]
  clear he hg5 k1 k2 k3 k35
  generalize tm.getD 0 undef = x0
  generalize tm.getD 4 undef = x4
  generalize tm.getD 6 undef = x6
  generalize tm.getD 7 undef = x7
  generalize tm.getD 8 undef = x8
  generalize tm.getD 9 undef = x9
  generalize tm.getD 10 undef = x10
  generalize tm.getD 11 undef = x11
  generalize tm.getD 12 undef = x12
  generalize tm.getD 13 undef = x13
  generalize tm.getD 14 undef = x14
  generalize tm.getD 15 undef = x15
  generalize tm.getD 16 undef = x16
  generalize tm.getD 17 undef = x17
  generalize tm.getD 18 undef = x18
  generalize tm.getD 19 undef = x19
  generalize tm.getD 20 undef = x20
  generalize tm.getD 21 undef = x21
  generalize tm.getD 22 undef = x22
  generalize tm.getD 23 undef = x23
  generalize tm.getD 24 undef = x24
  generalize tm.getD 25 undef = x25
  generalize tm.getD 26 undef = x26
  generalize tm.getD 27 undef = x27
  generalize tm.getD 28 undef = x28
  generalize tm.getD 29 undef = x29
  generalize tm.getD 30 undef = x30
  generalize tm.getD 31 undef = x31
  generalize tm.getD 32 undef = x32
  generalize tm.getD 33 undef = x33
  generalize tm.getD 34 undef = x34
  generalize tm.getD 36 undef = x36
  generalize tm.getD 37 undef = x37
  generalize tm.getD 38 undef = x38
  generalize tm.getD 39 undef = x39
  generalize tm.getD 40 undef = x40
  generalize tm.getD 41 undef = x41
  generalize tm.getD 42 undef = x42
  generalize tm.getD 43 undef = x43
  generalize tm.getD 44 undef = x44
  generalize tm.getD 45 undef = x45
  generalize tm.getD 46 undef = x46
  have q0 := blk_cell hgx 0
  have q1 := blk_cell hgx 1
  have q2 := blk_cell hgx 2
  have q3 := blk_cell hgx 3
  have q4 := blk_cell hgx 4
  have q5 := blk_cell hgx 5
  have qf := blk_free hgx
  simp only [List.getElem?_toArray, List.getElem?_cons_zero, List.getElem?_cons_succ] at q0 q1 q2 q3 q4 q5
  clear hz2 hb2 hO2
  generalize hk0 : numAt s 0 1 = k at *
  generalize he0 : numAt s 1 4 = e at *
  generalize hr0 : numAt s 5 1 = r at *
  generalize hn0 : numAt s 6 4 = n at *
  generalize ha0 : numAt s 10 4 = a at *
  generalize hd0 : s.extract 16 (s.size - 4) = d at *
  have HL := Lib.hid hL
  clear hk0 he0 hr0 hn0 ha0 hd0 hL
  go_wp2_with fail
  have hx3 := set6 hgx (.int .i64 k) (.int .i64 e) (.int .i64 r) (.int .i64 n) (.int .i64 a) (.string d)
  have hO4 : Only (fun _ => False) w (set6w w3 g (.int .i64 k) (.int .i64 e) (.int .i64 r) (.int .i64 n) (.int .i64 a) (.string d)) := set6_only hO3 (fun h => by omega) _ _ _ _ _ _
  have hO34 : Only (fun k => k = g) w3 (set6w w3 g (.int .i64 k) (.int .i64 e) (.int .i64 r) (.int .i64 n) (.int .i64 a) (.string d)) := set6_only (S := fun k => k = g) (Only.refl _ w3) (fun _ => rfl) _ _ _ _ _ _
  have hb := cell_only hO34 (by show ¬ b = g; omega) hb3
  have hz := hO34.at hz3 (by show ¬ z = g; omega)
  have hx := hx3
  have hO := hO4
  change Code.wp _ _ _ _ (set6w w3 g (.int .i64 k) (.int .i64 e) (.int .i64 r) (.int .i64 n) (.int .i64 a) (.string d))
  generalize set6w w3 g (.int .i64 k) (.int .i64 e) (.int .i64 r) (.int .i64 n) (.int .i64 a) (.string d) = w4 at hb hz hx hO ⊢
  clear hx3 hO4 hO34 hb3 hz3 hO3 hgx q0 q1 q2 q3 q4 q5 qf
  have hck : ∀ w, Calls Try.prog 15 #[.agg #[.int .i64 k, .int .i64 e, .int .i64 r, .int .i64 n, .int .i64 a, .string d]] w fun e' w' => e' = .returned (.int .i64 240) ∧ Only (fun _ => False) w w' := fun w => (lcheck_any k e r n a d w).mono fun e' w' h => ⟨by rw [h.1]; unfold lcode; rw [HL.out]; rfl, h.2⟩
  refine wp_region_facts_tail 9 dr6Ds dr6Need dr6Gs (fun w' => (w'.cell? ⟨b, 0, none⟩ = some (.string s) ∧ w'.heap[z]? = some (.cells #[.int .i64 0, .int .i64 0, .int .i64 0, .int .i64 0, .int .i64 0, .string ⟨#[]⟩] 23 (0, 0)) ∧ w'.heap[g]? = some (.cells #[.int .i64 k, .int .i64 e, .int .i64 r, .int .i64 n, .int .i64 a, .string d] 23 (0, 0))) ∧ Only (fun _ => False) w w') (Only (fun _ => False)) (dr6G b z g s k e r n a d true) rfl rfl (by kernel_rfl) (by kernel_rfl) (by kernel_rfl) (by kernel_rfl) (by kernel_rfl) ⟨⟨hb, hz, hx⟩, hO.drew⟩ dr6G.keep dr6G.guard ?_ ?_
  · refine And.intro ?op0 (And.intro ?op1 (And.intro ?op2 (And.intro ?op3 (And.intro ?op4 (And.intro ?op5 (And.intro ?op6 (And.intro ?op7 (And.intro ?op8 trivial))))))))
    case op0 =>
      intro ev w1 hT1 hc hf hfr hG
      rw [if_pos (by decide)]
      obtain ⟨⟨hb, hz, hx⟩, hO⟩ := hT1
      have h5 : ev (.tmp 5) = .pointer (some ⟨g, 0, none⟩) := hfr 5 (by decide)
      clear hG hfr
      have y0 := blk_cell hx 0
      have y1 := blk_cell hx 1
      have y2 := blk_cell hx 2
      have y3 := blk_cell hx 3
      have y4 := blk_cell hx 4
      have y5 := blk_cell hx 5
      simp only [List.getElem?_toArray, List.getElem?_cons_zero, List.getElem?_cons_succ] at y0 y1 y2 y3 y4 y5
      refine OpSays.value (v := .agg #[.int .i64 k, .int .i64 e, .int .i64 r, .int .i64 n, .int .i64 a, .string d]) (w' := w1) ?_ ⟨⟨⟨hb, hz, hx⟩, hO⟩, Only.refl _ _, rfl⟩
      go_simp
    case op1 =>
      intro ev w1 hT1 hc hf hfr hG
      rw [if_pos (by decide)]
      obtain ⟨⟨hb, hz, hx⟩, hO⟩ := hT1
      have hg : (ev (.tmp 36) = .agg #[.int .i64 k, .int .i64 e, .int .i64 r, .int .i64 n, .int .i64 a, .string d]) ∧ True := hG
      obtain ⟨g0, _⟩ := hg
      clear hG hfr
      refine OpSays.enter (f := 15) (args := #[.agg #[.int .i64 k, .int .i64 e, .int .i64 r, .int .i64 n, .int .i64 a, .string d]]) (w' := w1) ?_ ?_
      · go_simp
      · refine (hck w1).mono ?_
        rintro e' w2 ⟨rfl, hk⟩
        exact ⟨_, rfl, ⟨⟨cell_only hk (fun h => h) hb, hk.at hz (fun h => h), hk.at hx (fun h => h)⟩, hO.then hk (fun _ _ h => h)⟩, hk, rfl⟩
    case op2 =>
      intro ev w1 hT1 hc hf hfr hG
      rw [if_pos (by decide)]
      obtain ⟨⟨hb, hz, hx⟩, hO⟩ := hT1
      have hg : (ev (.tmp 37) = .int .i64 240) ∧ True := hG
      obtain ⟨g1, _⟩ := hg
      clear hG hfr
      refine OpSays.value (v := .bool true) (w' := w1) ?_ ⟨⟨⟨hb, hz, hx⟩, hO⟩, Only.refl _ _, rfl⟩
      go_simp
    case op3 =>
      intro ev w1 hT1 hc hf hfr hG
      rw [if_pos (by decide)]
      obtain ⟨⟨hb, hz, hx⟩, hO⟩ := hT1
      have hg : (ev (.tmp 38) = .bool true) ∧ True := hG
      obtain ⟨g2, _⟩ := hg
      clear hG hfr
      refine OpSays.value (v := .bool true) (w' := w1) ?_ ⟨⟨⟨hb, hz, hx⟩, hO⟩, Only.refl _ _, rfl⟩
      go_simp
    case op4 =>
      intro ev w1 hT1 hc hf hfr hG
      rw [if_neg (by decide)]
      trivial
    case op5 =>
      intro ev w1 hT1 hc hf hfr hG
      rw [if_neg (by decide)]
      trivial
    case op6 =>
      intro ev w1 hT1 hc hf hfr hG
      rw [if_neg (by decide)]
      trivial
    case op7 =>
      intro ev w1 hT1 hc hf hfr hG
      rw [if_neg (by decide)]
      trivial
    case op8 =>
      intro ev w1 hT1 hc hf hfr hG
      rw [if_pos (by decide)]
      obtain ⟨⟨hb, hz, hx⟩, hO⟩ := hT1
      have hg : (ev (.tmp 39) = .bool true) ∧ (True) ∧ True := hG
      obtain ⟨g3, g7, _⟩ := hg
      clear hG hfr
      refine OpSays.value (v := .bool true) (w' := w1) ?_ ⟨⟨⟨hb, hz, hx⟩, hO⟩, Only.refl _ _, rfl⟩
      go_simp
  rintro ⟨tm, df⟩ w5 ⟨⟨hb5, hz5, hx5⟩, hO5⟩ hsz hdf hfr hG
  have k1 : tm.getD 1 undef = .pointer (some ⟨b, 0, none⟩) := hfr 1 (by decide)
  have k2 : tm.getD 2 undef = .pointer (some ⟨z, 0, none⟩) := hfr 2 (by decide)
  have k3 : tm.getD 3 undef = .int .i64 0 := hfr 3 (by decide)
  have k5 : tm.getD 5 undef = .pointer (some ⟨g, 0, none⟩) := hfr 5 (by decide)
  have k44 : tm.getD 44 undef = .bool true := AllG.get hG 8 (by decide)
  have he : tm = #[tm.getD 0 undef, tm.getD 1 undef, tm.getD 2 undef, tm.getD 3 undef, tm.getD 4 undef, tm.getD 5 undef, tm.getD 6 undef, tm.getD 7 undef, tm.getD 8 undef, tm.getD 9 undef, tm.getD 10 undef, tm.getD 11 undef, tm.getD 12 undef, tm.getD 13 undef, tm.getD 14 undef, tm.getD 15 undef, tm.getD 16 undef, tm.getD 17 undef, tm.getD 18 undef, tm.getD 19 undef, tm.getD 20 undef, tm.getD 21 undef, tm.getD 22 undef, tm.getD 23 undef, tm.getD 24 undef, tm.getD 25 undef, tm.getD 26 undef, tm.getD 27 undef, tm.getD 28 undef, tm.getD 29 undef, tm.getD 30 undef, tm.getD 31 undef, tm.getD 32 undef, tm.getD 33 undef, tm.getD 34 undef, tm.getD 35 undef, tm.getD 36 undef, tm.getD 37 undef, tm.getD 38 undef, tm.getD 39 undef, tm.getD 40 undef, tm.getD 41 undef, tm.getD 42 undef, tm.getD 43 undef, tm.getD 44 undef, tm.getD 45 undef, tm.getD 46 undef] := arr_eta (n := 47) hsz
  replace hdf : df = [] := hdf
  subst hdf
  clear hsz hfr hG
  rw [he, k1, k2, k3, k5, k44]
  clear he k1 k2 k3 k5 k44
  generalize tm.getD 0 undef = x0
  generalize tm.getD 4 undef = x4
  generalize tm.getD 6 undef = x6
  generalize tm.getD 7 undef = x7
  generalize tm.getD 8 undef = x8
  generalize tm.getD 9 undef = x9
  generalize tm.getD 10 undef = x10
  generalize tm.getD 11 undef = x11
  generalize tm.getD 12 undef = x12
  generalize tm.getD 13 undef = x13
  generalize tm.getD 14 undef = x14
  generalize tm.getD 15 undef = x15
  generalize tm.getD 16 undef = x16
  generalize tm.getD 17 undef = x17
  generalize tm.getD 18 undef = x18
  generalize tm.getD 19 undef = x19
  generalize tm.getD 20 undef = x20
  generalize tm.getD 21 undef = x21
  generalize tm.getD 22 undef = x22
  generalize tm.getD 23 undef = x23
  generalize tm.getD 24 undef = x24
  generalize tm.getD 25 undef = x25
  generalize tm.getD 26 undef = x26
  generalize tm.getD 27 undef = x27
  generalize tm.getD 28 undef = x28
  generalize tm.getD 29 undef = x29
  generalize tm.getD 30 undef = x30
  generalize tm.getD 31 undef = x31
  generalize tm.getD 32 undef = x32
  generalize tm.getD 33 undef = x33
  generalize tm.getD 34 undef = x34
  generalize tm.getD 35 undef = x35
  generalize tm.getD 36 undef = x36
  generalize tm.getD 37 undef = x37
  generalize tm.getD 38 undef = x38
  generalize tm.getD 39 undef = x39
  generalize tm.getD 40 undef = x40
  generalize tm.getD 41 undef = x41
  generalize tm.getD 42 undef = x42
  generalize tm.getD 43 undef = x43
  generalize tm.getD 45 undef = x45
  generalize tm.getD 46 undef = x46
  clear hz hO hb hx
  have q0 := blk_cell hz5 0
  have q1 := blk_cell hz5 1
  have q2 := blk_cell hz5 2
  have q3 := blk_cell hz5 3
  have q4 := blk_cell hz5 4
  have q5 := blk_cell hz5 5
  have qf := blk_free hz5
  simp only [List.getElem?_toArray, List.getElem?_cons_zero, List.getElem?_cons_succ] at q0 q1 q2 q3 q4 q5
  go_wp2_with fail
  have hs := set6 hz5 (.int .i64 0) (.int .i64 0) (.int .i64 0) (.int .i64 0) (.int .i64 0) (.string ⟨#[]⟩)
  have hOO : Only (fun _ => False) w (set6w w5 z (.int .i64 0) (.int .i64 0) (.int .i64 0) (.int .i64 0) (.int .i64 0) (.string ⟨#[]⟩)) := set6_only hO5 (fun h => by omega) _ _ _ _ _ _
  change bodyPost _ _ _ _ _ (set6w w5 z (.int .i64 0) (.int .i64 0) (.int .i64 0) (.int .i64 0) (.int .i64 0) (.string ⟨#[]⟩))
  generalize set6w w5 z (.int .i64 0) (.int .i64 0) (.int .i64 0) (.int .i64 0) (.int .i64 0) (.string ⟨#[]⟩) = wz at hs hOO ⊢
  have y0 := blk_cell hs 0
  have y1 := blk_cell hs 1
  have y2 := blk_cell hs 2
  have y3 := blk_cell hs 3
  have y4 := blk_cell hs 4
  have y5 := blk_cell hs 5
  simp only [List.getElem?_toArray, List.getElem?_cons_zero, List.getElem?_cons_succ] at y0 y1 y2 y3 y4 y5
  clear hs q0 q1 q2 q3 q4 q5 qf
  refine bodyPost_ret (v := .tuple #[.agg #[.int .i64 0, .int .i64 0, .int .i64 0, .int .i64 0, .int .i64 0, .string ⟨#[]⟩], .int .i64 240]) (by simp [results, Try.results13, go_sem, y0, y1, y2, y3, y4, y5]) rfl ⟨rfl, hOO⟩
set_option maxHeartbeats 4000000 in
theorem dec_other (s : ByteArray) (w : World) (h20 : 20 ≤ s.size) (hs : s.size ≤ 140737488355328) (hβ : (((s.size : Int) - 16 - 4) != numAt s 14 2) = false) (hL : letterB (numAt s 0 1) (numAt s 1 4) (numAt s 5 1) (numAt s 6 4) (numAt s 10 4) (s.extract 16 (s.size - 4)) = true) (hS : ((letBytes (numAt s 0 1) (numAt s 1 4) (numAt s 5 1) (numAt s 6 4) (numAt s 10 4) (s.extract 16 (s.size - 4))).toList == s.toList) = false) :
    Calls Try.prog 13 #[.string s] w fun e w' => e = .returned noLetter ∧ Only (fun _ => False) w w' := by
  have d1 : decide ((s.size : Int) < 20) = false := decide_eq_false (by omega)
  have hO := ((Only.refl (fun _ => False) w).alloc (.cells #[.string s] 9)).alloc (.cells #[.int .i64 0, .int .i64 0, .int .i64 0, .int .i64 0, .int .i64 0, .string ⟨#[]⟩] 23)
  have hb := (blk_cell (blk_alloc (blk_new w (.cells #[.string s] 9)) (.cells #[.int .i64 0, .int .i64 0, .int .i64 0, .int .i64 0, .int .i64 0, .string ⟨#[]⟩] 23)) 0).trans rfl
  have hz := blk_new2 w (.cells #[.string s] 9) (.cells #[.int .i64 0, .int .i64 0, .int .i64 0, .int .i64 0, .int .i64 0, .string ⟨#[]⟩] 23)
  unfold noLetter
  go_enter Try.func13, Try.ntmps13
  go_wp2_with fail
  generalize (w.alloc (.cells #[.string s] 9)).alloc (.cells #[.int .i64 0, .int .i64 0, .int .i64 0, .int .i64 0, .int .i64 0, .string ⟨#[]⟩] 23) = w0 at hO hb hz ⊢
  have hbz : w.heap.size + 1 < w0.heap.size := heap_lt hz
  generalize hzz : w.heap.size + 1 = z at hz hbz ⊢
  generalize hbb : w.heap.size = b at hb hzz ⊢
  refine wp_region_facts_tail 12 dr2Ds dr2Need dr2Gs (fun w' => (w'.cell? ⟨b, 0, none⟩ = some (.string s) ∧ w'.heap[z]? = some (.cells #[.int .i64 0, .int .i64 0, .int .i64 0, .int .i64 0, .int .i64 0, .string ⟨#[]⟩] 23 (0, 0))) ∧ Only (fun _ => False) w w') (Only (fun _ => False)) (dr2G b z s false) rfl rfl (by kernel_rfl) (by kernel_rfl) (by kernel_rfl) (by kernel_rfl) (by kernel_rfl) ⟨⟨hb, hz⟩, hO.drew⟩ dr2G.keep dr2G.guard ?_ ?_
  · refine And.intro ?op0 (And.intro ?op1 (And.intro ?op2 (And.intro ?op3 (And.intro ?op4 (And.intro ?op5 (And.intro ?op6 (And.intro ?op7 (And.intro ?op8 (And.intro ?op9 (And.intro ?op10 (And.intro ?op11 trivial)))))))))))
    case op0 =>
      intro ev w1 hT1 hc hf hfr hG
      rw [if_pos (by decide)]
      obtain ⟨⟨hb, hz⟩, hO⟩ := hT1
      have h1 : ev (.tmp 1) = .pointer (some ⟨b, 0, none⟩) := hfr 1 (by decide)
      clear hG hfr
      refine OpSays.value (v := .string s) (w' := w1) ?_ ⟨⟨⟨hb, hz⟩, hO⟩, Only.refl _ _, rfl⟩
      go_simp
    case op1 =>
      intro ev w1 hT1 hc hf hfr hG
      rw [if_pos (by decide)]
      obtain ⟨⟨hb, hz⟩, hO⟩ := hT1
      have hg : (ev (.tmp 7) = .string s) ∧ True := hG
      obtain ⟨g0, _⟩ := hg
      clear hG hfr
      refine OpSays.value (v := .int .i64 (s.size)) (w' := w1) ?_ ⟨⟨⟨hb, hz⟩, hO⟩, Only.refl _ _, rfl⟩
      go_simp
    case op2 =>
      intro ev w1 hT1 hc hf hfr hG
      rw [if_pos (by decide)]
      obtain ⟨⟨hb, hz⟩, hO⟩ := hT1
      have hg : (ev (.tmp 8) = .int .i64 (s.size)) ∧ True := hG
      obtain ⟨g1, _⟩ := hg
      clear hG hfr
      refine OpSays.value (v := .bool false) (w' := w1) ?_ ⟨⟨⟨hb, hz⟩, hO⟩, Only.refl _ _, rfl⟩
      go_simp
    case op3 =>
      intro ev w1 hT1 hc hf hfr hG
      rw [if_pos (by decide)]
      obtain ⟨⟨hb, hz⟩, hO⟩ := hT1
      have hg : (ev (.tmp 9) = .bool false) ∧ True := hG
      obtain ⟨g2, _⟩ := hg
      clear hG hfr
      refine OpSays.value (v := .bool false) (w' := w1) ?_ ⟨⟨⟨hb, hz⟩, hO⟩, Only.refl _ _, rfl⟩
      go_simp
    case op4 =>
      intro ev w1 hT1 hc hf hfr hG
      rw [if_pos (by decide)]
      obtain ⟨⟨hb, hz⟩, hO⟩ := hT1
      have h1 : ev (.tmp 1) = .pointer (some ⟨b, 0, none⟩) := hfr 1 (by decide)
      clear hG hfr
      refine OpSays.value (v := .string s) (w' := w1) ?_ ⟨⟨⟨hb, hz⟩, hO⟩, Only.refl _ _, rfl⟩
      go_simp
    case op5 =>
      intro ev w1 hT1 hc hf hfr hG
      rw [if_pos (by decide)]
      obtain ⟨⟨hb, hz⟩, hO⟩ := hT1
      have hg : (ev (.tmp 11) = .string s) ∧ True := hG
      obtain ⟨g4, _⟩ := hg
      clear hG hfr
      refine OpSays.value (v := .int .i64 (s.size)) (w' := w1) ?_ ⟨⟨⟨hb, hz⟩, hO⟩, Only.refl _ _, rfl⟩
      go_simp
    case op6 =>
      intro ev w1 hT1 hc hf hfr hG
      rw [if_pos (by decide)]
      obtain ⟨⟨hb, hz⟩, hO⟩ := hT1
      have hg : (ev (.tmp 12) = .int .i64 (s.size)) ∧ True := hG
      obtain ⟨g5, _⟩ := hg
      clear hG hfr
      refine OpSays.value (v := .int .i64 ((s.size : Int) - 16)) (w' := w1) ?_ ⟨⟨⟨hb, hz⟩, hO⟩, Only.refl _ _, rfl⟩
      go_simp; rw [IntKind.wrap_i64]; omega
    case op7 =>
      intro ev w1 hT1 hc hf hfr hG
      rw [if_pos (by decide)]
      obtain ⟨⟨hb, hz⟩, hO⟩ := hT1
      have hg : (ev (.tmp 13) = .int .i64 ((s.size : Int) - 16)) ∧ True := hG
      obtain ⟨g6, _⟩ := hg
      clear hG hfr
      refine OpSays.value (v := .int .i64 ((s.size : Int) - 16 - 4)) (w' := w1) ?_ ⟨⟨⟨hb, hz⟩, hO⟩, Only.refl _ _, rfl⟩
      go_simp; rw [IntKind.wrap_i64]; omega
    case op8 =>
      intro ev w1 hT1 hc hf hfr hG
      rw [if_pos (by decide)]
      obtain ⟨⟨hb, hz⟩, hO⟩ := hT1
      have h4 : ev (.tmp 4) = .func (.func 42) #[] #[.pointer (some ⟨b, 0, none⟩)] := hfr 4 (by decide)
      clear hG hfr
      refine OpSays.value (v := .func (.func 42) #[] #[.pointer (some ⟨b, 0, none⟩)]) (w' := w1) ?_ ⟨⟨⟨hb, hz⟩, hO⟩, Only.refl _ _, rfl⟩
      go_simp
    case op9 =>
      intro ev w1 hT1 hc hf hfr hG
      rw [if_pos (by decide)]
      obtain ⟨⟨hb, hz⟩, hO⟩ := hT1
      have hg : (ev (.tmp 15) = .func (.func 42) #[] #[.pointer (some ⟨b, 0, none⟩)]) ∧ True := hG
      obtain ⟨g8, _⟩ := hg
      clear hG hfr
      refine OpSays.enter (f := 42) (args := #[.int .i64 14, .int .i64 2, .pointer (some ⟨b, 0, none⟩)]) (w' := w1) ?_ ?_
      · go_simp
      · refine (dget2 s 14 b w1 hb (by omega) (by omega) (by omega)).mono ?_
        rintro e' w2 ⟨rfl, hk⟩
        exact ⟨_, rfl, ⟨⟨cell_only hk (fun h => h) hb, hk.at hz (fun h => h)⟩, hO.then hk (fun _ _ h => h)⟩, hk, rfl⟩
    case op10 =>
      intro ev w1 hT1 hc hf hfr hG
      rw [if_pos (by decide)]
      obtain ⟨⟨hb, hz⟩, hO⟩ := hT1
      have hg : (ev (.tmp 14) = .int .i64 ((s.size : Int) - 16 - 4)) ∧ (ev (.tmp 16) = .int .i64 (numAt s 14 2)) ∧ True := hG
      obtain ⟨g7, g9, _⟩ := hg
      clear hG hfr
      refine OpSays.value (v := .bool false) (w' := w1) ?_ ⟨⟨⟨hb, hz⟩, hO⟩, Only.refl _ _, rfl⟩
      go_simp
    case op11 =>
      intro ev w1 hT1 hc hf hfr hG
      rw [if_pos (by decide)]
      obtain ⟨⟨hb, hz⟩, hO⟩ := hT1
      have hg : (ev (.tmp 10) = .bool false) ∧ (ev (.tmp 17) = .bool false) ∧ True := hG
      obtain ⟨g3, g10, _⟩ := hg
      clear hG hfr
      refine OpSays.value (v := .bool false) (w' := w1) ?_ ⟨⟨⟨hb, hz⟩, hO⟩, Only.refl _ _, rfl⟩
      go_simp
  rintro ⟨tm, df⟩ w2 ⟨⟨hb2, hz2⟩, hO2⟩ hsz hdf hfr hG
  have k1 : tm.getD 1 undef = .pointer (some ⟨b, 0, none⟩) := hfr 1 (by decide)
  have k2 : tm.getD 2 undef = .pointer (some ⟨z, 0, none⟩) := hfr 2 (by decide)
  have k3 : tm.getD 3 undef = .int .i64 0 := hfr 3 (by decide)
  have k4 : tm.getD 4 undef = .func (.func 42) #[] #[.pointer (some ⟨b, 0, none⟩)] := hfr 4 (by decide)
  have k18 : tm.getD 18 undef = .bool false := AllG.get hG 11 (by decide)
  have he : tm = #[tm.getD 0 undef, tm.getD 1 undef, tm.getD 2 undef, tm.getD 3 undef, tm.getD 4 undef, tm.getD 5 undef, tm.getD 6 undef, tm.getD 7 undef, tm.getD 8 undef, tm.getD 9 undef, tm.getD 10 undef, tm.getD 11 undef, tm.getD 12 undef, tm.getD 13 undef, tm.getD 14 undef, tm.getD 15 undef, tm.getD 16 undef, tm.getD 17 undef, tm.getD 18 undef, tm.getD 19 undef, tm.getD 20 undef, tm.getD 21 undef, tm.getD 22 undef, tm.getD 23 undef, tm.getD 24 undef, tm.getD 25 undef, tm.getD 26 undef, tm.getD 27 undef, tm.getD 28 undef, tm.getD 29 undef, tm.getD 30 undef, tm.getD 31 undef, tm.getD 32 undef, tm.getD 33 undef, tm.getD 34 undef, tm.getD 35 undef, tm.getD 36 undef, tm.getD 37 undef, tm.getD 38 undef, tm.getD 39 undef, tm.getD 40 undef, tm.getD 41 undef, tm.getD 42 undef, tm.getD 43 undef, tm.getD 44 undef, tm.getD 45 undef, tm.getD 46 undef] := arr_eta (n := 47) hsz
  replace hdf : df = [] := hdf
  subst hdf
  clear hsz hfr hG
  rw [he, k1, k2, k3, k4, k18]
  clear he k1 k2 k3 k4 k18
  generalize tm.getD 0 undef = x0
  generalize tm.getD 5 undef = x5
  generalize tm.getD 6 undef = x6
  generalize tm.getD 7 undef = x7
  generalize tm.getD 8 undef = x8
  generalize tm.getD 9 undef = x9
  generalize tm.getD 10 undef = x10
  generalize tm.getD 11 undef = x11
  generalize tm.getD 12 undef = x12
  generalize tm.getD 13 undef = x13
  generalize tm.getD 14 undef = x14
  generalize tm.getD 15 undef = x15
  generalize tm.getD 16 undef = x16
  generalize tm.getD 17 undef = x17
  generalize tm.getD 19 undef = x19
  generalize tm.getD 20 undef = x20
  generalize tm.getD 21 undef = x21
  generalize tm.getD 22 undef = x22
  generalize tm.getD 23 undef = x23
  generalize tm.getD 24 undef = x24
  generalize tm.getD 25 undef = x25
  generalize tm.getD 26 undef = x26
  generalize tm.getD 27 undef = x27
  generalize tm.getD 28 undef = x28
  generalize tm.getD 29 undef = x29
  generalize tm.getD 30 undef = x30
  generalize tm.getD 31 undef = x31
  generalize tm.getD 32 undef = x32
  generalize tm.getD 33 undef = x33
  generalize tm.getD 34 undef = x34
  generalize tm.getD 35 undef = x35
  generalize tm.getD 36 undef = x36
  generalize tm.getD 37 undef = x37
  generalize tm.getD 38 undef = x38
  generalize tm.getD 39 undef = x39
  generalize tm.getD 40 undef = x40
  generalize tm.getD 41 undef = x41
  generalize tm.getD 42 undef = x42
  generalize tm.getD 43 undef = x43
  generalize tm.getD 44 undef = x44
  generalize tm.getD 45 undef = x45
  generalize tm.getD 46 undef = x46
  clear hz hO hb
  go_wp2_with fail
  refine wp_region_facts_tail 17 dr4Ds dr4Need dr4Gs (fun w' => (w'.cell? ⟨b, 0, none⟩ = some (.string s) ∧ w'.heap[z]? = some (.cells #[.int .i64 0, .int .i64 0, .int .i64 0, .int .i64 0, .int .i64 0, .string ⟨#[]⟩] 23 (0, 0))) ∧ Only (fun _ => False) w w') (Only (fun _ => False)) (dr4G b z s) rfl rfl (by kernel_rfl) (by kernel_rfl) (by kernel_rfl) (by kernel_rfl) (by kernel_rfl) ⟨⟨hb2, hz2⟩, hO2.drew⟩ dr4G.keep dr4G.guard ?_ ?_
  · refine And.intro ?op0 (And.intro ?op1 (And.intro ?op2 (And.intro ?op3 (And.intro ?op4 (And.intro ?op5 (And.intro ?op6 (And.intro ?op7 (And.intro ?op8 (And.intro ?op9 (And.intro ?op10 (And.intro ?op11 (And.intro ?op12 (And.intro ?op13 (And.intro ?op14 (And.intro ?op15 (And.intro ?op16 trivial))))))))))))))))
    case op0 =>
      intro ev w1 hT1 hc hf hfr hG
      rw [if_pos (by decide)]
      obtain ⟨⟨hb, hz⟩, hO⟩ := hT1
      have h4 : ev (.tmp 4) = .func (.func 42) #[] #[.pointer (some ⟨b, 0, none⟩)] := hfr 4 (by decide)
      clear hG hfr
      refine OpSays.value (v := .func (.func 42) #[] #[.pointer (some ⟨b, 0, none⟩)]) (w' := w1) ?_ ⟨⟨⟨hb, hz⟩, hO⟩, Only.refl _ _, rfl⟩
      go_simp
    case op1 =>
      intro ev w1 hT1 hc hf hfr hG
      rw [if_pos (by decide)]
      obtain ⟨⟨hb, hz⟩, hO⟩ := hT1
      have hg : (ev (.tmp 20) = .func (.func 42) #[] #[.pointer (some ⟨b, 0, none⟩)]) ∧ True := hG
      obtain ⟨g0, _⟩ := hg
      clear hG hfr
      refine OpSays.enter (f := 42) (args := #[.int .i64 0, .int .i64 1, .pointer (some ⟨b, 0, none⟩)]) (w' := w1) ?_ ?_
      · go_simp
      · refine (dget1 s 0 b w1 hb (by omega) (by omega) (by omega)).mono ?_
        rintro e' w2 ⟨rfl, hk⟩
        exact ⟨_, rfl, ⟨⟨cell_only hk (fun h => h) hb, hk.at hz (fun h => h)⟩, hO.then hk (fun _ _ h => h)⟩, hk, rfl⟩
    case op2 =>
      intro ev w1 hT1 hc hf hfr hG
      rw [if_pos (by decide)]
      obtain ⟨⟨hb, hz⟩, hO⟩ := hT1
      have h4 : ev (.tmp 4) = .func (.func 42) #[] #[.pointer (some ⟨b, 0, none⟩)] := hfr 4 (by decide)
      clear hG hfr
      refine OpSays.value (v := .func (.func 42) #[] #[.pointer (some ⟨b, 0, none⟩)]) (w' := w1) ?_ ⟨⟨⟨hb, hz⟩, hO⟩, Only.refl _ _, rfl⟩
      go_simp
    case op3 =>
      intro ev w1 hT1 hc hf hfr hG
      rw [if_pos (by decide)]
      obtain ⟨⟨hb, hz⟩, hO⟩ := hT1
      have hg : (ev (.tmp 22) = .func (.func 42) #[] #[.pointer (some ⟨b, 0, none⟩)]) ∧ True := hG
      obtain ⟨g2, _⟩ := hg
      clear hG hfr
      refine OpSays.enter (f := 42) (args := #[.int .i64 1, .int .i64 4, .pointer (some ⟨b, 0, none⟩)]) (w' := w1) ?_ ?_
      · go_simp
      · refine (dget4 s 1 b w1 hb (by omega) (by omega) (by omega)).mono ?_
        rintro e' w2 ⟨rfl, hk⟩
        exact ⟨_, rfl, ⟨⟨cell_only hk (fun h => h) hb, hk.at hz (fun h => h)⟩, hO.then hk (fun _ _ h => h)⟩, hk, rfl⟩
    case op4 =>
      intro ev w1 hT1 hc hf hfr hG
      rw [if_pos (by decide)]
      obtain ⟨⟨hb, hz⟩, hO⟩ := hT1
      have h4 : ev (.tmp 4) = .func (.func 42) #[] #[.pointer (some ⟨b, 0, none⟩)] := hfr 4 (by decide)
      clear hG hfr
      refine OpSays.value (v := .func (.func 42) #[] #[.pointer (some ⟨b, 0, none⟩)]) (w' := w1) ?_ ⟨⟨⟨hb, hz⟩, hO⟩, Only.refl _ _, rfl⟩
      go_simp
    case op5 =>
      intro ev w1 hT1 hc hf hfr hG
      rw [if_pos (by decide)]
      obtain ⟨⟨hb, hz⟩, hO⟩ := hT1
      have hg : (ev (.tmp 24) = .func (.func 42) #[] #[.pointer (some ⟨b, 0, none⟩)]) ∧ True := hG
      obtain ⟨g4, _⟩ := hg
      clear hG hfr
      refine OpSays.enter (f := 42) (args := #[.int .i64 5, .int .i64 1, .pointer (some ⟨b, 0, none⟩)]) (w' := w1) ?_ ?_
      · go_simp
      · refine (dget1 s 5 b w1 hb (by omega) (by omega) (by omega)).mono ?_
        rintro e' w2 ⟨rfl, hk⟩
        exact ⟨_, rfl, ⟨⟨cell_only hk (fun h => h) hb, hk.at hz (fun h => h)⟩, hO.then hk (fun _ _ h => h)⟩, hk, rfl⟩
    case op6 =>
      intro ev w1 hT1 hc hf hfr hG
      rw [if_pos (by decide)]
      obtain ⟨⟨hb, hz⟩, hO⟩ := hT1
      have h4 : ev (.tmp 4) = .func (.func 42) #[] #[.pointer (some ⟨b, 0, none⟩)] := hfr 4 (by decide)
      clear hG hfr
      refine OpSays.value (v := .func (.func 42) #[] #[.pointer (some ⟨b, 0, none⟩)]) (w' := w1) ?_ ⟨⟨⟨hb, hz⟩, hO⟩, Only.refl _ _, rfl⟩
      go_simp
    case op7 =>
      intro ev w1 hT1 hc hf hfr hG
      rw [if_pos (by decide)]
      obtain ⟨⟨hb, hz⟩, hO⟩ := hT1
      have hg : (ev (.tmp 26) = .func (.func 42) #[] #[.pointer (some ⟨b, 0, none⟩)]) ∧ True := hG
      obtain ⟨g6, _⟩ := hg
      clear hG hfr
      refine OpSays.enter (f := 42) (args := #[.int .i64 6, .int .i64 4, .pointer (some ⟨b, 0, none⟩)]) (w' := w1) ?_ ?_
      · go_simp
      · refine (dget4 s 6 b w1 hb (by omega) (by omega) (by omega)).mono ?_
        rintro e' w2 ⟨rfl, hk⟩
        exact ⟨_, rfl, ⟨⟨cell_only hk (fun h => h) hb, hk.at hz (fun h => h)⟩, hO.then hk (fun _ _ h => h)⟩, hk, rfl⟩
    case op8 =>
      intro ev w1 hT1 hc hf hfr hG
      rw [if_pos (by decide)]
      obtain ⟨⟨hb, hz⟩, hO⟩ := hT1
      have h4 : ev (.tmp 4) = .func (.func 42) #[] #[.pointer (some ⟨b, 0, none⟩)] := hfr 4 (by decide)
      clear hG hfr
      refine OpSays.value (v := .func (.func 42) #[] #[.pointer (some ⟨b, 0, none⟩)]) (w' := w1) ?_ ⟨⟨⟨hb, hz⟩, hO⟩, Only.refl _ _, rfl⟩
      go_simp
    case op9 =>
      intro ev w1 hT1 hc hf hfr hG
      rw [if_pos (by decide)]
      obtain ⟨⟨hb, hz⟩, hO⟩ := hT1
      have hg : (ev (.tmp 28) = .func (.func 42) #[] #[.pointer (some ⟨b, 0, none⟩)]) ∧ True := hG
      obtain ⟨g8, _⟩ := hg
      clear hG hfr
      refine OpSays.enter (f := 42) (args := #[.int .i64 10, .int .i64 4, .pointer (some ⟨b, 0, none⟩)]) (w' := w1) ?_ ?_
      · go_simp
      · refine (dget4 s 10 b w1 hb (by omega) (by omega) (by omega)).mono ?_
        rintro e' w2 ⟨rfl, hk⟩
        exact ⟨_, rfl, ⟨⟨cell_only hk (fun h => h) hb, hk.at hz (fun h => h)⟩, hO.then hk (fun _ _ h => h)⟩, hk, rfl⟩
    case op10 =>
      intro ev w1 hT1 hc hf hfr hG
      rw [if_pos (by decide)]
      obtain ⟨⟨hb, hz⟩, hO⟩ := hT1
      have h1 : ev (.tmp 1) = .pointer (some ⟨b, 0, none⟩) := hfr 1 (by decide)
      clear hG hfr
      refine OpSays.value (v := .string s) (w' := w1) ?_ ⟨⟨⟨hb, hz⟩, hO⟩, Only.refl _ _, rfl⟩
      go_simp
    case op11 =>
      intro ev w1 hT1 hc hf hfr hG
      rw [if_pos (by decide)]
      obtain ⟨⟨hb, hz⟩, hO⟩ := hT1
      have h1 : ev (.tmp 1) = .pointer (some ⟨b, 0, none⟩) := hfr 1 (by decide)
      clear hG hfr
      refine OpSays.value (v := .string s) (w' := w1) ?_ ⟨⟨⟨hb, hz⟩, hO⟩, Only.refl _ _, rfl⟩
      go_simp
    case op12 =>
      intro ev w1 hT1 hc hf hfr hG
      rw [if_pos (by decide)]
      obtain ⟨⟨hb, hz⟩, hO⟩ := hT1
      have hg : (ev (.tmp 31) = .string s) ∧ True := hG
      obtain ⟨g11, _⟩ := hg
      clear hG hfr
      refine OpSays.value (v := .int .i64 (s.size)) (w' := w1) ?_ ⟨⟨⟨hb, hz⟩, hO⟩, Only.refl _ _, rfl⟩
      go_simp
    case op13 =>
      intro ev w1 hT1 hc hf hfr hG
      rw [if_pos (by decide)]
      obtain ⟨⟨hb, hz⟩, hO⟩ := hT1
      have hg : (ev (.tmp 32) = .int .i64 (s.size)) ∧ True := hG
      obtain ⟨g12, _⟩ := hg
      clear hG hfr
      refine OpSays.value (v := .int .i64 ((s.size : Int) - 4)) (w' := w1) ?_ ⟨⟨⟨hb, hz⟩, hO⟩, Only.refl _ _, rfl⟩
      go_simp; rw [IntKind.wrap_i64]; omega
    case op14 =>
      intro ev w1 hT1 hc hf hfr hG
      rw [if_pos (by decide)]
      obtain ⟨⟨hb, hz⟩, hO⟩ := hT1
      have hg : (ev (.tmp 30) = .string s) ∧ (ev (.tmp 33) = .int .i64 ((s.size : Int) - 4)) ∧ True := hG
      obtain ⟨g10, g13, _⟩ := hg
      clear hG hfr
      have hx : ((s.size : Int) - 4).toNat = s.size - 4 := by omega
      refine OpSays.value (v := .string (s.extract 16 (s.size - 4))) (w' := w1) ?_ ⟨⟨⟨hb, hz⟩, hO⟩, Only.refl _ _, rfl⟩
      go_simp; rw [if_pos (by omega), if_pos (by omega)]
    case op15 =>
      intro ev w1 hT1 hc hf hfr hG
      rw [if_pos (by decide)]
      obtain ⟨⟨hb, hz⟩, hO⟩ := hT1
      have hg : (ev (.tmp 21) = .int .i64 (numAt s 0 1)) ∧ (ev (.tmp 23) = .int .i64 (numAt s 1 4)) ∧ (ev (.tmp 25) = .int .i64 (numAt s 5 1)) ∧ (ev (.tmp 27) = .int .i64 (numAt s 6 4)) ∧ (ev (.tmp 29) = .int .i64 (numAt s 10 4)) ∧ (ev (.tmp 34) = .string (s.extract 16 (s.size - 4))) ∧ True := hG
      obtain ⟨g1, g3, g5, g7, g9, g14, _⟩ := hg
      clear hG hfr
      refine OpSays.value (v := .agg #[.int .i64 (numAt s 0 1), .int .i64 (numAt s 1 4), .int .i64 (numAt s 5 1), .int .i64 (numAt s 6 4), .int .i64 (numAt s 10 4), .string (s.extract 16 (s.size - 4))]) (w' := w1) ?_ ⟨⟨⟨hb, hz⟩, hO⟩, Only.refl _ _, rfl⟩
      go_simp
    case op16 =>
      intro ev w1 hT1 hc hf hfr hG
      rw [if_pos (by decide)]
      obtain ⟨⟨hb, hz⟩, hO⟩ := hT1
      clear hG hfr
      refine OpSays.value (v := .pointer (some ⟨w1.heap.size, 0, none⟩)) (w' := w1.alloc (.cells #[.int .i64 0, .int .i64 0, .int .i64 0, .int .i64 0, .int .i64 0, .string ⟨#[]⟩] 23)) ?_ ?_
      · go_simp
      · have hk := (Only.refl (fun _ => False) w1).alloc (.cells #[.int .i64 0, .int .i64 0, .int .i64 0, .int .i64 0, .int .i64 0, .string ⟨#[]⟩] 23)
        exact ⟨⟨⟨cell_only hk (fun h => h) hb, hk.at hz (fun h => h)⟩, hO.then hk (fun _ _ h => h)⟩, hk, w1.heap.size, rfl, heap_lt hz, blk_new w1 _⟩
  rintro ⟨tm, df⟩ w3 ⟨⟨hb3, hz3⟩, hO3⟩ hsz hdf hfr hG
  have k1 : tm.getD 1 undef = .pointer (some ⟨b, 0, none⟩) := hfr 1 (by decide)
  have k2 : tm.getD 2 undef = .pointer (some ⟨z, 0, none⟩) := hfr 2 (by decide)
  have k3 : tm.getD 3 undef = .int .i64 0 := hfr 3 (by decide)
  have k35 : tm.getD 35 undef = .agg #[.int .i64 (numAt s 0 1), .int .i64 (numAt s 1 4), .int .i64 (numAt s 5 1), .int .i64 (numAt s 6 4), .int .i64 (numAt s 10 4), .string (s.extract 16 (s.size - 4))] := AllG.get hG 15 (by decide)
  have he : tm = #[tm.getD 0 undef, tm.getD 1 undef, tm.getD 2 undef, tm.getD 3 undef, tm.getD 4 undef, tm.getD 5 undef, tm.getD 6 undef, tm.getD 7 undef, tm.getD 8 undef, tm.getD 9 undef, tm.getD 10 undef, tm.getD 11 undef, tm.getD 12 undef, tm.getD 13 undef, tm.getD 14 undef, tm.getD 15 undef, tm.getD 16 undef, tm.getD 17 undef, tm.getD 18 undef, tm.getD 19 undef, tm.getD 20 undef, tm.getD 21 undef, tm.getD 22 undef, tm.getD 23 undef, tm.getD 24 undef, tm.getD 25 undef, tm.getD 26 undef, tm.getD 27 undef, tm.getD 28 undef, tm.getD 29 undef, tm.getD 30 undef, tm.getD 31 undef, tm.getD 32 undef, tm.getD 33 undef, tm.getD 34 undef, tm.getD 35 undef, tm.getD 36 undef, tm.getD 37 undef, tm.getD 38 undef, tm.getD 39 undef, tm.getD 40 undef, tm.getD 41 undef, tm.getD 42 undef, tm.getD 43 undef, tm.getD 44 undef, tm.getD 45 undef, tm.getD 46 undef] := arr_eta (n := 47) hsz
  replace hdf : df = [] := hdf
  subst hdf
  obtain ⟨g, hg5, hgN, hgx⟩ : ∃ g, tm.getD 5 undef = .pointer (some ⟨g, 0, none⟩) ∧ _ := AllG.get hG 16 (by decide)
  clear hsz hfr hG
  rw [he, hg5, k1, k2, k3, k35]
  clear he hg5 k1 k2 k3 k35
  generalize tm.getD 0 undef = x0
  generalize tm.getD 4 undef = x4
  generalize tm.getD 6 undef = x6
  generalize tm.getD 7 undef = x7
  generalize tm.getD 8 undef = x8
  generalize tm.getD 9 undef = x9
  generalize tm.getD 10 undef = x10
  generalize tm.getD 11 undef = x11
  generalize tm.getD 12 undef = x12
  generalize tm.getD 13 undef = x13
  generalize tm.getD 14 undef = x14
  generalize tm.getD 15 undef = x15
  generalize tm.getD 16 undef = x16
  generalize tm.getD 17 undef = x17
  generalize tm.getD 18 undef = x18
  generalize tm.getD 19 undef = x19
  generalize tm.getD 20 undef = x20
  generalize tm.getD 21 undef = x21
  generalize tm.getD 22 undef = x22
  generalize tm.getD 23 undef = x23
  generalize tm.getD 24 undef = x24
  generalize tm.getD 25 undef = x25
  generalize tm.getD 26 undef = x26
  generalize tm.getD 27 undef = x27
  generalize tm.getD 28 undef = x28
  generalize tm.getD 29 undef = x29
  generalize tm.getD 30 undef = x30
  generalize tm.getD 31 undef = x31
  generalize tm.getD 32 undef = x32
  generalize tm.getD 33 undef = x33
  generalize tm.getD 34 undef = x34
  generalize tm.getD 36 undef = x36
  generalize tm.getD 37 undef = x37
  generalize tm.getD 38 undef = x38
  generalize tm.getD 39 undef = x39
  generalize tm.getD 40 undef = x40
  generalize tm.getD 41 undef = x41
  generalize tm.getD 42 undef = x42
  generalize tm.getD 43 undef = x43
  generalize tm.getD 44 undef = x44
  generalize tm.getD 45 undef = x45
  generalize tm.getD 46 undef = x46
  have q0 := blk_cell hgx 0
  have q1 := blk_cell hgx 1
  have q2 := blk_cell hgx 2
  have q3 := blk_cell hgx 3
  have q4 := blk_cell hgx 4
  have q5 := blk_cell hgx 5
  have qf := blk_free hgx
  simp only [List.getElem?_toArray, List.getElem?_cons_zero, List.getElem?_cons_succ] at q0 q1 q2 q3 q4 q5
  clear hz2 hb2 hO2
  generalize hk0 : numAt s 0 1 = k at *
  generalize he0 : numAt s 1 4 = e at *
  generalize hr0 : numAt s 5 1 = r at *
  generalize hn0 : numAt s 6 4 = n at *
  generalize ha0 : numAt s 10 4 = a at *
  generalize hd0 : s.extract 16 (s.size - 4) = d at *
  have HL := Lib.hid hL
  clear hk0 he0 hr0 hn0 ha0 hd0 hL
  go_wp2_with fail
  have hx3 := set6 hgx (.int .i64 k) (.int .i64 e) (.int .i64 r) (.int .i64 n) (.int .i64 a) (.string d)
  have hO4 : Only (fun _ => False) w (set6w w3 g (.int .i64 k) (.int .i64 e) (.int .i64 r) (.int .i64 n) (.int .i64 a) (.string d)) := set6_only hO3 (fun h => by omega) _ _ _ _ _ _
  have hO34 : Only (fun k => k = g) w3 (set6w w3 g (.int .i64 k) (.int .i64 e) (.int .i64 r) (.int .i64 n) (.int .i64 a) (.string d)) := set6_only (S := fun k => k = g) (Only.refl _ w3) (fun _ => rfl) _ _ _ _ _ _
  have hb := cell_only hO34 (by show ¬ b = g; omega) hb3
  have hz := hO34.at hz3 (by show ¬ z = g; omega)
  have hx := hx3
  have hO := hO4
  change Code.wp _ _ _ _ (set6w w3 g (.int .i64 k) (.int .i64 e) (.int .i64 r) (.int .i64 n) (.int .i64 a) (.string d))
  generalize set6w w3 g (.int .i64 k) (.int .i64 e) (.int .i64 r) (.int .i64 n) (.int .i64 a) (.string d) = w4 at hb hz hx hO ⊢
  clear hx3 hO4 hO34 hb3 hz3 hO3 hgx q0 q1 q2 q3 q4 q5 qf
  have hck : ∀ w, Calls Try.prog 15 #[.agg #[.int .i64 k, .int .i64 e, .int .i64 r, .int .i64 n, .int .i64 a, .string d]] w fun e' w' => e' = .returned (.int .i64 0) ∧ Only (fun _ => False) w w' := fun w => (lcheck_any k e r n a d w).mono fun e' w' h => ⟨by rw [h.1]; unfold lcode; rw [HL.out]; rfl, h.2⟩
  refine wp_region_facts_tail 9 dr5Ds dr5Need dr5Gs (fun w' => (w'.cell? ⟨b, 0, none⟩ = some (.string s) ∧ w'.heap[z]? = some (.cells #[.int .i64 0, .int .i64 0, .int .i64 0, .int .i64 0, .int .i64 0, .string ⟨#[]⟩] 23 (0, 0)) ∧ w'.heap[g]? = some (.cells #[.int .i64 k, .int .i64 e, .int .i64 r, .int .i64 n, .int .i64 a, .string d] 23 (0, 0))) ∧ Only (fun _ => False) w w') (Only (fun _ => False)) (dr5G b z g s k e r n a d true) rfl rfl (by kernel_rfl) (by kernel_rfl) (by kernel_rfl) (by kernel_rfl) (by kernel_rfl) ⟨⟨hb, hz, hx⟩, hO.drew⟩ dr5G.keep dr5G.guard ?_ ?_
  · refine And.intro ?op0 (And.intro ?op1 (And.intro ?op2 (And.intro ?op3 (And.intro ?op4 (And.intro ?op5 (And.intro ?op6 (And.intro ?op7 (And.intro ?op8 trivial))))))))
    case op0 =>
      intro ev w1 hT1 hc hf hfr hG
      rw [if_pos (by decide)]
      obtain ⟨⟨hb, hz, hx⟩, hO⟩ := hT1
      have h5 : ev (.tmp 5) = .pointer (some ⟨g, 0, none⟩) := hfr 5 (by decide)
      clear hG hfr
      have y0 := blk_cell hx 0
      have y1 := blk_cell hx 1
      have y2 := blk_cell hx 2
      have y3 := blk_cell hx 3
      have y4 := blk_cell hx 4
      have y5 := blk_cell hx 5
      simp only [List.getElem?_toArray, List.getElem?_cons_zero, List.getElem?_cons_succ] at y0 y1 y2 y3 y4 y5
      refine OpSays.value (v := .agg #[.int .i64 k, .int .i64 e, .int .i64 r, .int .i64 n, .int .i64 a, .string d]) (w' := w1) ?_ ⟨⟨⟨hb, hz, hx⟩, hO⟩, Only.refl _ _, rfl⟩
      go_simp
    case op1 =>
      intro ev w1 hT1 hc hf hfr hG
      rw [if_pos (by decide)]
      obtain ⟨⟨hb, hz, hx⟩, hO⟩ := hT1
      have hg : (ev (.tmp 36) = .agg #[.int .i64 k, .int .i64 e, .int .i64 r, .int .i64 n, .int .i64 a, .string d]) ∧ True := hG
      obtain ⟨g0, _⟩ := hg
      clear hG hfr
      refine OpSays.enter (f := 15) (args := #[.agg #[.int .i64 k, .int .i64 e, .int .i64 r, .int .i64 n, .int .i64 a, .string d]]) (w' := w1) ?_ ?_
      · go_simp
      · refine (hck w1).mono ?_
        rintro e' w2 ⟨rfl, hk⟩
        exact ⟨_, rfl, ⟨⟨cell_only hk (fun h => h) hb, hk.at hz (fun h => h), hk.at hx (fun h => h)⟩, hO.then hk (fun _ _ h => h)⟩, hk, rfl⟩
    case op2 =>
      intro ev w1 hT1 hc hf hfr hG
      rw [if_pos (by decide)]
      obtain ⟨⟨hb, hz, hx⟩, hO⟩ := hT1
      have hg : (ev (.tmp 37) = .int .i64 0) ∧ True := hG
      obtain ⟨g1, _⟩ := hg
      clear hG hfr
      refine OpSays.value (v := .bool false) (w' := w1) ?_ ⟨⟨⟨hb, hz, hx⟩, hO⟩, Only.refl _ _, rfl⟩
      go_simp
    case op3 =>
      intro ev w1 hT1 hc hf hfr hG
      rw [if_pos (by decide)]
      obtain ⟨⟨hb, hz, hx⟩, hO⟩ := hT1
      have hg : (ev (.tmp 38) = .bool false) ∧ True := hG
      obtain ⟨g2, _⟩ := hg
      clear hG hfr
      refine OpSays.value (v := .bool false) (w' := w1) ?_ ⟨⟨⟨hb, hz, hx⟩, hO⟩, Only.refl _ _, rfl⟩
      go_simp
    case op4 =>
      intro ev w1 hT1 hc hf hfr hG
      rw [if_pos (by decide)]
      obtain ⟨⟨hb, hz, hx⟩, hO⟩ := hT1
      have h5 : ev (.tmp 5) = .pointer (some ⟨g, 0, none⟩) := hfr 5 (by decide)
      clear hG hfr
      have y0 := blk_cell hx 0
      have y1 := blk_cell hx 1
      have y2 := blk_cell hx 2
      have y3 := blk_cell hx 3
      have y4 := blk_cell hx 4
      have y5 := blk_cell hx 5
      simp only [List.getElem?_toArray, List.getElem?_cons_zero, List.getElem?_cons_succ] at y0 y1 y2 y3 y4 y5
      refine OpSays.value (v := .agg #[.int .i64 k, .int .i64 e, .int .i64 r, .int .i64 n, .int .i64 a, .string d]) (w' := w1) ?_ ⟨⟨⟨hb, hz, hx⟩, hO⟩, Only.refl _ _, rfl⟩
      go_simp
    case op5 =>
      intro ev w1 hT1 hc hf hfr hG
      rw [if_pos (by decide)]
      obtain ⟨⟨hb, hz, hx⟩, hO⟩ := hT1
      have hg : (ev (.tmp 40) = .agg #[.int .i64 k, .int .i64 e, .int .i64 r, .int .i64 n, .int .i64 a, .string d]) ∧ True := hG
      obtain ⟨g4, _⟩ := hg
      clear hG hfr
      refine OpSays.enter (f := 40) (args := #[.agg #[.int .i64 k, .int .i64 e, .int .i64 r, .int .i64 n, .int .i64 a, .string d]]) (w' := w1) ?_ ?_
      · go_simp
      · refine (text_any k e r n a d w1 HL.out).mono ?_
        rintro e' w2 ⟨rfl, hk⟩
        exact ⟨_, rfl, ⟨⟨cell_only hk (fun h => h) hb, hk.at hz (fun h => h), hk.at hx (fun h => h)⟩, hO.then hk (fun _ _ h => h)⟩, hk, rfl⟩
    case op6 =>
      intro ev w1 hT1 hc hf hfr hG
      rw [if_pos (by decide)]
      obtain ⟨⟨hb, hz, hx⟩, hO⟩ := hT1
      have h1 : ev (.tmp 1) = .pointer (some ⟨b, 0, none⟩) := hfr 1 (by decide)
      clear hG hfr
      refine OpSays.value (v := .string s) (w' := w1) ?_ ⟨⟨⟨hb, hz, hx⟩, hO⟩, Only.refl _ _, rfl⟩
      go_simp
    case op7 =>
      intro ev w1 hT1 hc hf hfr hG
      rw [if_pos (by decide)]
      obtain ⟨⟨hb, hz, hx⟩, hO⟩ := hT1
      have hg : (ev (.tmp 41) = .string (letBytes k e r n a d)) ∧ (ev (.tmp 42) = .string s) ∧ True := hG
      obtain ⟨g5, g6, _⟩ := hg
      clear hG hfr
      refine OpSays.value (v := .bool true) (w' := w1) ?_ ⟨⟨⟨hb, hz, hx⟩, hO⟩, Only.refl _ _, rfl⟩
      go_simp
    case op8 =>
      intro ev w1 hT1 hc hf hfr hG
      rw [if_pos (by decide)]
      obtain ⟨⟨hb, hz, hx⟩, hO⟩ := hT1
      have hg : (ev (.tmp 39) = .bool false) ∧ (ev (.tmp 43) = .bool true) ∧ True := hG
      obtain ⟨g3, g7, _⟩ := hg
      clear hG hfr
      refine OpSays.value (v := .bool true) (w' := w1) ?_ ⟨⟨⟨hb, hz, hx⟩, hO⟩, Only.refl _ _, rfl⟩
      go_simp
  rintro ⟨tm, df⟩ w5 ⟨⟨hb5, hz5, hx5⟩, hO5⟩ hsz hdf hfr hG
  have k1 : tm.getD 1 undef = .pointer (some ⟨b, 0, none⟩) := hfr 1 (by decide)
  have k2 : tm.getD 2 undef = .pointer (some ⟨z, 0, none⟩) := hfr 2 (by decide)
  have k3 : tm.getD 3 undef = .int .i64 0 := hfr 3 (by decide)
  have k5 : tm.getD 5 undef = .pointer (some ⟨g, 0, none⟩) := hfr 5 (by decide)
  have k44 : tm.getD 44 undef = .bool true := AllG.get hG 8 (by decide)
  have he : tm = #[tm.getD 0 undef, tm.getD 1 undef, tm.getD 2 undef, tm.getD 3 undef, tm.getD 4 undef, tm.getD 5 undef, tm.getD 6 undef, tm.getD 7 undef, tm.getD 8 undef, tm.getD 9 undef, tm.getD 10 undef, tm.getD 11 undef, tm.getD 12 undef, tm.getD 13 undef, tm.getD 14 undef, tm.getD 15 undef, tm.getD 16 undef, tm.getD 17 undef, tm.getD 18 undef, tm.getD 19 undef, tm.getD 20 undef, tm.getD 21 undef, tm.getD 22 undef, tm.getD 23 undef, tm.getD 24 undef, tm.getD 25 undef, tm.getD 26 undef, tm.getD 27 undef, tm.getD 28 undef, tm.getD 29 undef, tm.getD 30 undef, tm.getD 31 undef, tm.getD 32 undef, tm.getD 33 undef, tm.getD 34 undef, tm.getD 35 undef, tm.getD 36 undef, tm.getD 37 undef, tm.getD 38 undef, tm.getD 39 undef, tm.getD 40 undef, tm.getD 41 undef, tm.getD 42 undef, tm.getD 43 undef, tm.getD 44 undef, tm.getD 45 undef, tm.getD 46 undef] := arr_eta (n := 47) hsz
  replace hdf : df = [] := hdf
  subst hdf
  clear hsz hfr hG
  rw [he, k1, k2, k3, k5, k44]
  clear he k1 k2 k3 k5 k44
  generalize tm.getD 0 undef = x0
  generalize tm.getD 4 undef = x4
  generalize tm.getD 6 undef = x6
  generalize tm.getD 7 undef = x7
  generalize tm.getD 8 undef = x8
  generalize tm.getD 9 undef = x9
  generalize tm.getD 10 undef = x10
  generalize tm.getD 11 undef = x11
  generalize tm.getD 12 undef = x12
  generalize tm.getD 13 undef = x13
  generalize tm.getD 14 undef = x14
  generalize tm.getD 15 undef = x15
  generalize tm.getD 16 undef = x16
  generalize tm.getD 17 undef = x17
  generalize tm.getD 18 undef = x18
  generalize tm.getD 19 undef = x19
  generalize tm.getD 20 undef = x20
  generalize tm.getD 21 undef = x21
  generalize tm.getD 22 undef = x22
  generalize tm.getD 23 undef = x23
  generalize tm.getD 24 undef = x24
  generalize tm.getD 25 undef = x25
  generalize tm.getD 26 undef = x26
  generalize tm.getD 27 undef = x27
  generalize tm.getD 28 undef = x28
  generalize tm.getD 29 undef = x29
  generalize tm.getD 30 undef = x30
  generalize tm.getD 31 undef = x31
  generalize tm.getD 32 undef = x32
  generalize tm.getD 33 undef = x33
  generalize tm.getD 34 undef = x34
  generalize tm.getD 35 undef = x35
  generalize tm.getD 36 undef = x36
  generalize tm.getD 37 undef = x37
  generalize tm.getD 38 undef = x38
  generalize tm.getD 39 undef = x39
  generalize tm.getD 40 undef = x40
  generalize tm.getD 41 undef = x41
  generalize tm.getD 42 undef = x42
  generalize tm.getD 43 undef = x43
  generalize tm.getD 45 undef = x45
  generalize tm.getD 46 undef = x46
  clear hz hO hb hx
  have q0 := blk_cell hz5 0
  have q1 := blk_cell hz5 1
  have q2 := blk_cell hz5 2
  have q3 := blk_cell hz5 3
  have q4 := blk_cell hz5 4
  have q5 := blk_cell hz5 5
  have qf := blk_free hz5
  simp only [List.getElem?_toArray, List.getElem?_cons_zero, List.getElem?_cons_succ] at q0 q1 q2 q3 q4 q5
  go_wp2_with fail
  have hs := set6 hz5 (.int .i64 0) (.int .i64 0) (.int .i64 0) (.int .i64 0) (.int .i64 0) (.string ⟨#[]⟩)
  have hOO : Only (fun _ => False) w (set6w w5 z (.int .i64 0) (.int .i64 0) (.int .i64 0) (.int .i64 0) (.int .i64 0) (.string ⟨#[]⟩)) := set6_only hO5 (fun h => by omega) _ _ _ _ _ _
  change bodyPost _ _ _ _ _ (set6w w5 z (.int .i64 0) (.int .i64 0) (.int .i64 0) (.int .i64 0) (.int .i64 0) (.string ⟨#[]⟩))
  generalize set6w w5 z (.int .i64 0) (.int .i64 0) (.int .i64 0) (.int .i64 0) (.int .i64 0) (.string ⟨#[]⟩) = wz at hs hOO ⊢
  have y0 := blk_cell hs 0
  have y1 := blk_cell hs 1
  have y2 := blk_cell hs 2
  have y3 := blk_cell hs 3
  have y4 := blk_cell hs 4
  have y5 := blk_cell hs 5
  simp only [List.getElem?_toArray, List.getElem?_cons_zero, List.getElem?_cons_succ] at y0 y1 y2 y3 y4 y5
  clear hs q0 q1 q2 q3 q4 q5 qf
  refine bodyPost_ret (v := .tuple #[.agg #[.int .i64 0, .int .i64 0, .int .i64 0, .int .i64 0, .int .i64 0, .string ⟨#[]⟩], .int .i64 240]) (by simp [results, Try.results13, go_sem, y0, y1, y2, y3, y4, y5]) rfl ⟨rfl, hOO⟩
set_option maxHeartbeats 4000000 in
theorem dec_good (s : ByteArray) (w : World) (h20 : 20 ≤ s.size) (hs : s.size ≤ 140737488355328) (hβ : (((s.size : Int) - 16 - 4) != numAt s 14 2) = false) (hL : letterB (numAt s 0 1) (numAt s 1 4) (numAt s 5 1) (numAt s 6 4) (numAt s 10 4) (s.extract 16 (s.size - 4)) = true) (hS : ((letBytes (numAt s 0 1) (numAt s 1 4) (numAt s 5 1) (numAt s 6 4) (numAt s 10 4) (s.extract 16 (s.size - 4))).toList == s.toList) = true) :
    Calls Try.prog 13 #[.string s] w fun e w' => e = .returned (.tuple #[.agg #[.int .i64 (numAt s 0 1), .int .i64 (numAt s 1 4), .int .i64 (numAt s 5 1), .int .i64 (numAt s 6 4), .int .i64 (numAt s 10 4), .string (s.extract 16 (s.size - 4))], .int .i64 0]) ∧ Only (fun _ => False) w w' := by
  have d1 : decide ((s.size : Int) < 20) = false := decide_eq_false (by omega)
  have hO := ((Only.refl (fun _ => False) w).alloc (.cells #[.string s] 9)).alloc (.cells #[.int .i64 0, .int .i64 0, .int .i64 0, .int .i64 0, .int .i64 0, .string ⟨#[]⟩] 23)
  have hb := (blk_cell (blk_alloc (blk_new w (.cells #[.string s] 9)) (.cells #[.int .i64 0, .int .i64 0, .int .i64 0, .int .i64 0, .int .i64 0, .string ⟨#[]⟩] 23)) 0).trans rfl
  have hz := blk_new2 w (.cells #[.string s] 9) (.cells #[.int .i64 0, .int .i64 0, .int .i64 0, .int .i64 0, .int .i64 0, .string ⟨#[]⟩] 23)
  go_enter Try.func13, Try.ntmps13
  go_wp2_with fail
  generalize (w.alloc (.cells #[.string s] 9)).alloc (.cells #[.int .i64 0, .int .i64 0, .int .i64 0, .int .i64 0, .int .i64 0, .string ⟨#[]⟩] 23) = w0 at hO hb hz ⊢
  have hbz : w.heap.size + 1 < w0.heap.size := heap_lt hz
  generalize hzz : w.heap.size + 1 = z at hz hbz ⊢
  generalize hbb : w.heap.size = b at hb hzz ⊢
  refine wp_region_facts_tail 12 dr2Ds dr2Need dr2Gs (fun w' => (w'.cell? ⟨b, 0, none⟩ = some (.string s) ∧ w'.heap[z]? = some (.cells #[.int .i64 0, .int .i64 0, .int .i64 0, .int .i64 0, .int .i64 0, .string ⟨#[]⟩] 23 (0, 0))) ∧ Only (fun _ => False) w w') (Only (fun _ => False)) (dr2G b z s false) rfl rfl (by kernel_rfl) (by kernel_rfl) (by kernel_rfl) (by kernel_rfl) (by kernel_rfl) ⟨⟨hb, hz⟩, hO.drew⟩ dr2G.keep dr2G.guard ?_ ?_
  · refine And.intro ?op0 (And.intro ?op1 (And.intro ?op2 (And.intro ?op3 (And.intro ?op4 (And.intro ?op5 (And.intro ?op6 (And.intro ?op7 (And.intro ?op8 (And.intro ?op9 (And.intro ?op10 (And.intro ?op11 trivial)))))))))))
    case op0 =>
      intro ev w1 hT1 hc hf hfr hG
      rw [if_pos (by decide)]
      obtain ⟨⟨hb, hz⟩, hO⟩ := hT1
      have h1 : ev (.tmp 1) = .pointer (some ⟨b, 0, none⟩) := hfr 1 (by decide)
      clear hG hfr
      refine OpSays.value (v := .string s) (w' := w1) ?_ ⟨⟨⟨hb, hz⟩, hO⟩, Only.refl _ _, rfl⟩
      go_simp
    case op1 =>
      intro ev w1 hT1 hc hf hfr hG
      rw [if_pos (by decide)]
      obtain ⟨⟨hb, hz⟩, hO⟩ := hT1
      have hg : (ev (.tmp 7) = .string s) ∧ True := hG
      obtain ⟨g0, _⟩ := hg
      clear hG hfr
      refine OpSays.value (v := .int .i64 (s.size)) (w' := w1) ?_ ⟨⟨⟨hb, hz⟩, hO⟩, Only.refl _ _, rfl⟩
      go_simp
    case op2 =>
      intro ev w1 hT1 hc hf hfr hG
      rw [if_pos (by decide)]
      obtain ⟨⟨hb, hz⟩, hO⟩ := hT1
      have hg : (ev (.tmp 8) = .int .i64 (s.size)) ∧ True := hG
      obtain ⟨g1, _⟩ := hg
      clear hG hfr
      refine OpSays.value (v := .bool false) (w' := w1) ?_ ⟨⟨⟨hb, hz⟩, hO⟩, Only.refl _ _, rfl⟩
      go_simp
    case op3 =>
      intro ev w1 hT1 hc hf hfr hG
      rw [if_pos (by decide)]
      obtain ⟨⟨hb, hz⟩, hO⟩ := hT1
      have hg : (ev (.tmp 9) = .bool false) ∧ True := hG
      obtain ⟨g2, _⟩ := hg
      clear hG hfr
      refine OpSays.value (v := .bool false) (w' := w1) ?_ ⟨⟨⟨hb, hz⟩, hO⟩, Only.refl _ _, rfl⟩
      go_simp
    case op4 =>
      intro ev w1 hT1 hc hf hfr hG
      rw [if_pos (by decide)]
      obtain ⟨⟨hb, hz⟩, hO⟩ := hT1
      have h1 : ev (.tmp 1) = .pointer (some ⟨b, 0, none⟩) := hfr 1 (by decide)
      clear hG hfr
      refine OpSays.value (v := .string s) (w' := w1) ?_ ⟨⟨⟨hb, hz⟩, hO⟩, Only.refl _ _, rfl⟩
      go_simp
    case op5 =>
      intro ev w1 hT1 hc hf hfr hG
      rw [if_pos (by decide)]
      obtain ⟨⟨hb, hz⟩, hO⟩ := hT1
      have hg : (ev (.tmp 11) = .string s) ∧ True := hG
      obtain ⟨g4, _⟩ := hg
      clear hG hfr
      refine OpSays.value (v := .int .i64 (s.size)) (w' := w1) ?_ ⟨⟨⟨hb, hz⟩, hO⟩, Only.refl _ _, rfl⟩
      go_simp
    case op6 =>
      intro ev w1 hT1 hc hf hfr hG
      rw [if_pos (by decide)]
      obtain ⟨⟨hb, hz⟩, hO⟩ := hT1
      have hg : (ev (.tmp 12) = .int .i64 (s.size)) ∧ True := hG
      obtain ⟨g5, _⟩ := hg
      clear hG hfr
      refine OpSays.value (v := .int .i64 ((s.size : Int) - 16)) (w' := w1) ?_ ⟨⟨⟨hb, hz⟩, hO⟩, Only.refl _ _, rfl⟩
      go_simp; rw [IntKind.wrap_i64]; omega
    case op7 =>
      intro ev w1 hT1 hc hf hfr hG
      rw [if_pos (by decide)]
      obtain ⟨⟨hb, hz⟩, hO⟩ := hT1
      have hg : (ev (.tmp 13) = .int .i64 ((s.size : Int) - 16)) ∧ True := hG
      obtain ⟨g6, _⟩ := hg
      clear hG hfr
      refine OpSays.value (v := .int .i64 ((s.size : Int) - 16 - 4)) (w' := w1) ?_ ⟨⟨⟨hb, hz⟩, hO⟩, Only.refl _ _, rfl⟩
      go_simp; rw [IntKind.wrap_i64]; omega
    case op8 =>
      intro ev w1 hT1 hc hf hfr hG
      rw [if_pos (by decide)]
      obtain ⟨⟨hb, hz⟩, hO⟩ := hT1
      have h4 : ev (.tmp 4) = .func (.func 42) #[] #[.pointer (some ⟨b, 0, none⟩)] := hfr 4 (by decide)
      clear hG hfr
      refine OpSays.value (v := .func (.func 42) #[] #[.pointer (some ⟨b, 0, none⟩)]) (w' := w1) ?_ ⟨⟨⟨hb, hz⟩, hO⟩, Only.refl _ _, rfl⟩
      go_simp
    case op9 =>
      intro ev w1 hT1 hc hf hfr hG
      rw [if_pos (by decide)]
      obtain ⟨⟨hb, hz⟩, hO⟩ := hT1
      have hg : (ev (.tmp 15) = .func (.func 42) #[] #[.pointer (some ⟨b, 0, none⟩)]) ∧ True := hG
      obtain ⟨g8, _⟩ := hg
      clear hG hfr
      refine OpSays.enter (f := 42) (args := #[.int .i64 14, .int .i64 2, .pointer (some ⟨b, 0, none⟩)]) (w' := w1) ?_ ?_
      · go_simp
      · refine (dget2 s 14 b w1 hb (by omega) (by omega) (by omega)).mono ?_
        rintro e' w2 ⟨rfl, hk⟩
        exact ⟨_, rfl, ⟨⟨cell_only hk (fun h => h) hb, hk.at hz (fun h => h)⟩, hO.then hk (fun _ _ h => h)⟩, hk, rfl⟩
    case op10 =>
      intro ev w1 hT1 hc hf hfr hG
      rw [if_pos (by decide)]
      obtain ⟨⟨hb, hz⟩, hO⟩ := hT1
      have hg : (ev (.tmp 14) = .int .i64 ((s.size : Int) - 16 - 4)) ∧ (ev (.tmp 16) = .int .i64 (numAt s 14 2)) ∧ True := hG
      obtain ⟨g7, g9, _⟩ := hg
      clear hG hfr
      refine OpSays.value (v := .bool false) (w' := w1) ?_ ⟨⟨⟨hb, hz⟩, hO⟩, Only.refl _ _, rfl⟩
      go_simp
    case op11 =>
      intro ev w1 hT1 hc hf hfr hG
      rw [if_pos (by decide)]
      obtain ⟨⟨hb, hz⟩, hO⟩ := hT1
      have hg : (ev (.tmp 10) = .bool false) ∧ (ev (.tmp 17) = .bool false) ∧ True := hG
      obtain ⟨g3, g10, _⟩ := hg
      clear hG hfr
      refine OpSays.value (v := .bool false) (w' := w1) ?_ ⟨⟨⟨hb, hz⟩, hO⟩, Only.refl _ _, rfl⟩
      go_simp
  rintro ⟨tm, df⟩ w2 ⟨⟨hb2, hz2⟩, hO2⟩ hsz hdf hfr hG
  have k1 : tm.getD 1 undef = .pointer (some ⟨b, 0, none⟩) := hfr 1 (by decide)
  have k2 : tm.getD 2 undef = .pointer (some ⟨z, 0, none⟩) := hfr 2 (by decide)
  have k3 : tm.getD 3 undef = .int .i64 0 := hfr 3 (by decide)
  have k4 : tm.getD 4 undef = .func (.func 42) #[] #[.pointer (some ⟨b, 0, none⟩)] := hfr 4 (by decide)
  have k18 : tm.getD 18 undef = .bool false := AllG.get hG 11 (by decide)
  have he : tm = #[tm.getD 0 undef, tm.getD 1 undef, tm.getD 2 undef, tm.getD 3 undef, tm.getD 4 undef, tm.getD 5 undef, tm.getD 6 undef, tm.getD 7 undef, tm.getD 8 undef, tm.getD 9 undef, tm.getD 10 undef, tm.getD 11 undef, tm.getD 12 undef, tm.getD 13 undef, tm.getD 14 undef, tm.getD 15 undef, tm.getD 16 undef, tm.getD 17 undef, tm.getD 18 undef, tm.getD 19 undef, tm.getD 20 undef, tm.getD 21 undef, tm.getD 22 undef, tm.getD 23 undef, tm.getD 24 undef, tm.getD 25 undef, tm.getD 26 undef, tm.getD 27 undef, tm.getD 28 undef, tm.getD 29 undef, tm.getD 30 undef, tm.getD 31 undef, tm.getD 32 undef, tm.getD 33 undef, tm.getD 34 undef, tm.getD 35 undef, tm.getD 36 undef, tm.getD 37 undef, tm.getD 38 undef, tm.getD 39 undef, tm.getD 40 undef, tm.getD 41 undef, tm.getD 42 undef, tm.getD 43 undef, tm.getD 44 undef, tm.getD 45 undef, tm.getD 46 undef] := arr_eta (n := 47) hsz
  replace hdf : df = [] := hdf
  subst hdf
  clear hsz hfr hG
  rw [he, k1, k2, k3, k4, k18]
  clear he k1 k2 k3 k4 k18
  generalize tm.getD 0 undef = x0
  generalize tm.getD 5 undef = x5
  generalize tm.getD 6 undef = x6
  generalize tm.getD 7 undef = x7
  generalize tm.getD 8 undef = x8
  generalize tm.getD 9 undef = x9
  generalize tm.getD 10 undef = x10
  generalize tm.getD 11 undef = x11
  generalize tm.getD 12 undef = x12
  generalize tm.getD 13 undef = x13
  generalize tm.getD 14 undef = x14
  generalize tm.getD 15 undef = x15
  generalize tm.getD 16 undef = x16
  generalize tm.getD 17 undef = x17
  generalize tm.getD 19 undef = x19
  generalize tm.getD 20 undef = x20
  generalize tm.getD 21 undef = x21
  generalize tm.getD 22 undef = x22
  generalize tm.getD 23 undef = x23
  generalize tm.getD 24 undef = x24
  generalize tm.getD 25 undef = x25
  generalize tm.getD 26 undef = x26
  generalize tm.getD 27 undef = x27
  generalize tm.getD 28 undef = x28
  generalize tm.getD 29 undef = x29
  generalize tm.getD 30 undef = x30
  generalize tm.getD 31 undef = x31
  generalize tm.getD 32 undef = x32
  generalize tm.getD 33 undef = x33
  generalize tm.getD 34 undef = x34
  generalize tm.getD 35 undef = x35
  generalize tm.getD 36 undef = x36
  generalize tm.getD 37 undef = x37
  generalize tm.getD 38 undef = x38
  generalize tm.getD 39 undef = x39
  generalize tm.getD 40 undef = x40
  generalize tm.getD 41 undef = x41
  generalize tm.getD 42 undef = x42
  generalize tm.getD 43 undef = x43
  generalize tm.getD 44 undef = x44
  generalize tm.getD 45 undef = x45
  generalize tm.getD 46 undef = x46
  clear hz hO hb
  go_wp2_with fail
  refine wp_region_facts_tail 17 dr4Ds dr4Need dr4Gs (fun w' => (w'.cell? ⟨b, 0, none⟩ = some (.string s) ∧ w'.heap[z]? = some (.cells #[.int .i64 0, .int .i64 0, .int .i64 0, .int .i64 0, .int .i64 0, .string ⟨#[]⟩] 23 (0, 0))) ∧ Only (fun _ => False) w w') (Only (fun _ => False)) (dr4G b z s) rfl rfl (by kernel_rfl) (by kernel_rfl) (by kernel_rfl) (by kernel_rfl) (by kernel_rfl) ⟨⟨hb2, hz2⟩, hO2.drew⟩ dr4G.keep dr4G.guard ?_ ?_
  · refine And.intro ?op0 (And.intro ?op1 (And.intro ?op2 (And.intro ?op3 (And.intro ?op4 (And.intro ?op5 (And.intro ?op6 (And.intro ?op7 (And.intro ?op8 (And.intro ?op9 (And.intro ?op10 (And.intro ?op11 (And.intro ?op12 (And.intro ?op13 (And.intro ?op14 (And.intro ?op15 (And.intro ?op16 trivial))))))))))))))))
    case op0 =>
      intro ev w1 hT1 hc hf hfr hG
      rw [if_pos (by decide)]
      obtain ⟨⟨hb, hz⟩, hO⟩ := hT1
      have h4 : ev (.tmp 4) = .func (.func 42) #[] #[.pointer (some ⟨b, 0, none⟩)] := hfr 4 (by decide)
      clear hG hfr
      refine OpSays.value (v := .func (.func 42) #[] #[.pointer (some ⟨b, 0, none⟩)]) (w' := w1) ?_ ⟨⟨⟨hb, hz⟩, hO⟩, Only.refl _ _, rfl⟩
      go_simp
    case op1 =>
      intro ev w1 hT1 hc hf hfr hG
      rw [if_pos (by decide)]
      obtain ⟨⟨hb, hz⟩, hO⟩ := hT1
      have hg : (ev (.tmp 20) = .func (.func 42) #[] #[.pointer (some ⟨b, 0, none⟩)]) ∧ True := hG
      obtain ⟨g0, _⟩ := hg
      clear hG hfr
      refine OpSays.enter (f := 42) (args := #[.int .i64 0, .int .i64 1, .pointer (some ⟨b, 0, none⟩)]) (w' := w1) ?_ ?_
      · go_simp
      · refine (dget1 s 0 b w1 hb (by omega) (by omega) (by omega)).mono ?_
        rintro e' w2 ⟨rfl, hk⟩
        exact ⟨_, rfl, ⟨⟨cell_only hk (fun h => h) hb, hk.at hz (fun h => h)⟩, hO.then hk (fun _ _ h => h)⟩, hk, rfl⟩
    case op2 =>
      intro ev w1 hT1 hc hf hfr hG
      rw [if_pos (by decide)]
      obtain ⟨⟨hb, hz⟩, hO⟩ := hT1
      have h4 : ev (.tmp 4) = .func (.func 42) #[] #[.pointer (some ⟨b, 0, none⟩)] := hfr 4 (by decide)
      clear hG hfr
      refine OpSays.value (v := .func (.func 42) #[] #[.pointer (some ⟨b, 0, none⟩)]) (w' := w1) ?_ ⟨⟨⟨hb, hz⟩, hO⟩, Only.refl _ _, rfl⟩
      go_simp
    case op3 =>
      intro ev w1 hT1 hc hf hfr hG
      rw [if_pos (by decide)]
      obtain ⟨⟨hb, hz⟩, hO⟩ := hT1
      have hg : (ev (.tmp 22) = .func (.func 42) #[] #[.pointer (some ⟨b, 0, none⟩)]) ∧ True := hG
      obtain ⟨g2, _⟩ := hg
      clear hG hfr
      refine OpSays.enter (f := 42) (args := #[.int .i64 1, .int .i64 4, .pointer (some ⟨b, 0, none⟩)]) (w' := w1) ?_ ?_
      · go_simp
      · refine (dget4 s 1 b w1 hb (by omega) (by omega) (by omega)).mono ?_
        rintro e' w2 ⟨rfl, hk⟩
        exact ⟨_, rfl, ⟨⟨cell_only hk (fun h => h) hb, hk.at hz (fun h => h)⟩, hO.then hk (fun _ _ h => h)⟩, hk, rfl⟩
    case op4 =>
      intro ev w1 hT1 hc hf hfr hG
      rw [if_pos (by decide)]
      obtain ⟨⟨hb, hz⟩, hO⟩ := hT1
      have h4 : ev (.tmp 4) = .func (.func 42) #[] #[.pointer (some ⟨b, 0, none⟩)] := hfr 4 (by decide)
      clear hG hfr
      refine OpSays.value (v := .func (.func 42) #[] #[.pointer (some ⟨b, 0, none⟩)]) (w' := w1) ?_ ⟨⟨⟨hb, hz⟩, hO⟩, Only.refl _ _, rfl⟩
      go_simp
    case op5 =>
      intro ev w1 hT1 hc hf hfr hG
      rw [if_pos (by decide)]
      obtain ⟨⟨hb, hz⟩, hO⟩ := hT1
      have hg : (ev (.tmp 24) = .func (.func 42) #[] #[.pointer (some ⟨b, 0, none⟩)]) ∧ True := hG
      obtain ⟨g4, _⟩ := hg
      clear hG hfr
      refine OpSays.enter (f := 42) (args := #[.int .i64 5, .int .i64 1, .pointer (some ⟨b, 0, none⟩)]) (w' := w1) ?_ ?_
      · go_simp
      · refine (dget1 s 5 b w1 hb (by omega) (by omega) (by omega)).mono ?_
        rintro e' w2 ⟨rfl, hk⟩
        exact ⟨_, rfl, ⟨⟨cell_only hk (fun h => h) hb, hk.at hz (fun h => h)⟩, hO.then hk (fun _ _ h => h)⟩, hk, rfl⟩
    case op6 =>
      intro ev w1 hT1 hc hf hfr hG
      rw [if_pos (by decide)]
      obtain ⟨⟨hb, hz⟩, hO⟩ := hT1
      have h4 : ev (.tmp 4) = .func (.func 42) #[] #[.pointer (some ⟨b, 0, none⟩)] := hfr 4 (by decide)
      clear hG hfr
      refine OpSays.value (v := .func (.func 42) #[] #[.pointer (some ⟨b, 0, none⟩)]) (w' := w1) ?_ ⟨⟨⟨hb, hz⟩, hO⟩, Only.refl _ _, rfl⟩
      go_simp
    case op7 =>
      intro ev w1 hT1 hc hf hfr hG
      rw [if_pos (by decide)]
      obtain ⟨⟨hb, hz⟩, hO⟩ := hT1
      have hg : (ev (.tmp 26) = .func (.func 42) #[] #[.pointer (some ⟨b, 0, none⟩)]) ∧ True := hG
      obtain ⟨g6, _⟩ := hg
      clear hG hfr
      refine OpSays.enter (f := 42) (args := #[.int .i64 6, .int .i64 4, .pointer (some ⟨b, 0, none⟩)]) (w' := w1) ?_ ?_
      · go_simp
      · refine (dget4 s 6 b w1 hb (by omega) (by omega) (by omega)).mono ?_
        rintro e' w2 ⟨rfl, hk⟩
        exact ⟨_, rfl, ⟨⟨cell_only hk (fun h => h) hb, hk.at hz (fun h => h)⟩, hO.then hk (fun _ _ h => h)⟩, hk, rfl⟩
    case op8 =>
      intro ev w1 hT1 hc hf hfr hG
      rw [if_pos (by decide)]
      obtain ⟨⟨hb, hz⟩, hO⟩ := hT1
      have h4 : ev (.tmp 4) = .func (.func 42) #[] #[.pointer (some ⟨b, 0, none⟩)] := hfr 4 (by decide)
      clear hG hfr
      refine OpSays.value (v := .func (.func 42) #[] #[.pointer (some ⟨b, 0, none⟩)]) (w' := w1) ?_ ⟨⟨⟨hb, hz⟩, hO⟩, Only.refl _ _, rfl⟩
      go_simp
    case op9 =>
      intro ev w1 hT1 hc hf hfr hG
      rw [if_pos (by decide)]
      obtain ⟨⟨hb, hz⟩, hO⟩ := hT1
      have hg : (ev (.tmp 28) = .func (.func 42) #[] #[.pointer (some ⟨b, 0, none⟩)]) ∧ True := hG
      obtain ⟨g8, _⟩ := hg
      clear hG hfr
      refine OpSays.enter (f := 42) (args := #[.int .i64 10, .int .i64 4, .pointer (some ⟨b, 0, none⟩)]) (w' := w1) ?_ ?_
      · go_simp
      · refine (dget4 s 10 b w1 hb (by omega) (by omega) (by omega)).mono ?_
        rintro e' w2 ⟨rfl, hk⟩
        exact ⟨_, rfl, ⟨⟨cell_only hk (fun h => h) hb, hk.at hz (fun h => h)⟩, hO.then hk (fun _ _ h => h)⟩, hk, rfl⟩
    case op10 =>
      intro ev w1 hT1 hc hf hfr hG
      rw [if_pos (by decide)]
      obtain ⟨⟨hb, hz⟩, hO⟩ := hT1
      have h1 : ev (.tmp 1) = .pointer (some ⟨b, 0, none⟩) := hfr 1 (by decide)
      clear hG hfr
      refine OpSays.value (v := .string s) (w' := w1) ?_ ⟨⟨⟨hb, hz⟩, hO⟩, Only.refl _ _, rfl⟩
      go_simp
    case op11 =>
      intro ev w1 hT1 hc hf hfr hG
      rw [if_pos (by decide)]
      obtain ⟨⟨hb, hz⟩, hO⟩ := hT1
      have h1 : ev (.tmp 1) = .pointer (some ⟨b, 0, none⟩) := hfr 1 (by decide)
      clear hG hfr
      refine OpSays.value (v := .string s) (w' := w1) ?_ ⟨⟨⟨hb, hz⟩, hO⟩, Only.refl _ _, rfl⟩
      go_simp
    case op12 =>
      intro ev w1 hT1 hc hf hfr hG
      rw [if_pos (by decide)]
      obtain ⟨⟨hb, hz⟩, hO⟩ := hT1
      have hg : (ev (.tmp 31) = .string s) ∧ True := hG
      obtain ⟨g11, _⟩ := hg
      clear hG hfr
      refine OpSays.value (v := .int .i64 (s.size)) (w' := w1) ?_ ⟨⟨⟨hb, hz⟩, hO⟩, Only.refl _ _, rfl⟩
      go_simp
    case op13 =>
      intro ev w1 hT1 hc hf hfr hG
      rw [if_pos (by decide)]
      obtain ⟨⟨hb, hz⟩, hO⟩ := hT1
      have hg : (ev (.tmp 32) = .int .i64 (s.size)) ∧ True := hG
      obtain ⟨g12, _⟩ := hg
      clear hG hfr
      refine OpSays.value (v := .int .i64 ((s.size : Int) - 4)) (w' := w1) ?_ ⟨⟨⟨hb, hz⟩, hO⟩, Only.refl _ _, rfl⟩
      go_simp; rw [IntKind.wrap_i64]; omega
    case op14 =>
      intro ev w1 hT1 hc hf hfr hG
      rw [if_pos (by decide)]
      obtain ⟨⟨hb, hz⟩, hO⟩ := hT1
      have hg : (ev (.tmp 30) = .string s) ∧ (ev (.tmp 33) = .int .i64 ((s.size : Int) - 4)) ∧ True := hG
      obtain ⟨g10, g13, _⟩ := hg
      clear hG hfr
      have hx : ((s.size : Int) - 4).toNat = s.size - 4 := by omega
      refine OpSays.value (v := .string (s.extract 16 (s.size - 4))) (w' := w1) ?_ ⟨⟨⟨hb, hz⟩, hO⟩, Only.refl _ _, rfl⟩
      go_simp; rw [if_pos (by omega), if_pos (by omega)]
    case op15 =>
      intro ev w1 hT1 hc hf hfr hG
      rw [if_pos (by decide)]
      obtain ⟨⟨hb, hz⟩, hO⟩ := hT1
      have hg : (ev (.tmp 21) = .int .i64 (numAt s 0 1)) ∧ (ev (.tmp 23) = .int .i64 (numAt s 1 4)) ∧ (ev (.tmp 25) = .int .i64 (numAt s 5 1)) ∧ (ev (.tmp 27) = .int .i64 (numAt s 6 4)) ∧ (ev (.tmp 29) = .int .i64 (numAt s 10 4)) ∧ (ev (.tmp 34) = .string (s.extract 16 (s.size - 4))) ∧ True := hG
      obtain ⟨g1, g3, g5, g7, g9, g14, _⟩ := hg
      clear hG hfr
      refine OpSays.value (v := .agg #[.int .i64 (numAt s 0 1), .int .i64 (numAt s 1 4), .int .i64 (numAt s 5 1), .int .i64 (numAt s 6 4), .int .i64 (numAt s 10 4), .string (s.extract 16 (s.size - 4))]) (w' := w1) ?_ ⟨⟨⟨hb, hz⟩, hO⟩, Only.refl _ _, rfl⟩
      go_simp
    case op16 =>
      intro ev w1 hT1 hc hf hfr hG
      rw [if_pos (by decide)]
      obtain ⟨⟨hb, hz⟩, hO⟩ := hT1
      clear hG hfr
      refine OpSays.value (v := .pointer (some ⟨w1.heap.size, 0, none⟩)) (w' := w1.alloc (.cells #[.int .i64 0, .int .i64 0, .int .i64 0, .int .i64 0, .int .i64 0, .string ⟨#[]⟩] 23)) ?_ ?_
      · go_simp
      · have hk := (Only.refl (fun _ => False) w1).alloc (.cells #[.int .i64 0, .int .i64 0, .int .i64 0, .int .i64 0, .int .i64 0, .string ⟨#[]⟩] 23)
        exact ⟨⟨⟨cell_only hk (fun h => h) hb, hk.at hz (fun h => h)⟩, hO.then hk (fun _ _ h => h)⟩, hk, w1.heap.size, rfl, heap_lt hz, blk_new w1 _⟩
  rintro ⟨tm, df⟩ w3 ⟨⟨hb3, hz3⟩, hO3⟩ hsz hdf hfr hG
  have k1 : tm.getD 1 undef = .pointer (some ⟨b, 0, none⟩) := hfr 1 (by decide)
  have k2 : tm.getD 2 undef = .pointer (some ⟨z, 0, none⟩) := hfr 2 (by decide)
  have k3 : tm.getD 3 undef = .int .i64 0 := hfr 3 (by decide)
  have k35 : tm.getD 35 undef = .agg #[.int .i64 (numAt s 0 1), .int .i64 (numAt s 1 4), .int .i64 (numAt s 5 1), .int .i64 (numAt s 6 4), .int .i64 (numAt s 10 4), .string (s.extract 16 (s.size - 4))] := AllG.get hG 15 (by decide)
  have he : tm = #[tm.getD 0 undef, tm.getD 1 undef, tm.getD 2 undef, tm.getD 3 undef, tm.getD 4 undef, tm.getD 5 undef, tm.getD 6 undef, tm.getD 7 undef, tm.getD 8 undef, tm.getD 9 undef, tm.getD 10 undef, tm.getD 11 undef, tm.getD 12 undef, tm.getD 13 undef, tm.getD 14 undef, tm.getD 15 undef, tm.getD 16 undef, tm.getD 17 undef, tm.getD 18 undef, tm.getD 19 undef, tm.getD 20 undef, tm.getD 21 undef, tm.getD 22 undef, tm.getD 23 undef, tm.getD 24 undef, tm.getD 25 undef, tm.getD 26 undef, tm.getD 27 undef, tm.getD 28 undef, tm.getD 29 undef, tm.getD 30 undef, tm.getD 31 undef, tm.getD 32 undef, tm.getD 33 undef, tm.getD 34 undef, tm.getD 35 undef, tm.getD 36 undef, tm.getD 37 undef, tm.getD 38 undef, tm.getD 39 undef, tm.getD 40 undef, tm.getD 41 undef, tm.getD 42 undef, tm.getD 43 undef, tm.getD 44 undef, tm.getD 45 undef, tm.getD 46 undef] := arr_eta (n := 47) hsz
  replace hdf : df = [] := hdf
  subst hdf
  obtain ⟨g, hg5, hgN, hgx⟩ : ∃ g, tm.getD 5 undef = .pointer (some ⟨g, 0, none⟩) ∧ _ := AllG.get hG 16 (by decide)
  clear hsz hfr hG
  rw [he, hg5, k1, k2, k3, k35]
  clear he hg5 k1 k2 k3 k35
  generalize tm.getD 0 undef = x0
  generalize tm.getD 4 undef = x4
  generalize tm.getD 6 undef = x6
  generalize tm.getD 7 undef = x7
  generalize tm.getD 8 undef = x8
  generalize tm.getD 9 undef = x9
  generalize tm.getD 10 undef = x10
  generalize tm.getD 11 undef = x11
  generalize tm.getD 12 undef = x12
  generalize tm.getD 13 undef = x13
  generalize tm.getD 14 undef = x14
  generalize tm.getD 15 undef = x15
  generalize tm.getD 16 undef = x16
  generalize tm.getD 17 undef = x17
  generalize tm.getD 18 undef = x18
  generalize tm.getD 19 undef = x19
  generalize tm.getD 20 undef = x20
  generalize tm.getD 21 undef = x21
  generalize tm.getD 22 undef = x22
  generalize tm.getD 23 undef = x23
  generalize tm.getD 24 undef = x24
  generalize tm.getD 25 undef = x25
  generalize tm.getD 26 undef = x26
  generalize tm.getD 27 undef = x27
  generalize tm.getD 28 undef = x28
  generalize tm.getD 29 undef = x29
  generalize tm.getD 30 undef = x30
  generalize tm.getD 31 undef = x31
  generalize tm.getD 32 undef = x32
  generalize tm.getD 33 undef = x33
  generalize tm.getD 34 undef = x34
  generalize tm.getD 36 undef = x36
  generalize tm.getD 37 undef = x37
  generalize tm.getD 38 undef = x38
  generalize tm.getD 39 undef = x39
  generalize tm.getD 40 undef = x40
  generalize tm.getD 41 undef = x41
  generalize tm.getD 42 undef = x42
  generalize tm.getD 43 undef = x43
  generalize tm.getD 44 undef = x44
  generalize tm.getD 45 undef = x45
  generalize tm.getD 46 undef = x46
  have q0 := blk_cell hgx 0
  have q1 := blk_cell hgx 1
  have q2 := blk_cell hgx 2
  have q3 := blk_cell hgx 3
  have q4 := blk_cell hgx 4
  have q5 := blk_cell hgx 5
  have qf := blk_free hgx
  simp only [List.getElem?_toArray, List.getElem?_cons_zero, List.getElem?_cons_succ] at q0 q1 q2 q3 q4 q5
  clear hz2 hb2 hO2
  generalize hk0 : numAt s 0 1 = k at *
  generalize he0 : numAt s 1 4 = e at *
  generalize hr0 : numAt s 5 1 = r at *
  generalize hn0 : numAt s 6 4 = n at *
  generalize ha0 : numAt s 10 4 = a at *
  generalize hd0 : s.extract 16 (s.size - 4) = d at *
  have HL := Lib.hid hL
  have HKK := Lib.hid (show numAt s 0 1 = k ∧ numAt s 1 4 = e ∧ numAt s 5 1 = r ∧ numAt s 6 4 = n ∧ numAt s 10 4 = a ∧ s.extract 16 (s.size - 4) = d from ⟨hk0, he0, hr0, hn0, ha0, hd0⟩)
  clear hk0 he0 hr0 hn0 ha0 hd0 hL
  go_wp2_with fail
  have hx3 := set6 hgx (.int .i64 k) (.int .i64 e) (.int .i64 r) (.int .i64 n) (.int .i64 a) (.string d)
  have hO4 : Only (fun _ => False) w (set6w w3 g (.int .i64 k) (.int .i64 e) (.int .i64 r) (.int .i64 n) (.int .i64 a) (.string d)) := set6_only hO3 (fun h => by omega) _ _ _ _ _ _
  have hO34 : Only (fun k => k = g) w3 (set6w w3 g (.int .i64 k) (.int .i64 e) (.int .i64 r) (.int .i64 n) (.int .i64 a) (.string d)) := set6_only (S := fun k => k = g) (Only.refl _ w3) (fun _ => rfl) _ _ _ _ _ _
  have hb := cell_only hO34 (by show ¬ b = g; omega) hb3
  have hz := hO34.at hz3 (by show ¬ z = g; omega)
  have hx := hx3
  have hO := hO4
  change Code.wp _ _ _ _ (set6w w3 g (.int .i64 k) (.int .i64 e) (.int .i64 r) (.int .i64 n) (.int .i64 a) (.string d))
  generalize set6w w3 g (.int .i64 k) (.int .i64 e) (.int .i64 r) (.int .i64 n) (.int .i64 a) (.string d) = w4 at hb hz hx hO ⊢
  clear hx3 hO4 hO34 hb3 hz3 hO3 hgx q0 q1 q2 q3 q4 q5 qf
  have hck : ∀ w, Calls Try.prog 15 #[.agg #[.int .i64 k, .int .i64 e, .int .i64 r, .int .i64 n, .int .i64 a, .string d]] w fun e' w' => e' = .returned (.int .i64 0) ∧ Only (fun _ => False) w w' := fun w => (lcheck_any k e r n a d w).mono fun e' w' h => ⟨by rw [h.1]; unfold lcode; rw [HL.out]; rfl, h.2⟩
  refine wp_region_facts_tail 9 dr5Ds dr5Need dr5Gs (fun w' => (w'.cell? ⟨b, 0, none⟩ = some (.string s) ∧ w'.heap[z]? = some (.cells #[.int .i64 0, .int .i64 0, .int .i64 0, .int .i64 0, .int .i64 0, .string ⟨#[]⟩] 23 (0, 0)) ∧ w'.heap[g]? = some (.cells #[.int .i64 k, .int .i64 e, .int .i64 r, .int .i64 n, .int .i64 a, .string d] 23 (0, 0))) ∧ Only (fun _ => False) w w') (Only (fun _ => False)) (dr5G b z g s k e r n a d false) rfl rfl (by kernel_rfl) (by kernel_rfl) (by kernel_rfl) (by kernel_rfl) (by kernel_rfl) ⟨⟨hb, hz, hx⟩, hO.drew⟩ dr5G.keep dr5G.guard ?_ ?_
  · refine And.intro ?op0 (And.intro ?op1 (And.intro ?op2 (And.intro ?op3 (And.intro ?op4 (And.intro ?op5 (And.intro ?op6 (And.intro ?op7 (And.intro ?op8 trivial))))))))
    case op0 =>
      intro ev w1 hT1 hc hf hfr hG
      rw [if_pos (by decide)]
      obtain ⟨⟨hb, hz, hx⟩, hO⟩ := hT1
      have h5 : ev (.tmp 5) = .pointer (some ⟨g, 0, none⟩) := hfr 5 (by decide)
      clear hG hfr
      have y0 := blk_cell hx 0
      have y1 := blk_cell hx 1
      have y2 := blk_cell hx 2
      have y3 := blk_cell hx 3
      have y4 := blk_cell hx 4
      have y5 := blk_cell hx 5
      simp only [List.getElem?_toArray, List.getElem?_cons_zero, List.getElem?_cons_succ] at y0 y1 y2 y3 y4 y5
      refine OpSays.value (v := .agg #[.int .i64 k, .int .i64 e, .int .i64 r, .int .i64 n, .int .i64 a, .string d]) (w' := w1) ?_ ⟨⟨⟨hb, hz, hx⟩, hO⟩, Only.refl _ _, rfl⟩
      go_simp
    case op1 =>
      intro ev w1 hT1 hc hf hfr hG
      rw [if_pos (by decide)]
      obtain ⟨⟨hb, hz, hx⟩, hO⟩ := hT1
      have hg : (ev (.tmp 36) = .agg #[.int .i64 k, .int .i64 e, .int .i64 r, .int .i64 n, .int .i64 a, .string d]) ∧ True := hG
      obtain ⟨g0, _⟩ := hg
      clear hG hfr
      refine OpSays.enter (f := 15) (args := #[.agg #[.int .i64 k, .int .i64 e, .int .i64 r, .int .i64 n, .int .i64 a, .string d]]) (w' := w1) ?_ ?_
      · go_simp
      · refine (hck w1).mono ?_
        rintro e' w2 ⟨rfl, hk⟩
        exact ⟨_, rfl, ⟨⟨cell_only hk (fun h => h) hb, hk.at hz (fun h => h), hk.at hx (fun h => h)⟩, hO.then hk (fun _ _ h => h)⟩, hk, rfl⟩
    case op2 =>
      intro ev w1 hT1 hc hf hfr hG
      rw [if_pos (by decide)]
      obtain ⟨⟨hb, hz, hx⟩, hO⟩ := hT1
      have hg : (ev (.tmp 37) = .int .i64 0) ∧ True := hG
      obtain ⟨g1, _⟩ := hg
      clear hG hfr
      refine OpSays.value (v := .bool false) (w' := w1) ?_ ⟨⟨⟨hb, hz, hx⟩, hO⟩, Only.refl _ _, rfl⟩
      go_simp
    case op3 =>
      intro ev w1 hT1 hc hf hfr hG
      rw [if_pos (by decide)]
      obtain ⟨⟨hb, hz, hx⟩, hO⟩ := hT1
      have hg : (ev (.tmp 38) = .bool false) ∧ True := hG
      obtain ⟨g2, _⟩ := hg
      clear hG hfr
      refine OpSays.value (v := .bool false) (w' := w1) ?_ ⟨⟨⟨hb, hz, hx⟩, hO⟩, Only.refl _ _, rfl⟩
      go_simp
    case op4 =>
      intro ev w1 hT1 hc hf hfr hG
      rw [if_pos (by decide)]
      obtain ⟨⟨hb, hz, hx⟩, hO⟩ := hT1
      have h5 : ev (.tmp 5) = .pointer (some ⟨g, 0, none⟩) := hfr 5 (by decide)
      clear hG hfr
      have y0 := blk_cell hx 0
      have y1 := blk_cell hx 1
      have y2 := blk_cell hx 2
      have y3 := blk_cell hx 3
      have y4 := blk_cell hx 4
      have y5 := blk_cell hx 5
      simp only [List.getElem?_toArray, List.getElem?_cons_zero, List.getElem?_cons_succ] at y0 y1 y2 y3 y4 y5
      refine OpSays.value (v := .agg #[.int .i64 k, .int .i64 e, .int .i64 r, .int .i64 n, .int .i64 a, .string d]) (w' := w1) ?_ ⟨⟨⟨hb, hz, hx⟩, hO⟩, Only.refl _ _, rfl⟩
      go_simp
    case op5 =>
      intro ev w1 hT1 hc hf hfr hG
      rw [if_pos (by decide)]
      obtain ⟨⟨hb, hz, hx⟩, hO⟩ := hT1
      have hg : (ev (.tmp 40) = .agg #[.int .i64 k, .int .i64 e, .int .i64 r, .int .i64 n, .int .i64 a, .string d]) ∧ True := hG
      obtain ⟨g4, _⟩ := hg
      clear hG hfr
      refine OpSays.enter (f := 40) (args := #[.agg #[.int .i64 k, .int .i64 e, .int .i64 r, .int .i64 n, .int .i64 a, .string d]]) (w' := w1) ?_ ?_
      · go_simp
      · refine (text_any k e r n a d w1 HL.out).mono ?_
        rintro e' w2 ⟨rfl, hk⟩
        exact ⟨_, rfl, ⟨⟨cell_only hk (fun h => h) hb, hk.at hz (fun h => h), hk.at hx (fun h => h)⟩, hO.then hk (fun _ _ h => h)⟩, hk, rfl⟩
    case op6 =>
      intro ev w1 hT1 hc hf hfr hG
      rw [if_pos (by decide)]
      obtain ⟨⟨hb, hz, hx⟩, hO⟩ := hT1
      have h1 : ev (.tmp 1) = .pointer (some ⟨b, 0, none⟩) := hfr 1 (by decide)
      clear hG hfr
      refine OpSays.value (v := .string s) (w' := w1) ?_ ⟨⟨⟨hb, hz, hx⟩, hO⟩, Only.refl _ _, rfl⟩
      go_simp
    case op7 =>
      intro ev w1 hT1 hc hf hfr hG
      rw [if_pos (by decide)]
      obtain ⟨⟨hb, hz, hx⟩, hO⟩ := hT1
      have hg : (ev (.tmp 41) = .string (letBytes k e r n a d)) ∧ (ev (.tmp 42) = .string s) ∧ True := hG
      obtain ⟨g5, g6, _⟩ := hg
      clear hG hfr
      refine OpSays.value (v := .bool false) (w' := w1) ?_ ⟨⟨⟨hb, hz, hx⟩, hO⟩, Only.refl _ _, rfl⟩
      go_simp
    case op8 =>
      intro ev w1 hT1 hc hf hfr hG
      rw [if_pos (by decide)]
      obtain ⟨⟨hb, hz, hx⟩, hO⟩ := hT1
      have hg : (ev (.tmp 39) = .bool false) ∧ (ev (.tmp 43) = .bool false) ∧ True := hG
      obtain ⟨g3, g7, _⟩ := hg
      clear hG hfr
      refine OpSays.value (v := .bool false) (w' := w1) ?_ ⟨⟨⟨hb, hz, hx⟩, hO⟩, Only.refl _ _, rfl⟩
      go_simp
  rintro ⟨tm, df⟩ w5 ⟨⟨hb5, hz5, hx5⟩, hO5⟩ hsz hdf hfr hG
  have k1 : tm.getD 1 undef = .pointer (some ⟨b, 0, none⟩) := hfr 1 (by decide)
  have k2 : tm.getD 2 undef = .pointer (some ⟨z, 0, none⟩) := hfr 2 (by decide)
  have k3 : tm.getD 3 undef = .int .i64 0 := hfr 3 (by decide)
  have k5 : tm.getD 5 undef = .pointer (some ⟨g, 0, none⟩) := hfr 5 (by decide)
  have k44 : tm.getD 44 undef = .bool false := AllG.get hG 8 (by decide)
  have he : tm = #[tm.getD 0 undef, tm.getD 1 undef, tm.getD 2 undef, tm.getD 3 undef, tm.getD 4 undef, tm.getD 5 undef, tm.getD 6 undef, tm.getD 7 undef, tm.getD 8 undef, tm.getD 9 undef, tm.getD 10 undef, tm.getD 11 undef, tm.getD 12 undef, tm.getD 13 undef, tm.getD 14 undef, tm.getD 15 undef, tm.getD 16 undef, tm.getD 17 undef, tm.getD 18 undef, tm.getD 19 undef, tm.getD 20 undef, tm.getD 21 undef, tm.getD 22 undef, tm.getD 23 undef, tm.getD 24 undef, tm.getD 25 undef, tm.getD 26 undef, tm.getD 27 undef, tm.getD 28 undef, tm.getD 29 undef, tm.getD 30 undef, tm.getD 31 undef, tm.getD 32 undef, tm.getD 33 undef, tm.getD 34 undef, tm.getD 35 undef, tm.getD 36 undef, tm.getD 37 undef, tm.getD 38 undef, tm.getD 39 undef, tm.getD 40 undef, tm.getD 41 undef, tm.getD 42 undef, tm.getD 43 undef, tm.getD 44 undef, tm.getD 45 undef, tm.getD 46 undef] := arr_eta (n := 47) hsz
  replace hdf : df = [] := hdf
  subst hdf
  clear hsz hfr hG
  rw [he, k1, k2, k3, k5, k44]
  clear he k1 k2 k3 k5 k44
  generalize tm.getD 0 undef = x0
  generalize tm.getD 4 undef = x4
  generalize tm.getD 6 undef = x6
  generalize tm.getD 7 undef = x7
  generalize tm.getD 8 undef = x8
  generalize tm.getD 9 undef = x9
  generalize tm.getD 10 undef = x10
  generalize tm.getD 11 undef = x11
  generalize tm.getD 12 undef = x12
  generalize tm.getD 13 undef = x13
  generalize tm.getD 14 undef = x14
  generalize tm.getD 15 undef = x15
  generalize tm.getD 16 undef = x16
  generalize tm.getD 17 undef = x17
  generalize tm.getD 18 undef = x18
  generalize tm.getD 19 undef = x19
  generalize tm.getD 20 undef = x20
  generalize tm.getD 21 undef = x21
  generalize tm.getD 22 undef = x22
  generalize tm.getD 23 undef = x23
  generalize tm.getD 24 undef = x24
  generalize tm.getD 25 undef = x25
  generalize tm.getD 26 undef = x26
  generalize tm.getD 27 undef = x27
  generalize tm.getD 28 undef = x28
  generalize tm.getD 29 undef = x29
  generalize tm.getD 30 undef = x30
  generalize tm.getD 31 undef = x31
  generalize tm.getD 32 undef = x32
  generalize tm.getD 33 undef = x33
  generalize tm.getD 34 undef = x34
  generalize tm.getD 35 undef = x35
  generalize tm.getD 36 undef = x36
  generalize tm.getD 37 undef = x37
  generalize tm.getD 38 undef = x38
  generalize tm.getD 39 undef = x39
  generalize tm.getD 40 undef = x40
  generalize tm.getD 41 undef = x41
  generalize tm.getD 42 undef = x42
  generalize tm.getD 43 undef = x43
  generalize tm.getD 45 undef = x45
  generalize tm.getD 46 undef = x46
  clear hz hO hb hx
  have y0 := blk_cell hx5 0
  have y1 := blk_cell hx5 1
  have y2 := blk_cell hx5 2
  have y3 := blk_cell hx5 3
  have y4 := blk_cell hx5 4
  have y5 := blk_cell hx5 5
  simp only [List.getElem?_toArray, List.getElem?_cons_zero, List.getElem?_cons_succ] at y0 y1 y2 y3 y4 y5
  have q0 := blk_cell hz5 0
  have q1 := blk_cell hz5 1
  have q2 := blk_cell hz5 2
  have q3 := blk_cell hz5 3
  have q4 := blk_cell hz5 4
  have q5 := blk_cell hz5 5
  have qf := blk_free hz5
  simp only [List.getElem?_toArray, List.getElem?_cons_zero, List.getElem?_cons_succ] at q0 q1 q2 q3 q4 q5
  go_wp2_with fail
  have hs := set6 hz5 (.int .i64 k) (.int .i64 e) (.int .i64 r) (.int .i64 n) (.int .i64 a) (.string d)
  have hOO : Only (fun _ => False) w (set6w w5 z (.int .i64 k) (.int .i64 e) (.int .i64 r) (.int .i64 n) (.int .i64 a) (.string d)) := set6_only hO5 (fun h => by omega) _ _ _ _ _ _
  change bodyPost _ _ _ _ _ (set6w w5 z (.int .i64 k) (.int .i64 e) (.int .i64 r) (.int .i64 n) (.int .i64 a) (.string d))
  generalize set6w w5 z (.int .i64 k) (.int .i64 e) (.int .i64 r) (.int .i64 n) (.int .i64 a) (.string d) = wz at hs hOO ⊢
  have v0 := blk_cell hs 0
  have v1 := blk_cell hs 1
  have v2 := blk_cell hs 2
  have v3 := blk_cell hs 3
  have v4 := blk_cell hs 4
  have v5 := blk_cell hs 5
  simp only [List.getElem?_toArray, List.getElem?_cons_zero, List.getElem?_cons_succ] at v0 v1 v2 v3 v4 v5
  clear hs hx5 q0 q1 q2 q3 q4 q5 qf
  refine bodyPost_ret (v := .tuple #[.agg #[.int .i64 k, .int .i64 e, .int .i64 r, .int .i64 n, .int .i64 a, .string d], .int .i64 0]) (by simp [results, Try.results13, go_sem, v0, v1, v2, v3, v4, v5]) rfl ⟨by obtain ⟨r0, r1, r2, r3, r4, r5⟩ := HKK.out; rw [r0, r1, r2, r3, r4, r5], hOO⟩
end Go.Proofs.Yteifehienpeaiaa

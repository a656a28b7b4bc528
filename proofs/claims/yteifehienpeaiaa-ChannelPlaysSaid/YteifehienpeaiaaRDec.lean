/-
  Decode, by the reference.
  Conditions: strings within the form's reach.
-/
import Derived.Test.YteifehienpeaiaaDec
set_option linter.unusedVariables false
set_option linter.unusedSimpArgs false
set_option maxRecDepth 100000
namespace Go.Proofs.Yteifehienpeaiaa
open Go.RowKit

theorem rnum (s : ByteArray) (a b : Nat) (w : World) (h6 : b - a ≤ 6) (hb : b ≤ s.size) :
    Calls Try.prog 44 #[.string (s.extract a b)] w fun e w' => e = .returned (.int .i64 (numAt s a (b - a))) ∧ Only (fun _ => False) w w' :=
  (num_any (s.extract a b) w (by rw [ByteArray.size_extract]; omega)).mono fun e w' h => ⟨by rw [h.1, nums_extract]; rfl, by rw [← h.2]; exact Only.refl _ _⟩

theorem numAt1 (s : ByteArray) (k : Nat) (h : k < s.size) : numAt s k 1 = (s[k].toNat : Int) := by
  have hl : k < (nums s).length := by rw [nums_length]; exact h
  have h2 : (nums s)[k] = (s[k].toNat : Int) := by simp [nums]; rfl
  unfold numAt
  rw [List.drop_eq_getElem_cons hl, h2]
  simp [numOf]
theorem numAt1_wrap (s : ByteArray) (k : Nat) : wrap64 (numAt s k 1) = numAt s k 1 := by
  have := numAt_bounds s k 1
  unfold wrap64
  omega

def rd3G (z : Nat) (s : ByteArray) : Nat → Value → World → Prop
  | 0, v, w' => v = .string s
  | 1, v, w' => v = .int .u8 (numAt s 0 1)
  | 2, v, w' => v = .int .i64 (numAt s 0 1)
  | 3, v, w' => v = .string s
  | 4, v, w' => v = .string (s.extract 1 5)
  | 5, v, w' => v = .int .i64 (numAt s 1 4)
  | 6, v, w' => v = .string s
  | 7, v, w' => v = .int .u8 (numAt s 5 1)
  | 8, v, w' => v = .int .i64 (numAt s 5 1)
  | 9, v, w' => v = .string s
  | 10, v, w' => v = .string (s.extract 6 10)
  | 11, v, w' => v = .int .i64 (numAt s 6 4)
  | 12, v, w' => v = .string s
  | 13, v, w' => v = .string (s.extract 10 14)
  | 14, v, w' => v = .int .i64 (numAt s 10 4)
  | 15, v, w' => v = .string s
  | 16, v, w' => v = .string s
  | 17, v, w' => v = .int .i64 (s.size)
  | 18, v, w' => v = .int .i64 ((s.size : Int) - 4)
  | 19, v, w' => v = .string (s.extract 16 (s.size - 4))
  | 20, v, w' => v = .agg #[.int .i64 (numAt s 0 1), .int .i64 (numAt s 1 4), .int .i64 (numAt s 5 1), .int .i64 (numAt s 6 4), .int .i64 (numAt s 10 4), .string (s.extract 16 (s.size - 4))]
  | 21, v, w' => ∃ g, v = .pointer (some ⟨g, 0, none⟩) ∧ z < g ∧ w'.heap[g]? = some (.cells #[.int .i64 0, .int .i64 0, .int .i64 0, .int .i64 0, .int .i64 0, .string ⟨#[]⟩] 23 (0, 0))
  | _, _, _ => True
def rd3Ds : List Nat := [18, 19, 20, 21, 22, 23, 24, 25, 26, 27, 28, 29, 30, 31, 32, 33, 34, 35, 36, 37, 38, 4]
def rd3Need : List (List Nat) := [[], [0], [1], [], [3], [4], [], [6], [7], [], [9], [10], [], [12], [13], [], [], [16], [17], [15, 18], [2, 5, 8, 11, 14, 19], []]
def rd3Gs : List (Option Bool) := []
theorem rd3G.keep {z : Nat} {s : ByteArray} : ∀ j v w w', rd3G z s j v w → Only (fun _ => False) w w' → rd3G z s j v w' := by
  intro j v w w' h hO
  match j with
  | 0 => exact h
  | 1 => exact h
  | 2 => exact h
  | 3 => exact h
  | 4 => exact h
  | 5 => exact h
  | 6 => exact h
  | 7 => exact h
  | 8 => exact h
  | 9 => exact h
  | 10 => exact h
  | 11 => exact h
  | 12 => exact h
  | 13 => exact h
  | 14 => exact h
  | 15 => exact h
  | 16 => exact h
  | 17 => exact h
  | 18 => exact h
  | 19 => exact h
  | 20 => exact h
  | 21 => obtain ⟨g, h1, h2, h3⟩ := h; exact ⟨g, h1, h2, hO.at h3 (fun h => h)⟩
  | n + 22 => trivial
theorem rd3G.guard {z : Nat} {s : ByteArray} : ∀ g' b', rd3Gs.getD g' none = some b' → ∀ v w, rd3G z s g' v w → v = .bool b' := by
  intro g' b' hbb v w hgg
  match g', hbb, hgg with
  | n' + 0, hbb, hgg => exact absurd hbb (by simp [rd3Gs])

set_option maxHeartbeats 4000000 in
theorem rdec_short (s : ByteArray) (w : World) (h20 : s.size < 20) :
    Calls Try.prog 14 #[.string s] w fun e w' => e = .returned noLetter ∧ Only (fun _ => False) w w' := by
  have hO := (Only.refl (fun _ => False) w).alloc (.cells #[.int .i64 0, .int .i64 0, .int .i64 0, .int .i64 0, .int .i64 0, .string ⟨#[]⟩] 23)
  have hz := blk_new w (.cells #[.int .i64 0, .int .i64 0, .int .i64 0, .int .i64 0, .int .i64 0, .string ⟨#[]⟩] 23)
  have d1 : decide ((s.size : Int) < 20) = true := decide_eq_true (by omega)
  have d2 : (s.size : Int) < 20 := by omega
  go_enter Try.func14, Try.ntmps14
  go_wp2_with fail
  generalize w.alloc (.cells #[.int .i64 0, .int .i64 0, .int .i64 0, .int .i64 0, .int .i64 0, .string ⟨#[]⟩] 23) = w0 at hO hz ⊢
  generalize hzz : w.heap.size = z at hz ⊢
  have q0 := blk_cell hz 0
  have q1 := blk_cell hz 1
  have q2 := blk_cell hz 2
  have q3 := blk_cell hz 3
  have q4 := blk_cell hz 4
  have q5 := blk_cell hz 5
  have qf := blk_free hz
  simp only [List.getElem?_toArray, List.getElem?_cons_zero, List.getElem?_cons_succ] at q0 q1 q2 q3 q4 q5
  go_wp2_with fail
  refine bodyPost_ret (v := .tuple #[.agg #[.int .i64 0, .int .i64 0, .int .i64 0, .int .i64 0, .int .i64 0, .string ⟨#[]⟩], .int .i64 240]) (by simp [results, Try.results14, go_sem, q0, q1, q2, q3, q4, q5]) rfl ⟨rfl, hO⟩
set_option maxHeartbeats 4000000 in
theorem rdec_long (s : ByteArray) (w : World) (h20 : 20 ≤ s.size) (hs : s.size ≤ 140737488355328) (hβ : ((s.size : Int) != 20 + numAt s 14 2) = true) :
    Calls Try.prog 14 #[.string s] w fun e w' => e = .returned noLetter ∧ Only (fun _ => False) w w' := by
  have hO := (Only.refl (fun _ => False) w).alloc (.cells #[.int .i64 0, .int .i64 0, .int .i64 0, .int .i64 0, .int .i64 0, .string ⟨#[]⟩] 23)
  have hz := blk_new w (.cells #[.int .i64 0, .int .i64 0, .int .i64 0, .int .i64 0, .int .i64 0, .string ⟨#[]⟩] 23)
  have d1 : decide ((s.size : Int) < 20) = false := decide_eq_false (by omega)
  have d2 : (20 : Int) ≤ s.size := by omega
  have hnb := numAt_bounds s 14 2
  go_enter Try.func14, Try.ntmps14
  go_wp2_with fail
  generalize w.alloc (.cells #[.int .i64 0, .int .i64 0, .int .i64 0, .int .i64 0, .int .i64 0, .string ⟨#[]⟩] 23) = w0 at hO hz ⊢
  generalize hzz : w.heap.size = z at hz ⊢
  refine (rnum s 14 16 _ (by omega) (by omega)).mono ?_
  rintro e2 w2 ⟨rfl, hk2⟩
  replace hz := hk2.at hz (fun h => h)
  replace hO := hO.then hk2 (fun _ _ h => h)
  have q0 := blk_cell hz 0
  have q1 := blk_cell hz 1
  have q2 := blk_cell hz 2
  have q3 := blk_cell hz 3
  have q4 := blk_cell hz 4
  have q5 := blk_cell hz 5
  have qf := blk_free hz
  simp only [List.getElem?_toArray, List.getElem?_cons_zero, List.getElem?_cons_succ] at q0 q1 q2 q3 q4 q5
  go_wp2_with fail
  have hs := set6 hz (.int .i64 0) (.int .i64 0) (.int .i64 0) (.int .i64 0) (.int .i64 0) (.string ⟨#[]⟩)
  have hOO : Only (fun _ => False) w (set6w w2 z (.int .i64 0) (.int .i64 0) (.int .i64 0) (.int .i64 0) (.int .i64 0) (.string ⟨#[]⟩)) := set6_only hO (fun h => by omega) _ _ _ _ _ _
  change bodyPost _ _ _ _ _ (set6w w2 z (.int .i64 0) (.int .i64 0) (.int .i64 0) (.int .i64 0) (.int .i64 0) (.string ⟨#[]⟩))
  generalize set6w w2 z (.int .i64 0) (.int .i64 0) (.int .i64 0) (.int .i64 0) (.int .i64 0) (.string ⟨#[]⟩) = wz at hs hOO ⊢
  have v0 := blk_cell hs 0
  have v1 := blk_cell hs 1
  have v2 := blk_cell hs 2
  have v3 := blk_cell hs 3
  have v4 := blk_cell hs 4
  have v5 := blk_cell hs 5
  simp only [List.getElem?_toArray, List.getElem?_cons_zero, List.getElem?_cons_succ] at v0 v1 v2 v3 v4 v5
  clear hs q0 q1 q2 q3 q4 q5 qf
  refine bodyPost_ret (v := .tuple #[.agg #[.int .i64 0, .int .i64 0, .int .i64 0, .int .i64 0, .int .i64 0, .string ⟨#[]⟩], .int .i64 240]) (by simp [results, Try.results14, go_sem, v0, v1, v2, v3, v4, v5]) rfl ⟨rfl, hOO⟩
set_option maxHeartbeats 4000000 in
theorem rdec_shape (s : ByteArray) (w : World) (h20 : 20 ≤ s.size) (hs : s.size ≤ 140737488355328) (hβ : ((s.size : Int) != 20 + numAt s 14 2) = false) (hL : letterB (numAt s 0 1) (numAt s 1 4) (numAt s 5 1) (numAt s 6 4) (numAt s 10 4) (s.extract 16 (s.size - 4)) = false) :
    Calls Try.prog 14 #[.string s] w fun e w' => e = .returned noLetter ∧ Only (fun _ => False) w w' := by
  have hO := (Only.refl (fun _ => False) w).alloc (.cells #[.int .i64 0, .int .i64 0, .int .i64 0, .int .i64 0, .int .i64 0, .string ⟨#[]⟩] 23)
  have hz := blk_new w (.cells #[.int .i64 0, .int .i64 0, .int .i64 0, .int .i64 0, .int .i64 0, .string ⟨#[]⟩] 23)
  have d1 : decide ((s.size : Int) < 20) = false := decide_eq_false (by omega)
  have d2 : (20 : Int) ≤ s.size := by omega
  have hnb := numAt_bounds s 14 2
  go_enter Try.func14, Try.ntmps14
  go_wp2_with fail
  generalize w.alloc (.cells #[.int .i64 0, .int .i64 0, .int .i64 0, .int .i64 0, .int .i64 0, .string ⟨#[]⟩] 23) = w0 at hO hz ⊢
  generalize hzz : w.heap.size = z at hz ⊢
  refine (rnum s 14 16 _ (by omega) (by omega)).mono ?_
  rintro e2 w2 ⟨rfl, hk2⟩
  replace hz := hk2.at hz (fun h => h)
  replace hO := hO.then hk2 (fun _ _ h => h)
  go_wp2_with fail
  refine wp_region_facts_tail 22 rd3Ds rd3Need rd3Gs (fun w' => (w'.heap[z]? = some (.cells #[.int .i64 0, .int .i64 0, .int .i64 0, .int .i64 0, .int .i64 0, .string ⟨#[]⟩] 23 (0, 0))) ∧ Only (fun _ => False) w w') (Only (fun _ => False)) (rd3G z s) rfl rfl (by kernel_rfl) (by kernel_rfl) (by kernel_rfl) (by kernel_rfl) (by kernel_rfl) ⟨hz, hO.drew⟩ rd3G.keep rd3G.guard ?_ ?_
  · refine And.intro ?op0 (And.intro ?op1 (And.intro ?op2 (And.intro ?op3 (And.intro ?op4 (And.intro ?op5 (And.intro ?op6 (And.intro ?op7 (And.intro ?op8 (And.intro ?op9 (And.intro ?op10 (And.intro ?op11 (And.intro ?op12 (And.intro ?op13 (And.intro ?op14 (And.intro ?op15 (And.intro ?op16 (And.intro ?op17 (And.intro ?op18 (And.intro ?op19 (And.intro ?op20 (And.intro ?op21 trivial)))))))))))))))))))))
    case op0 =>
      intro ev w1 hT1 hc hf hfr hG
      rw [if_pos (by decide)]
      obtain ⟨hz, hO⟩ := hT1
      have h0 : ev (.tmp 0) = .string s := hfr 0 (by decide)
      clear hG hfr
      refine OpSays.value (v := .string s) (w' := w1) ?_ ⟨⟨hz, hO⟩, Only.refl _ _, rfl⟩
      go_simp
    case op1 =>
      intro ev w1 hT1 hc hf hfr hG
      rw [if_pos (by decide)]
      obtain ⟨hz, hO⟩ := hT1
      have hg : (ev (.tmp 18) = .string s) ∧ True := hG
      obtain ⟨g0, _⟩ := hg
      clear hG hfr
      refine OpSays.value (v := .int .u8 (numAt s 0 1)) (w' := w1) ?_ ⟨⟨hz, hO⟩, Only.refl _ _, rfl⟩
      go_simp; rw [dif_pos (show 0 < s.size by omega), numAt1 s 0 (by omega)]; rfl
    case op2 =>
      intro ev w1 hT1 hc hf hfr hG
      rw [if_pos (by decide)]
      obtain ⟨hz, hO⟩ := hT1
      have hg : (ev (.tmp 19) = .int .u8 (numAt s 0 1)) ∧ True := hG
      obtain ⟨g1, _⟩ := hg
      clear hG hfr
      refine OpSays.value (v := .int .i64 (numAt s 0 1)) (w' := w1) ?_ ⟨⟨hz, hO⟩, Only.refl _ _, rfl⟩
      (go_simp; have hq := numAt_bounds s 0 1; rw [IntKind.wrap_i64]; omega)
    case op3 =>
      intro ev w1 hT1 hc hf hfr hG
      rw [if_pos (by decide)]
      obtain ⟨hz, hO⟩ := hT1
      have h0 : ev (.tmp 0) = .string s := hfr 0 (by decide)
      clear hG hfr
      refine OpSays.value (v := .string s) (w' := w1) ?_ ⟨⟨hz, hO⟩, Only.refl _ _, rfl⟩
      go_simp
    case op4 =>
      intro ev w1 hT1 hc hf hfr hG
      rw [if_pos (by decide)]
      obtain ⟨hz, hO⟩ := hT1
      have hg : (ev (.tmp 21) = .string s) ∧ True := hG
      obtain ⟨g3, _⟩ := hg
      clear hG hfr
      refine OpSays.value (v := .string (s.extract 1 5)) (w' := w1) ?_ ⟨⟨hz, hO⟩, Only.refl _ _, rfl⟩
      go_simp; intro h; exfalso; omega
    case op5 =>
      intro ev w1 hT1 hc hf hfr hG
      rw [if_pos (by decide)]
      obtain ⟨hz, hO⟩ := hT1
      have hg : (ev (.tmp 22) = .string (s.extract 1 5)) ∧ True := hG
      obtain ⟨g4, _⟩ := hg
      clear hG hfr
      refine OpSays.enter (f := 44) (args := #[.string (s.extract 1 5)]) (w' := w1) ?_ ?_
      · go_simp
      · refine (rnum s 1 5 w1 (by omega) (by omega)).mono ?_
        rintro e' w2 ⟨rfl, hk⟩
        exact ⟨_, rfl, ⟨hk.at hz (fun h => h), hO.then hk (fun _ _ h => h)⟩, hk, rfl⟩
    case op6 =>
      intro ev w1 hT1 hc hf hfr hG
      rw [if_pos (by decide)]
      obtain ⟨hz, hO⟩ := hT1
      have h0 : ev (.tmp 0) = .string s := hfr 0 (by decide)
      clear hG hfr
      refine OpSays.value (v := .string s) (w' := w1) ?_ ⟨⟨hz, hO⟩, Only.refl _ _, rfl⟩
      go_simp
    case op7 =>
      intro ev w1 hT1 hc hf hfr hG
      rw [if_pos (by decide)]
      obtain ⟨hz, hO⟩ := hT1
      have hg : (ev (.tmp 24) = .string s) ∧ True := hG
      obtain ⟨g6, _⟩ := hg
      clear hG hfr
      refine OpSays.value (v := .int .u8 (numAt s 5 1)) (w' := w1) ?_ ⟨⟨hz, hO⟩, Only.refl _ _, rfl⟩
      go_simp; rw [dif_pos (show (5 : Int) < (s.size : Int) by omega), numAt1 s 5 (by omega)]; rfl
    case op8 =>
      intro ev w1 hT1 hc hf hfr hG
      rw [if_pos (by decide)]
      obtain ⟨hz, hO⟩ := hT1
      have hg : (ev (.tmp 25) = .int .u8 (numAt s 5 1)) ∧ True := hG
      obtain ⟨g7, _⟩ := hg
      clear hG hfr
      refine OpSays.value (v := .int .i64 (numAt s 5 1)) (w' := w1) ?_ ⟨⟨hz, hO⟩, Only.refl _ _, rfl⟩
      (go_simp; have hq := numAt_bounds s 5 1; rw [IntKind.wrap_i64]; omega)
    case op9 =>
      intro ev w1 hT1 hc hf hfr hG
      rw [if_pos (by decide)]
      obtain ⟨hz, hO⟩ := hT1
      have h0 : ev (.tmp 0) = .string s := hfr 0 (by decide)
      clear hG hfr
      refine OpSays.value (v := .string s) (w' := w1) ?_ ⟨⟨hz, hO⟩, Only.refl _ _, rfl⟩
      go_simp
    case op10 =>
      intro ev w1 hT1 hc hf hfr hG
      rw [if_pos (by decide)]
      obtain ⟨hz, hO⟩ := hT1
      have hg : (ev (.tmp 27) = .string s) ∧ True := hG
      obtain ⟨g9, _⟩ := hg
      clear hG hfr
      refine OpSays.value (v := .string (s.extract 6 10)) (w' := w1) ?_ ⟨⟨hz, hO⟩, Only.refl _ _, rfl⟩
      go_simp; intro h; exfalso; omega
    case op11 =>
      intro ev w1 hT1 hc hf hfr hG
      rw [if_pos (by decide)]
      obtain ⟨hz, hO⟩ := hT1
      have hg : (ev (.tmp 28) = .string (s.extract 6 10)) ∧ True := hG
      obtain ⟨g10, _⟩ := hg
      clear hG hfr
      refine OpSays.enter (f := 44) (args := #[.string (s.extract 6 10)]) (w' := w1) ?_ ?_
      · go_simp
      · refine (rnum s 6 10 w1 (by omega) (by omega)).mono ?_
        rintro e' w2 ⟨rfl, hk⟩
        exact ⟨_, rfl, ⟨hk.at hz (fun h => h), hO.then hk (fun _ _ h => h)⟩, hk, rfl⟩
    case op12 =>
      intro ev w1 hT1 hc hf hfr hG
      rw [if_pos (by decide)]
      obtain ⟨hz, hO⟩ := hT1
      have h0 : ev (.tmp 0) = .string s := hfr 0 (by decide)
      clear hG hfr
      refine OpSays.value (v := .string s) (w' := w1) ?_ ⟨⟨hz, hO⟩, Only.refl _ _, rfl⟩
      go_simp
    case op13 =>
      intro ev w1 hT1 hc hf hfr hG
      rw [if_pos (by decide)]
      obtain ⟨hz, hO⟩ := hT1
      have hg : (ev (.tmp 30) = .string s) ∧ True := hG
      obtain ⟨g12, _⟩ := hg
      clear hG hfr
      refine OpSays.value (v := .string (s.extract 10 14)) (w' := w1) ?_ ⟨⟨hz, hO⟩, Only.refl _ _, rfl⟩
      go_simp; intro h; exfalso; omega
    case op14 =>
      intro ev w1 hT1 hc hf hfr hG
      rw [if_pos (by decide)]
      obtain ⟨hz, hO⟩ := hT1
      have hg : (ev (.tmp 31) = .string (s.extract 10 14)) ∧ True := hG
      obtain ⟨g13, _⟩ := hg
      clear hG hfr
      refine OpSays.enter (f := 44) (args := #[.string (s.extract 10 14)]) (w' := w1) ?_ ?_
      · go_simp
      · refine (rnum s 10 14 w1 (by omega) (by omega)).mono ?_
        rintro e' w2 ⟨rfl, hk⟩
        exact ⟨_, rfl, ⟨hk.at hz (fun h => h), hO.then hk (fun _ _ h => h)⟩, hk, rfl⟩
    case op15 =>
      intro ev w1 hT1 hc hf hfr hG
      rw [if_pos (by decide)]
      obtain ⟨hz, hO⟩ := hT1
      have h0 : ev (.tmp 0) = .string s := hfr 0 (by decide)
      clear hG hfr
      refine OpSays.value (v := .string s) (w' := w1) ?_ ⟨⟨hz, hO⟩, Only.refl _ _, rfl⟩
      go_simp
    case op16 =>
      intro ev w1 hT1 hc hf hfr hG
      rw [if_pos (by decide)]
      obtain ⟨hz, hO⟩ := hT1
      have h0 : ev (.tmp 0) = .string s := hfr 0 (by decide)
      clear hG hfr
      refine OpSays.value (v := .string s) (w' := w1) ?_ ⟨⟨hz, hO⟩, Only.refl _ _, rfl⟩
      go_simp
    case op17 =>
      intro ev w1 hT1 hc hf hfr hG
      rw [if_pos (by decide)]
      obtain ⟨hz, hO⟩ := hT1
      have hg : (ev (.tmp 34) = .string s) ∧ True := hG
      obtain ⟨g16, _⟩ := hg
      clear hG hfr
      refine OpSays.value (v := .int .i64 (s.size)) (w' := w1) ?_ ⟨⟨hz, hO⟩, Only.refl _ _, rfl⟩
      go_simp
    case op18 =>
      intro ev w1 hT1 hc hf hfr hG
      rw [if_pos (by decide)]
      obtain ⟨hz, hO⟩ := hT1
      have hg : (ev (.tmp 35) = .int .i64 (s.size)) ∧ True := hG
      obtain ⟨g17, _⟩ := hg
      clear hG hfr
      refine OpSays.value (v := .int .i64 ((s.size : Int) - 4)) (w' := w1) ?_ ⟨⟨hz, hO⟩, Only.refl _ _, rfl⟩
      go_simp; rw [IntKind.wrap_i64]; omega
    case op19 =>
      intro ev w1 hT1 hc hf hfr hG
      rw [if_pos (by decide)]
      obtain ⟨hz, hO⟩ := hT1
      have hg : (ev (.tmp 33) = .string s) ∧ (ev (.tmp 36) = .int .i64 ((s.size : Int) - 4)) ∧ True := hG
      obtain ⟨g15, g18, _⟩ := hg
      clear hG hfr
      have hx : ((s.size : Int) - 4).toNat = s.size - 4 := by omega
      refine OpSays.value (v := .string (s.extract 16 (s.size - 4))) (w' := w1) ?_ ⟨⟨hz, hO⟩, Only.refl _ _, rfl⟩
      go_simp; rw [if_pos (by omega), if_pos (by omega)]
    case op20 =>
      intro ev w1 hT1 hc hf hfr hG
      rw [if_pos (by decide)]
      obtain ⟨hz, hO⟩ := hT1
      have hg : (ev (.tmp 20) = .int .i64 (numAt s 0 1)) ∧ (ev (.tmp 23) = .int .i64 (numAt s 1 4)) ∧ (ev (.tmp 26) = .int .i64 (numAt s 5 1)) ∧ (ev (.tmp 29) = .int .i64 (numAt s 6 4)) ∧ (ev (.tmp 32) = .int .i64 (numAt s 10 4)) ∧ (ev (.tmp 37) = .string (s.extract 16 (s.size - 4))) ∧ True := hG
      obtain ⟨g2, g5, g8, g11, g14, g19, _⟩ := hg
      clear hG hfr
      refine OpSays.value (v := .agg #[.int .i64 (numAt s 0 1), .int .i64 (numAt s 1 4), .int .i64 (numAt s 5 1), .int .i64 (numAt s 6 4), .int .i64 (numAt s 10 4), .string (s.extract 16 (s.size - 4))]) (w' := w1) ?_ ⟨⟨hz, hO⟩, Only.refl _ _, rfl⟩
      go_simp
    case op21 =>
      intro ev w1 hT1 hc hf hfr hG
      rw [if_pos (by decide)]
      obtain ⟨hz, hO⟩ := hT1
      clear hG hfr
      refine OpSays.value (v := .pointer (some ⟨w1.heap.size, 0, none⟩)) (w' := w1.alloc (.cells #[.int .i64 0, .int .i64 0, .int .i64 0, .int .i64 0, .int .i64 0, .string ⟨#[]⟩] 23)) ?_ ?_
      · go_simp
      · have hk := (Only.refl (fun _ => False) w1).alloc (.cells #[.int .i64 0, .int .i64 0, .int .i64 0, .int .i64 0, .int .i64 0, .string ⟨#[]⟩] 23)
        exact ⟨⟨hk.at hz (fun h => h), hO.then hk (fun _ _ h => h)⟩, hk, w1.heap.size, rfl, heap_lt hz, blk_new w1 _⟩
  rintro ⟨tm, df⟩ w3 ⟨hz3, hO3⟩ hsz hdf hfr hG
  have k0 : tm.getD 0 undef = .string s := hfr 0 (by decide)
  have k2 : tm.getD 2 undef = .pointer (some ⟨z, 0, none⟩) := hfr 2 (by decide)
  have k3 : tm.getD 3 undef = .int .i64 0 := hfr 3 (by decide)
  have k38 : tm.getD 38 undef = .agg #[.int .i64 (numAt s 0 1), .int .i64 (numAt s 1 4), .int .i64 (numAt s 5 1), .int .i64 (numAt s 6 4), .int .i64 (numAt s 10 4), .string (s.extract 16 (s.size - 4))] := AllG.get hG 20 (by decide)
  have he : tm = #[tm.getD 0 undef, tm.getD 1 undef, tm.getD 2 undef, tm.getD 3 undef, tm.getD 4 undef, tm.getD 5 undef, tm.getD 6 undef, tm.getD 7 undef, tm.getD 8 undef, tm.getD 9 undef, tm.getD 10 undef, tm.getD 11 undef, tm.getD 12 undef, tm.getD 13 undef, tm.getD 14 undef, tm.getD 15 undef, tm.getD 16 undef, tm.getD 17 undef, tm.getD 18 undef, tm.getD 19 undef, tm.getD 20 undef, tm.getD 21 undef, tm.getD 22 undef, tm.getD 23 undef, tm.getD 24 undef, tm.getD 25 undef, tm.getD 26 undef, tm.getD 27 undef, tm.getD 28 undef, tm.getD 29 undef, tm.getD 30 undef, tm.getD 31 undef, tm.getD 32 undef, tm.getD 33 undef, tm.getD 34 undef, tm.getD 35 undef, tm.getD 36 undef, tm.getD 37 undef, tm.getD 38 undef, tm.getD 39 undef, tm.getD 40 undef, tm.getD 41 undef, tm.getD 42 undef, tm.getD 43 undef, tm.getD 44 undef, tm.getD 45 undef, tm.getD 46 undef, tm.getD 47 undef, tm.getD 48 undef, tm.getD 49 undef] := arr_eta (n := 50) hsz
  replace hdf : df = [] := hdf
  subst hdf
  obtain ⟨g, hg4, hgN, hgx⟩ : ∃ g, tm.getD 4 undef = .pointer (some ⟨g, 0, none⟩) ∧ _ := AllG.get hG 21 (by decide)
  clear hsz hfr hG
  rw [he, hg4, k0, k2, k3, k38]
  clear he hg4 k0 k2 k3 k38
  generalize tm.getD 1 undef = x1
  generalize tm.getD 5 undef = x5
  generalize tm.getD 6 undef = x6
  generalize tm.getD 7 undef = x7
  generalize tm.getD 8 undef = x8
  generalize tm.getD 9 undef = x9
  generalize tm.getD 10 undef = x10
  generalize tm.getD 11 undef = x11
  generalize tm.getD 12 undef = x12
  generalize tm.getD 13 undef = x13
  generalize tm.getD 14 undef = x14
  generalize tm.getD 15 undef = x15
  generalize tm.getD 16 undef = x16
  generalize tm.getD 17 undef = x17
  generalize tm.getD 18 undef = x18
  generalize tm.getD 19 undef = x19
  generalize tm.getD 20 undef = x20
  generalize tm.getD 21 undef = x21
  generalize tm.getD 22 undef = x22
  generalize tm.getD 23 undef = x23
  generalize tm.getD 24 undef = x24
  generalize tm.getD 25 undef = x25
  generalize tm.getD 26 undef = x26
  generalize tm.getD 27 undef = x27
  generalize tm.getD 28 undef = x28
  generalize tm.getD 29 undef = x29
  generalize tm.getD 30 undef = x30
  generalize tm.getD 31 undef = x31
  generalize tm.getD 32 undef = x32
  generalize tm.getD 33 undef = x33
  generalize tm.getD 34 undef = x34
  generalize tm.getD 35 undef = x35
  generalize tm.getD 36 undef = x36
  generalize tm.getD 37 undef = x37
  generalize tm.getD 39 undef = x39
  generalize tm.getD 40 undef = x40
  generalize tm.getD 41 undef = x41
  generalize tm.getD 42 undef = x42
  generalize tm.getD 43 undef = x43
  generalize tm.getD 44 undef = x44
  generalize tm.getD 45 undef = x45
  generalize tm.getD 46 undef = x46
  generalize tm.getD 47 undef = x47
  generalize tm.getD 48 undef = x48
  generalize tm.getD 49 undef = x49
  have q0 := blk_cell hgx 0
  have q1 := blk_cell hgx 1
  have q2 := blk_cell hgx 2
  have q3 := blk_cell hgx 3
  have q4 := blk_cell hgx 4
  have q5 := blk_cell hgx 5
  have qf := blk_free hgx
  simp only [List.getElem?_toArray, List.getElem?_cons_zero, List.getElem?_cons_succ] at q0 q1 q2 q3 q4 q5
  clear hz hO hk2
  generalize hk0 : numAt s 0 1 = k at *
  generalize he0 : numAt s 1 4 = e at *
  generalize hr0 : numAt s 5 1 = r at *
  generalize hn0 : numAt s 6 4 = n at *
  generalize ha0 : numAt s 10 4 = a at *
  generalize hd0 : s.extract 16 (s.size - 4) = d at *
  have HL := Lib.hid hL
  have HKK := Lib.hid (show numAt s 0 1 = k ∧ numAt s 1 4 = e ∧ numAt s 5 1 = r ∧ numAt s 6 4 = n ∧ numAt s 10 4 = a ∧ s.extract 16 (s.size - 4) = d from ⟨hk0, he0, hr0, hn0, ha0, hd0⟩)
  clear hk0 he0 hr0 hn0 ha0 hd0 hL
  go_wp2_with fail
  have hx := set6 hgx (.int .i64 k) (.int .i64 e) (.int .i64 r) (.int .i64 n) (.int .i64 a) (.string d)
  have hO4 : Only (fun _ => False) w (set6w w3 g (.int .i64 k) (.int .i64 e) (.int .i64 r) (.int .i64 n) (.int .i64 a) (.string d)) := set6_only hO3 (fun h => by omega) _ _ _ _ _ _
  have hO34 : Only (fun k => k = g) w3 (set6w w3 g (.int .i64 k) (.int .i64 e) (.int .i64 r) (.int .i64 n) (.int .i64 a) (.string d)) := set6_only (S := fun k => k = g) (Only.refl _ w3) (fun _ => rfl) _ _ _ _ _ _
  have hz := hO34.at hz3 (by show ¬ z = g; omega)
  change Calls _ _ _ (set6w w3 g (.int .i64 k) (.int .i64 e) (.int .i64 r) (.int .i64 n) (.int .i64 a) (.string d)) _
  generalize set6w w3 g (.int .i64 k) (.int .i64 e) (.int .i64 r) (.int .i64 n) (.int .i64 a) (.string d) = w4 at hz hx hO4 ⊢
  clear hO34 hz3 hO3 hgx q0 q1 q2 q3 q4 q5 qf
  refine (rlcheck_any k e r n a d w4).mono ?_
  rintro e2 w5 ⟨rfl, hk5⟩
  replace hz := hk5.at hz (fun h => h)
  replace hx := hk5.at hx (fun h => h)
  have hO5 := hO4.then hk5 (fun _ _ h => h)
  clear hk5 hO4
  have hlc : lcode k e r n a d = 240 := by unfold lcode; rw [HL.out]; rfl
  rw [hlc]
  clear hlc
  have q0 := blk_cell hz 0
  have q1 := blk_cell hz 1
  have q2 := blk_cell hz 2
  have q3 := blk_cell hz 3
  have q4 := blk_cell hz 4
  have q5 := blk_cell hz 5
  have qf := blk_free hz
  simp only [List.getElem?_toArray, List.getElem?_cons_zero, List.getElem?_cons_succ] at q0 q1 q2 q3 q4 q5
  go_wp2_with fail
  have hs := set6 hz (.int .i64 0) (.int .i64 0) (.int .i64 0) (.int .i64 0) (.int .i64 0) (.string ⟨#[]⟩)
  have hOO : Only (fun _ => False) w (set6w w5 z (.int .i64 0) (.int .i64 0) (.int .i64 0) (.int .i64 0) (.int .i64 0) (.string ⟨#[]⟩)) := set6_only hO5 (fun h => by omega) _ _ _ _ _ _
  change bodyPost _ _ _ _ _ (set6w w5 z (.int .i64 0) (.int .i64 0) (.int .i64 0) (.int .i64 0) (.int .i64 0) (.string ⟨#[]⟩))
  generalize set6w w5 z (.int .i64 0) (.int .i64 0) (.int .i64 0) (.int .i64 0) (.int .i64 0) (.string ⟨#[]⟩) = wz at hs hOO ⊢
  have v0 := blk_cell hs 0
  have v1 := blk_cell hs 1
  have v2 := blk_cell hs 2
  have v3 := blk_cell hs 3
  have v4 := blk_cell hs 4
  have v5 := blk_cell hs 5
  simp only [List.getElem?_toArray, List.getElem?_cons_zero, List.getElem?_cons_succ] at v0 v1 v2 v3 v4 v5
  clear hs q0 q1 q2 q3 q4 q5 qf
  refine bodyPost_ret (v := .tuple #[.agg #[.int .i64 0, .int .i64 0, .int .i64 0, .int .i64 0, .int .i64 0, .string ⟨#[]⟩], .int .i64 240]) (by simp [results, Try.results14, go_sem, v0, v1, v2, v3, v4, v5]) rfl ⟨rfl, hOO⟩
set_option maxHeartbeats 4000000 in
theorem rdec_other (s : ByteArray) (w : World) (h20 : 20 ≤ s.size) (hs : s.size ≤ 140737488355328) (hβ : ((s.size : Int) != 20 + numAt s 14 2) = false) (hL : letterB (numAt s 0 1) (numAt s 1 4) (numAt s 5 1) (numAt s 6 4) (numAt s 10 4) (s.extract 16 (s.size - 4)) = true) (hS : ((letBytes (numAt s 0 1) (numAt s 1 4) (numAt s 5 1) (numAt s 6 4) (numAt s 10 4) (s.extract 16 (s.size - 4))).toList == s.toList) = false) :
    Calls Try.prog 14 #[.string s] w fun e w' => e = .returned noLetter ∧ Only (fun _ => False) w w' := by
  have hO := (Only.refl (fun _ => False) w).alloc (.cells #[.int .i64 0, .int .i64 0, .int .i64 0, .int .i64 0, .int .i64 0, .string ⟨#[]⟩] 23)
  have hz := blk_new w (.cells #[.int .i64 0, .int .i64 0, .int .i64 0, .int .i64 0, .int .i64 0, .string ⟨#[]⟩] 23)
  have d1 : decide ((s.size : Int) < 20) = false := decide_eq_false (by omega)
  have d2 : (20 : Int) ≤ s.size := by omega
  have hnb := numAt_bounds s 14 2
  go_enter Try.func14, Try.ntmps14
  go_wp2_with fail
  generalize w.alloc (.cells #[.int .i64 0, .int .i64 0, .int .i64 0, .int .i64 0, .int .i64 0, .string ⟨#[]⟩] 23) = w0 at hO hz ⊢
  generalize hzz : w.heap.size = z at hz ⊢
  refine (rnum s 14 16 _ (by omega) (by omega)).mono ?_
  rintro e2 w2 ⟨rfl, hk2⟩
  replace hz := hk2.at hz (fun h => h)
  replace hO := hO.then hk2 (fun _ _ h => h)
  go_wp2_with fail
  refine wp_region_facts_tail 22 rd3Ds rd3Need rd3Gs (fun w' => (w'.heap[z]? = some (.cells #[.int .i64 0, .int .i64 0, .int .i64 0, .int .i64 0, .int .i64 0, .string ⟨#[]⟩] 23 (0, 0))) ∧ Only (fun _ => False) w w') (Only (fun _ => False)) (rd3G z s) rfl rfl (by kernel_rfl) (by kernel_rfl) (by kernel_rfl) (by kernel_rfl) (by kernel_rfl) ⟨hz, hO.drew⟩ rd3G.keep rd3G.guard ?_ ?_
  · refine And.intro ?op0 (And.intro ?op1 (And.intro ?op2 (And.intro ?op3 (And.intro ?op4 (And.intro ?op5 (And.intro ?op6 (And.intro ?op7 (And.intro ?op8 (And.intro ?op9 (And.intro ?op10 (And.intro ?op11 (And.intro ?op12 (And.intro ?op13 (And.intro ?op14 (And.intro ?op15 (And.intro ?op16 (And.intro ?op17 (And.intro ?op18 (And.intro ?op19 (And.intro ?op20 (And.intro ?op21 trivial)))))))))))))))))))))
    case op0 =>
      intro ev w1 hT1 hc hf hfr hG
      rw [if_pos (by decide)]
      obtain ⟨hz, hO⟩ := hT1
      have h0 : ev (.tmp 0) = .string s := hfr 0 (by decide)
      clear hG hfr
      refine OpSays.value (v := .string s) (w' := w1) ?_ ⟨⟨hz, hO⟩, Only.refl _ _, rfl⟩
      go_simp
    case op1 =>
      intro ev w1 hT1 hc hf hfr hG
      rw [if_pos (by decide)]
      obtain ⟨hz, hO⟩ := hT1
      have hg : (ev (.tmp 18) = .string s) ∧ True := hG
      obtain ⟨g0, _⟩ := hg
      clear hG hfr
      refine OpSays.value (v := .int .u8 (numAt s 0 1)) (w' := w1) ?_ ⟨⟨hz, hO⟩, Only.refl _ _, rfl⟩
      go_simp; rw [dif_pos (show 0 < s.size by omega), numAt1 s 0 (by omega)]; rfl
    case op2 =>
      intro ev w1 hT1 hc hf hfr hG
      rw [if_pos (by decide)]
      obtain ⟨hz, hO⟩ := hT1
      have hg : (ev (.tmp 19) = .int .u8 (numAt s 0 1)) ∧ True := hG
      obtain ⟨g1, _⟩ := hg
      clear hG hfr
      refine OpSays.value (v := .int .i64 (numAt s 0 1)) (w' := w1) ?_ ⟨⟨hz, hO⟩, Only.refl _ _, rfl⟩
      (go_simp; have hq := numAt_bounds s 0 1; rw [IntKind.wrap_i64]; omega)
    case op3 =>
      intro ev w1 hT1 hc hf hfr hG
      rw [if_pos (by decide)]
      obtain ⟨hz, hO⟩ := hT1
      have h0 : ev (.tmp 0) = .string s := hfr 0 (by decide)
      clear hG hfr
      refine OpSays.value (v := .string s) (w' := w1) ?_ ⟨⟨hz, hO⟩, Only.refl _ _, rfl⟩
      go_simp
    case op4 =>
      intro ev w1 hT1 hc hf hfr hG
      rw [if_pos (by decide)]
      obtain ⟨hz, hO⟩ := hT1
      have hg : (ev (.tmp 21) = .string s) ∧ True := hG
      obtain ⟨g3, _⟩ := hg
      clear hG hfr
      refine OpSays.value (v := .string (s.extract 1 5)) (w' := w1) ?_ ⟨⟨hz, hO⟩, Only.refl _ _, rfl⟩
      go_simp; intro h; exfalso; omega
    case op5 =>
      intro ev w1 hT1 hc hf hfr hG
      rw [if_pos (by decide)]
      obtain ⟨hz, hO⟩ := hT1
      have hg : (ev (.tmp 22) = .string (s.extract 1 5)) ∧ True := hG
      obtain ⟨g4, _⟩ := hg
      clear hG hfr
      refine OpSays.enter (f := 44) (args := #[.string (s.extract 1 5)]) (w' := w1) ?_ ?_
      · go_simp
      · refine (rnum s 1 5 w1 (by omega) (by omega)).mono ?_
        rintro e' w2 ⟨rfl, hk⟩
        exact ⟨_, rfl, ⟨hk.at hz (fun h => h), hO.then hk (fun _ _ h => h)⟩, hk, rfl⟩
    case op6 =>
      intro ev w1 hT1 hc hf hfr hG
      rw [if_pos (by decide)]
      obtain ⟨hz, hO⟩ := hT1
      have h0 : ev (.tmp 0) = .string s := hfr 0 (by decide)
      clear hG hfr
      refine OpSays.value (v := .string s) (w' := w1) ?_ ⟨⟨hz, hO⟩, Only.refl _ _, rfl⟩
      go_simp
    case op7 =>
      intro ev w1 hT1 hc hf hfr hG
      rw [if_pos (by decide)]
      obtain ⟨hz, hO⟩ := hT1
      have hg : (ev (.tmp 24) = .string s) ∧ True := hG
      obtain ⟨g6, _⟩ := hg
      clear hG hfr
      refine OpSays.value (v := .int .u8 (numAt s 5 1)) (w' := w1) ?_ ⟨⟨hz, hO⟩, Only.refl _ _, rfl⟩
      go_simp; rw [dif_pos (show (5 : Int) < (s.size : Int) by omega), numAt1 s 5 (by omega)]; rfl
    case op8 =>
      intro ev w1 hT1 hc hf hfr hG
      rw [if_pos (by decide)]
      obtain ⟨hz, hO⟩ := hT1
      have hg : (ev (.tmp 25) = .int .u8 (numAt s 5 1)) ∧ True := hG
      obtain ⟨g7, _⟩ := hg
      clear hG hfr
      refine OpSays.value (v := .int .i64 (numAt s 5 1)) (w' := w1) ?_ ⟨⟨hz, hO⟩, Only.refl _ _, rfl⟩
      (go_simp; have hq := numAt_bounds s 5 1; rw [IntKind.wrap_i64]; omega)
    case op9 =>
      intro ev w1 hT1 hc hf hfr hG
      rw [if_pos (by decide)]
      obtain ⟨hz, hO⟩ := hT1
      have h0 : ev (.tmp 0) = .string s := hfr 0 (by decide)
      clear hG hfr
      refine OpSays.value (v := .string s) (w' := w1) ?_ ⟨⟨hz, hO⟩, Only.refl _ _, rfl⟩
      go_simp
    case op10 =>
      intro ev w1 hT1 hc hf hfr hG
      rw [if_pos (by decide)]
      obtain ⟨hz, hO⟩ := hT1
      have hg : (ev (.tmp 27) = .string s) ∧ True := hG
      obtain ⟨g9, _⟩ := hg
      clear hG hfr
      refine OpSays.value (v := .string (s.extract 6 10)) (w' := w1) ?_ ⟨⟨hz, hO⟩, Only.refl _ _, rfl⟩
      go_simp; intro h; exfalso; omega
    case op11 =>
      intro ev w1 hT1 hc hf hfr hG
      rw [if_pos (by decide)]
      obtain ⟨hz, hO⟩ := hT1
      have hg : (ev (.tmp 28) = .string (s.extract 6 10)) ∧ True := hG
      obtain ⟨g10, _⟩ := hg
      clear hG hfr
      refine OpSays.enter (f := 44) (args := #[.string (s.extract 6 10)]) (w' := w1) ?_ ?_
      · go_simp
      · refine (rnum s 6 10 w1 (by omega) (by omega)).mono ?_
        rintro e' w2 ⟨rfl, hk⟩
        exact ⟨_, rfl, ⟨hk.at hz (fun h => h), hO.then hk (fun _ _ h => h)⟩, hk, rfl⟩
    case op12 =>
      intro ev w1 hT1 hc hf hfr hG
      rw [if_pos (by decide)]
      obtain ⟨hz, hO⟩ := hT1
      have h0 : ev (.tmp 0) = .string s := hfr 0 (by decide)
      clear hG hfr
      refine OpSays.value (v := .string s) (w' := w1) ?_ ⟨⟨hz, hO⟩, Only.refl _ _, rfl⟩
      go_simp
    case op13 =>
      intro ev w1 hT1 hc hf hfr hG
      rw [if_pos (by decide)]
      obtain ⟨hz, hO⟩ := hT1
      have hg : (ev (.tmp 30) = .string s) ∧ True := hG
      obtain ⟨g12, _⟩ := hg
      clear hG hfr
      refine OpSays.value (v := .string (s.extract 10 14)) (w' := w1) ?_ ⟨⟨hz, hO⟩, Only.refl _ _, rfl⟩
      go_simp; intro h; exfalso; omega
    case op14 =>
      intro ev w1 hT1 hc hf hfr hG
      rw [if_pos (by decide)]
      obtain ⟨hz, hO⟩ := hT1
      have hg : (ev (.tmp 31) = .string (s.extract 10 14)) ∧ True := hG
      obtain ⟨g13, _⟩ := hg
      clear hG hfr
      refine OpSays.enter (f := 44) (args := #[.string (s.extract 10 14)]) (w' := w1) ?_ ?_
      · go_simp
      · refine (rnum s 10 14 w1 (by omega) (by omega)).mono ?_
        rintro e' w2 ⟨rfl, hk⟩
        exact ⟨_, rfl, ⟨hk.at hz (fun h => h), hO.then hk (fun _ _ h => h)⟩, hk, rfl⟩
    case op15 =>
      intro ev w1 hT1 hc hf hfr hG
      rw [if_pos (by decide)]
      obtain ⟨hz, hO⟩ := hT1
      have h0 : ev (.tmp 0) = .string s := hfr 0 (by decide)
      clear hG hfr
      refine OpSays.value (v := .string s) (w' := w1) ?_ ⟨⟨hz, hO⟩, Only.refl _ _, rfl⟩
      go_simp
    case op16 =>
      intro ev w1 hT1 hc hf hfr hG
      rw [if_pos (by decide)]
      obtain ⟨hz, hO⟩ := hT1
      have h0 : ev (.tmp 0) = .string s := hfr 0 (by decide)
      clear hG hfr
      refine OpSays.value (v := .string s) (w' := w1) ?_ ⟨⟨hz, hO⟩, Only.refl _ _, rfl⟩
      go_simp
    case op17 =>
      intro ev w1 hT1 hc hf hfr hG
      rw [if_pos (by decide)]
      obtain ⟨hz, hO⟩ := hT1
      have hg : (ev (.tmp 34) = .string s) ∧ True := hG
      obtain ⟨g16, _⟩ := hg
      clear hG hfr
      refine OpSays.value (v := .int .i64 (s.size)) (w' := w1) ?_ ⟨⟨hz, hO⟩, Only.refl _ _, rfl⟩
      go_simp
    case op18 =>
      intro ev w1 hT1 hc hf hfr hG
      rw [if_pos (by decide)]
      obtain ⟨hz, hO⟩ := hT1
      have hg : (ev (.tmp 35) = .int .i64 (s.size)) ∧ True := hG
      obtain ⟨g17, _⟩ := hg
      clear hG hfr
      refine OpSays.value (v := .int .i64 ((s.size : Int) - 4)) (w' := w1) ?_ ⟨⟨hz, hO⟩, Only.refl _ _, rfl⟩
      go_simp; rw [IntKind.wrap_i64]; omega
    case op19 =>
      intro ev w1 hT1 hc hf hfr hG
      rw [if_pos (by decide)]
      obtain ⟨hz, hO⟩ := hT1
      have hg : (ev (.tmp 33) = .string s) ∧ (ev (.tmp 36) = .int .i64 ((s.size : Int) - 4)) ∧ True := hG
      obtain ⟨g15, g18, _⟩ := hg
      clear hG hfr
      have hx : ((s.size : Int) - 4).toNat = s.size - 4 := by omega
      refine OpSays.value (v := .string (s.extract 16 (s.size - 4))) (w' := w1) ?_ ⟨⟨hz, hO⟩, Only.refl _ _, rfl⟩
      go_simp; rw [if_pos (by omega), if_pos (by omega)]
    case op20 =>
      intro ev w1 hT1 hc hf hfr hG
      rw [if_pos (by decide)]
      obtain ⟨hz, hO⟩ := hT1
      have hg : (ev (.tmp 20) = .int .i64 (numAt s 0 1)) ∧ (ev (.tmp 23) = .int .i64 (numAt s 1 4)) ∧ (ev (.tmp 26) = .int .i64 (numAt s 5 1)) ∧ (ev (.tmp 29) = .int .i64 (numAt s 6 4)) ∧ (ev (.tmp 32) = .int .i64 (numAt s 10 4)) ∧ (ev (.tmp 37) = .string (s.extract 16 (s.size - 4))) ∧ True := hG
      obtain ⟨g2, g5, g8, g11, g14, g19, _⟩ := hg
      clear hG hfr
      refine OpSays.value (v := .agg #[.int .i64 (numAt s 0 1), .int .i64 (numAt s 1 4), .int .i64 (numAt s 5 1), .int .i64 (numAt s 6 4), .int .i64 (numAt s 10 4), .string (s.extract 16 (s.size - 4))]) (w' := w1) ?_ ⟨⟨hz, hO⟩, Only.refl _ _, rfl⟩
      go_simp
    case op21 =>
      intro ev w1 hT1 hc hf hfr hG
      rw [if_pos (by decide)]
      obtain ⟨hz, hO⟩ := hT1
      clear hG hfr
      refine OpSays.value (v := .pointer (some ⟨w1.heap.size, 0, none⟩)) (w' := w1.alloc (.cells #[.int .i64 0, .int .i64 0, .int .i64 0, .int .i64 0, .int .i64 0, .string ⟨#[]⟩] 23)) ?_ ?_
      · go_simp
      · have hk := (Only.refl (fun _ => False) w1).alloc (.cells #[.int .i64 0, .int .i64 0, .int .i64 0, .int .i64 0, .int .i64 0, .string ⟨#[]⟩] 23)
        exact ⟨⟨hk.at hz (fun h => h), hO.then hk (fun _ _ h => h)⟩, hk, w1.heap.size, rfl, heap_lt hz, blk_new w1 _⟩
  rintro ⟨tm, df⟩ w3 ⟨hz3, hO3⟩ hsz hdf hfr hG
  have k0 : tm.getD 0 undef = .string s := hfr 0 (by decide)
  have k2 : tm.getD 2 undef = .pointer (some ⟨z, 0, none⟩) := hfr 2 (by decide)
  have k3 : tm.getD 3 undef = .int .i64 0 := hfr 3 (by decide)
  have k38 : tm.getD 38 undef = .agg #[.int .i64 (numAt s 0 1), .int .i64 (numAt s 1 4), .int .i64 (numAt s 5 1), .int .i64 (numAt s 6 4), .int .i64 (numAt s 10 4), .string (s.extract 16 (s.size - 4))] := AllG.get hG 20 (by decide)
  have he : tm = #[tm.getD 0 undef, tm.getD 1 undef, tm.getD 2 undef, tm.getD 3 undef, tm.getD 4 undef, tm.getD 5 undef, tm.getD 6 undef, tm.getD 7 undef, tm.getD 8 undef, tm.getD 9 undef, tm.getD 10 undef, tm.getD 11 undef, tm.getD 12 undef, tm.getD 13 undef, tm.getD 14 undef, tm.getD 15 undef, tm.getD 16 undef, tm.getD 17 undef, tm.getD 18 undef, tm.getD 19 undef, tm.getD 20 undef, tm.getD 21 undef, tm.getD 22 undef, tm.getD 23 undef, tm.getD 24 undef, tm.getD 25 undef, tm.getD 26 undef, tm.getD 27 undef, tm.getD 28 undef, tm.getD 29 undef, tm.getD 30 undef, tm.getD 31 undef, tm.getD 32 undef, tm.getD 33 undef, tm.getD 34 undef, tm.getD 35 undef, tm.getD 36 undef, tm.getD 37 undef, tm.getD 38 undef, tm.getD 39 undef, tm.getD 40 undef, tm.getD 41 undef, tm.getD 42 undef, tm.getD 43 undef, tm.getD 44 undef, tm.getD 45 undef, tm.getD 46 undef, tm.getD 47 undef, tm.getD 48 undef, tm.getD 49 undef] := arr_eta (n := 50) hsz
  replace hdf : df = [] := hdf
  subst hdf
  obtain ⟨g, hg4, hgN, hgx⟩ : ∃ g, tm.getD 4 undef = .pointer (some ⟨g, 0, none⟩) ∧ _ := AllG.get hG 21 (by decide)
  clear hsz hfr hG
  rw [he, hg4, k0, k2, k3, k38]
  clear he hg4 k0 k2 k3 k38
  generalize tm.getD 1 undef = x1
  generalize tm.getD 5 undef = x5
  generalize tm.getD 6 undef = x6
  generalize tm.getD 7 undef = x7
  generalize tm.getD 8 undef = x8
  generalize tm.getD 9 undef = x9
  generalize tm.getD 10 undef = x10
  generalize tm.getD 11 undef = x11
  generalize tm.getD 12 undef = x12
  generalize tm.getD 13 undef = x13
  generalize tm.getD 14 undef = x14
  generalize tm.getD 15 undef = x15
  generalize tm.getD 16 undef = x16
  generalize tm.getD 17 undef = x17
  generalize tm.getD 18 undef = x18
  generalize tm.getD 19 undef = x19
  generalize tm.getD 20 undef = x20
  generalize tm.getD 21 undef = x21
  generalize tm.getD 22 undef = x22
  generalize tm.getD 23 undef = x23
  generalize tm.getD 24 undef = x24
  generalize tm.getD 25 undef = x25
  generalize tm.getD 26 undef = x26
  generalize tm.getD 27 undef = x27
  generalize tm.getD 28 undef = x28
  generalize tm.getD 29 undef = x29
  generalize tm.getD 30 undef = x30
  generalize tm.getD 31 undef = x31
  generalize tm.getD 32 undef = x32
  generalize tm.getD 33 undef = x33
  generalize tm.getD 34 undef = x34
  generalize tm.getD 35 undef = x35
  generalize tm.getD 36 undef = x36
  generalize tm.getD 37 undef = x37
  generalize tm.getD 39 undef = x39
  generalize tm.getD 40 undef = x40
  generalize tm.getD 41 undef = x41
  generalize tm.getD 42 undef = x42
  generalize tm.getD 43 undef = x43
  generalize tm.getD 44 undef = x44
  generalize tm.getD 45 undef = x45
  generalize tm.getD 46 undef = x46
  generalize tm.getD 47 undef = x47
  generalize tm.getD 48 undef = x48
  generalize tm.getD 49 undef = x49
  have q0 := blk_cell hgx 0
  have q1 := blk_cell hgx 1
  have q2 := blk_cell hgx 2
  have q3 := blk_cell hgx 3
  have q4 := blk_cell hgx 4
  have q5 := blk_cell hgx 5
  have qf := blk_free hgx
  simp only [List.getElem?_toArray, List.getElem?_cons_zero, List.getElem?_cons_succ] at q0 q1 q2 q3 q4 q5
  clear hz hO hk2
  generalize hk0 : numAt s 0 1 = k at *
  generalize he0 : numAt s 1 4 = e at *
  generalize hr0 : numAt s 5 1 = r at *
  generalize hn0 : numAt s 6 4 = n at *
  generalize ha0 : numAt s 10 4 = a at *
  generalize hd0 : s.extract 16 (s.size - 4) = d at *
  have HL := Lib.hid hL
  have HKK := Lib.hid (show numAt s 0 1 = k ∧ numAt s 1 4 = e ∧ numAt s 5 1 = r ∧ numAt s 6 4 = n ∧ numAt s 10 4 = a ∧ s.extract 16 (s.size - 4) = d from ⟨hk0, he0, hr0, hn0, ha0, hd0⟩)
  clear hk0 he0 hr0 hn0 ha0 hd0 hL
  go_wp2_with fail
  have hx := set6 hgx (.int .i64 k) (.int .i64 e) (.int .i64 r) (.int .i64 n) (.int .i64 a) (.string d)
  have hO4 : Only (fun _ => False) w (set6w w3 g (.int .i64 k) (.int .i64 e) (.int .i64 r) (.int .i64 n) (.int .i64 a) (.string d)) := set6_only hO3 (fun h => by omega) _ _ _ _ _ _
  have hO34 : Only (fun k => k = g) w3 (set6w w3 g (.int .i64 k) (.int .i64 e) (.int .i64 r) (.int .i64 n) (.int .i64 a) (.string d)) := set6_only (S := fun k => k = g) (Only.refl _ w3) (fun _ => rfl) _ _ _ _ _ _
  have hz := hO34.at hz3 (by show ¬ z = g; omega)
  change Calls _ _ _ (set6w w3 g (.int .i64 k) (.int .i64 e) (.int .i64 r) (.int .i64 n) (.int .i64 a) (.string d)) _
  generalize set6w w3 g (.int .i64 k) (.int .i64 e) (.int .i64 r) (.int .i64 n) (.int .i64 a) (.string d) = w4 at hz hx hO4 ⊢
  clear hO34 hz3 hO3 hgx q0 q1 q2 q3 q4 q5 qf
  refine (rlcheck_any k e r n a d w4).mono ?_
  rintro e2 w5 ⟨rfl, hk5⟩
  replace hz := hk5.at hz (fun h => h)
  replace hx := hk5.at hx (fun h => h)
  have hO5 := hO4.then hk5 (fun _ _ h => h)
  clear hk5 hO4
  have hlc : lcode k e r n a d = 0 := by unfold lcode; rw [HL.out]; rfl
  rw [hlc]
  clear hlc
  have y0 := blk_cell hx 0
  have y1 := blk_cell hx 1
  have y2 := blk_cell hx 2
  have y3 := blk_cell hx 3
  have y4 := blk_cell hx 4
  have y5 := blk_cell hx 5
  simp only [List.getElem?_toArray, List.getElem?_cons_zero, List.getElem?_cons_succ] at y0 y1 y2 y3 y4 y5
  go_wp2_with fail
  refine (rletter_any k e r n a d w5 HL.out).mono ?_
  rintro e2 w6 ⟨rfl, hk6⟩
  replace hz := hk6.at hz (fun h => h)
  replace hx := hk6.at hx (fun h => h)
  have hO6 := hO5.then hk6 (fun _ _ h => h)
  clear hk6 hO5 y0 y1 y2 y3 y4 y5
  have q0 := blk_cell hz 0
  have q1 := blk_cell hz 1
  have q2 := blk_cell hz 2
  have q3 := blk_cell hz 3
  have q4 := blk_cell hz 4
  have q5 := blk_cell hz 5
  have qf := blk_free hz
  simp only [List.getElem?_toArray, List.getElem?_cons_zero, List.getElem?_cons_succ] at q0 q1 q2 q3 q4 q5
  go_wp2_with fail
  have hs := set6 hz (.int .i64 0) (.int .i64 0) (.int .i64 0) (.int .i64 0) (.int .i64 0) (.string ⟨#[]⟩)
  have hOO : Only (fun _ => False) w (set6w w6 z (.int .i64 0) (.int .i64 0) (.int .i64 0) (.int .i64 0) (.int .i64 0) (.string ⟨#[]⟩)) := set6_only hO6 (fun h => by omega) _ _ _ _ _ _
  change bodyPost _ _ _ _ _ (set6w w6 z (.int .i64 0) (.int .i64 0) (.int .i64 0) (.int .i64 0) (.int .i64 0) (.string ⟨#[]⟩))
  generalize set6w w6 z (.int .i64 0) (.int .i64 0) (.int .i64 0) (.int .i64 0) (.int .i64 0) (.string ⟨#[]⟩) = wz at hs hOO ⊢
  have v0 := blk_cell hs 0
  have v1 := blk_cell hs 1
  have v2 := blk_cell hs 2
  have v3 := blk_cell hs 3
  have v4 := blk_cell hs 4
  have v5 := blk_cell hs 5
  simp only [List.getElem?_toArray, List.getElem?_cons_zero, List.getElem?_cons_succ] at v0 v1 v2 v3 v4 v5
  clear hs q0 q1 q2 q3 q4 q5 qf
  refine bodyPost_ret (v := .tuple #[.agg #[.int .i64 0, .int .i64 0, .int .i64 0, .int .i64 0, .int .i64 0, .string ⟨#[]⟩], .int .i64 240]) (by simp [results, Try.results14, go_sem, v0, v1, v2, v3, v4, v5]) rfl ⟨rfl, hOO⟩
set_option maxHeartbeats 4000000 in
theorem rdec_good (s : ByteArray) (w : World) (h20 : 20 ≤ s.size) (hs : s.size ≤ 140737488355328) (hβ : ((s.size : Int) != 20 + numAt s 14 2) = false) (hL : letterB (numAt s 0 1) (numAt s 1 4) (numAt s 5 1) (numAt s 6 4) (numAt s 10 4) (s.extract 16 (s.size - 4)) = true) (hS : ((letBytes (numAt s 0 1) (numAt s 1 4) (numAt s 5 1) (numAt s 6 4) (numAt s 10 4) (s.extract 16 (s.size - 4))).toList == s.toList) = true) :
    Calls Try.prog 14 #[.string s] w fun e w' => e = .returned (.tuple #[.agg #[.int .i64 (numAt s 0 1), .int .i64 (numAt s 1 4), .int .i64 (numAt s 5 1), .int .i64 (numAt s 6 4), .int .i64 (numAt s 10 4), .string (s.extract 16 (s.size - 4))], .int .i64 0]) ∧ Only (fun _ => False) w w' := by
  have hO := (Only.refl (fun _ => False) w).alloc (.cells #[.int .i64 0, .int .i64 0, .int .i64 0, .int .i64 0, .int .i64 0, .string ⟨#[]⟩] 23)
  have hz := blk_new w (.cells #[.int .i64 0, .int .i64 0, .int .i64 0, .int .i64 0, .int .i64 0, .string ⟨#[]⟩] 23)
  have d1 : decide ((s.size : Int) < 20) = false := decide_eq_false (by omega)
  have d2 : (20 : Int) ≤ s.size := by omega
  have hnb := numAt_bounds s 14 2
  go_enter Try.func14, Try.ntmps14
  go_wp2_with fail
  generalize w.alloc (.cells #[.int .i64 0, .int .i64 0, .int .i64 0, .int .i64 0, .int .i64 0, .string ⟨#[]⟩] 23) = w0 at hO hz ⊢
  generalize hzz : w.heap.size = z at hz ⊢
  refine (rnum s 14 16 _ (by omega) (by omega)).mono ?_
  rintro e2 w2 ⟨rfl, hk2⟩
  replace hz := hk2.at hz (fun h => h)
  replace hO := hO.then hk2 (fun _ _ h => h)
  go_wp2_with fail
  refine wp_region_facts_tail 22 rd3Ds rd3Need rd3Gs (fun w' => (w'.heap[z]? = some (.cells #[.int .i64 0, .int .i64 0, .int .i64 0, .int .i64 0, .int .i64 0, .string ⟨#[]⟩] 23 (0, 0))) ∧ Only (fun _ => False) w w') (Only (fun _ => False)) (rd3G z s) rfl rfl (by kernel_rfl) (by kernel_rfl) (by kernel_rfl) (by kernel_rfl) (by kernel_rfl) ⟨hz, hO.drew⟩ rd3G.keep rd3G.guard ?_ ?_
  · refine And.intro ?op0 (And.intro ?op1 (And.intro ?op2 (And.intro ?op3 (And.intro ?op4 (And.intro ?op5 (And.intro ?op6 (And.intro ?op7 (And.intro ?op8 (And.intro ?op9 (And.intro ?op10 (And.intro ?op11 (And.intro ?op12 (And.intro ?op13 (And.intro ?op14 (And.intro ?op15 (And.intro ?op16 (And.intro ?op17 (And.intro ?op18 (And.intro ?op19 (And.intro ?op20 (And.intro ?op21 trivial)))))))))))))))))))))
    case op0 =>
      intro ev w1 hT1 hc hf hfr hG
      rw [if_pos (by decide)]
      obtain ⟨hz, hO⟩ := hT1
      have h0 : ev (.tmp 0) = .string s := hfr 0 (by decide)
      clear hG hfr
      refine OpSays.value (v := .string s) (w' := w1) ?_ ⟨⟨hz, hO⟩, Only.refl _ _, rfl⟩
      go_simp
    case op1 =>
      intro ev w1 hT1 hc hf hfr hG
      rw [if_pos (by decide)]
      obtain ⟨hz, hO⟩ := hT1
      have hg : (ev (.tmp 18) = .string s) ∧ True := hG
      obtain ⟨g0, _⟩ := hg
      clear hG hfr
      refine OpSays.value (v := .int .u8 (numAt s 0 1)) (w' := w1) ?_ ⟨⟨hz, hO⟩, Only.refl _ _, rfl⟩
      go_simp; rw [dif_pos (show 0 < s.size by omega), numAt1 s 0 (by omega)]; rfl
    case op2 =>
      intro ev w1 hT1 hc hf hfr hG
      rw [if_pos (by decide)]
      obtain ⟨hz, hO⟩ := hT1
      have hg : (ev (.tmp 19) = .int .u8 (numAt s 0 1)) ∧ True := hG
      obtain ⟨g1, _⟩ := hg
      clear hG hfr
      refine OpSays.value (v := .int .i64 (numAt s 0 1)) (w' := w1) ?_ ⟨⟨hz, hO⟩, Only.refl _ _, rfl⟩
      (go_simp; have hq := numAt_bounds s 0 1; rw [IntKind.wrap_i64]; omega)
    case op3 =>
      intro ev w1 hT1 hc hf hfr hG
      rw [if_pos (by decide)]
      obtain ⟨hz, hO⟩ := hT1
      have h0 : ev (.tmp 0) = .string s := hfr 0 (by decide)
      clear hG hfr
      refine OpSays.value (v := .string s) (w' := w1) ?_ ⟨⟨hz, hO⟩, Only.refl _ _, rfl⟩
      go_simp
    case op4 =>
      intro ev w1 hT1 hc hf hfr hG
      rw [if_pos (by decide)]
      obtain ⟨hz, hO⟩ := hT1
      have hg : (ev (.tmp 21) = .string s) ∧ True := hG
      obtain ⟨g3, _⟩ := hg
      clear hG hfr
      refine OpSays.value (v := .string (s.extract 1 5)) (w' := w1) ?_ ⟨⟨hz, hO⟩, Only.refl _ _, rfl⟩
      go_simp; intro h; exfalso; omega
    case op5 =>
      intro ev w1 hT1 hc hf hfr hG
      rw [if_pos (by decide)]
      obtain ⟨hz, hO⟩ := hT1
      have hg : (ev (.tmp 22) = .string (s.extract 1 5)) ∧ True := hG
      obtain ⟨g4, _⟩ := hg
      clear hG hfr
      refine OpSays.enter (f := 44) (args := #[.string (s.extract 1 5)]) (w' := w1) ?_ ?_
      · go_simp
      · refine (rnum s 1 5 w1 (by omega) (by omega)).mono ?_
        rintro e' w2 ⟨rfl, hk⟩
        exact ⟨_, rfl, ⟨hk.at hz (fun h => h), hO.then hk (fun _ _ h => h)⟩, hk, rfl⟩
    case op6 =>
      intro ev w1 hT1 hc hf hfr hG
      rw [if_pos (by decide)]
      obtain ⟨hz, hO⟩ := hT1
      have h0 : ev (.tmp 0) = .string s := hfr 0 (by decide)
      clear hG hfr
      refine OpSays.value (v := .string s) (w' := w1) ?_ ⟨⟨hz, hO⟩, Only.refl _ _, rfl⟩
      go_simp
    case op7 =>
      intro ev w1 hT1 hc hf hfr hG
      rw [if_pos (by decide)]
      obtain ⟨hz, hO⟩ := hT1
      have hg : (ev (.tmp 24) = .string s) ∧ True := hG
      obtain ⟨g6, _⟩ := hg
      clear hG hfr
      refine OpSays.value (v := .int .u8 (numAt s 5 1)) (w' := w1) ?_ ⟨⟨hz, hO⟩, Only.refl _ _, rfl⟩
      go_simp; rw [dif_pos (show (5 : Int) < (s.size : Int) by omega), numAt1 s 5 (by omega)]; rfl
    case op8 =>
      intro ev w1 hT1 hc hf hfr hG
      rw [if_pos (by decide)]
      obtain ⟨hz, hO⟩ := hT1
      have hg : (ev (.tmp 25) = .int .u8 (numAt s 5 1)) ∧ True := hG
      obtain ⟨g7, _⟩ := hg
      clear hG hfr
      refine OpSays.value (v := .int .i64 (numAt s 5 1)) (w' := w1) ?_ ⟨⟨hz, hO⟩, Only.refl _ _, rfl⟩
      (go_simp; have hq := numAt_bounds s 5 1; rw [IntKind.wrap_i64]; omega)
    case op9 =>
      intro ev w1 hT1 hc hf hfr hG
      rw [if_pos (by decide)]
      obtain ⟨hz, hO⟩ := hT1
      have h0 : ev (.tmp 0) = .string s := hfr 0 (by decide)
      clear hG hfr
      refine OpSays.value (v := .string s) (w' := w1) ?_ ⟨⟨hz, hO⟩, Only.refl _ _, rfl⟩
      go_simp
    case op10 =>
      intro ev w1 hT1 hc hf hfr hG
      rw [if_pos (by decide)]
      obtain ⟨hz, hO⟩ := hT1
      have hg : (ev (.tmp 27) = .string s) ∧ True := hG
      obtain ⟨g9, _⟩ := hg
      clear hG hfr
      refine OpSays.value (v := .string (s.extract 6 10)) (w' := w1) ?_ ⟨⟨hz, hO⟩, Only.refl _ _, rfl⟩
      go_simp; intro h; exfalso; omega
    case op11 =>
      intro ev w1 hT1 hc hf hfr hG
      rw [if_pos (by decide)]
      obtain ⟨hz, hO⟩ := hT1
      have hg : (ev (.tmp 28) = .string (s.extract 6 10)) ∧ True := hG
      obtain ⟨g10, _⟩ := hg
      clear hG hfr
      refine OpSays.enter (f := 44) (args := #[.string (s.extract 6 10)]) (w' := w1) ?_ ?_
      · go_simp
      · refine (rnum s 6 10 w1 (by omega) (by omega)).mono ?_
        rintro e' w2 ⟨rfl, hk⟩
        exact ⟨_, rfl, ⟨hk.at hz (fun h => h), hO.then hk (fun _ _ h => h)⟩, hk, rfl⟩
    case op12 =>
      intro ev w1 hT1 hc hf hfr hG
      rw [if_pos (by decide)]
      obtain ⟨hz, hO⟩ := hT1
      have h0 : ev (.tmp 0) = .string s := hfr 0 (by decide)
      clear hG hfr
      refine OpSays.value (v := .string s) (w' := w1) ?_ ⟨⟨hz, hO⟩, Only.refl _ _, rfl⟩
      go_simp
    case op13 =>
      intro ev w1 hT1 hc hf hfr hG
      rw [if_pos (by decide)]
      obtain ⟨hz, hO⟩ := hT1
      have hg : (ev (.tmp 30) = .string s) ∧ True := hG
      obtain ⟨g12, _⟩ := hg
      clear hG hfr
      refine OpSays.value (v := .string (s.extract 10 14)) (w' := w1) ?_ ⟨⟨hz, hO⟩, Only.refl _ _, rfl⟩
      go_simp; intro h; exfalso; omega
    case op14 =>
      intro ev w1 hT1 hc hf hfr hG
      rw [if_pos (by decide)]
      obtain ⟨hz, hO⟩ := hT1
      have hg : (ev (.tmp 31) = .string (s.extract 10 14)) ∧ True := hG
      obtain ⟨g13, _⟩ := hg
      clear hG hfr
      refine OpSays.enter (f := 44) (args := #[.string (s.extract 10 14)]) (w' := w1) ?_ ?_
      · go_simp
      · refine (rnum s 10 14 w1 (by omega) (by omega)).mono ?_
        rintro e' w2 ⟨rfl, hk⟩
        exact ⟨_, rfl, ⟨hk.at hz (fun h => h), hO.then hk (fun _ _ h => h)⟩, hk, rfl⟩
    case op15 =>
      intro ev w1 hT1 hc hf hfr hG
      rw [if_pos (by decide)]
      obtain ⟨hz, hO⟩ := hT1
      have h0 : ev (.tmp 0) = .string s := hfr 0 (by decide)
      clear hG hfr
      refine OpSays.value (v := .string s) (w' := w1) ?_ ⟨⟨hz, hO⟩, Only.refl _ _, rfl⟩
      go_simp
    case op16 =>
      intro ev w1 hT1 hc hf hfr hG
      rw [if_pos (by decide)]
      obtain ⟨hz, hO⟩ := hT1
      have h0 : ev (.tmp 0) = .string s := hfr 0 (by decide)
      clear hG hfr
      refine OpSays.value (v := .string s) (w' := w1) ?_ ⟨⟨hz, hO⟩, Only.refl _ _, rfl⟩
      go_simp
    case op17 =>
      intro ev w1 hT1 hc hf hfr hG
      rw [if_pos (by decide)]
      obtain ⟨hz, hO⟩ := hT1
      have hg : (ev (.tmp 34) = .string s) ∧ True := hG
      obtain ⟨g16, _⟩ := hg
      clear hG hfr
      refine OpSays.value (v := .int .i64 (s.size)) (w' := w1) ?_ ⟨⟨hz, hO⟩, Only.refl _ _, rfl⟩
      go_simp
    case op18 =>
      intro ev w1 hT1 hc hf hfr hG
      rw [if_pos (by decide)]
      obtain ⟨hz, hO⟩ := hT1
      have hg : (ev (.tmp 35) = .int .i64 (s.size)) ∧ True := hG
      obtain ⟨g17, _⟩ := hg
      clear hG hfr
      refine OpSays.value (v := .int .i64 ((s.size : Int) - 4)) (w' := w1) ?_ ⟨⟨hz, hO⟩, Only.refl _ _, rfl⟩
      go_simp; rw [IntKind.wrap_i64]; omega
    case op19 =>
      intro ev w1 hT1 hc hf hfr hG
      rw [if_pos (by decide)]
      obtain ⟨hz, hO⟩ := hT1
      have hg : (ev (.tmp 33) = .string s) ∧ (ev (.tmp 36) = .int .i64 ((s.size : Int) - 4)) ∧ True := hG
      obtain ⟨g15, g18, _⟩ := hg
      clear hG hfr
      have hx : ((s.size : Int) - 4).toNat = s.size - 4 := by omega
      refine OpSays.value (v := .string (s.extract 16 (s.size - 4))) (w' := w1) ?_ ⟨⟨hz, hO⟩, Only.refl _ _, rfl⟩
      go_simp; rw [if_pos (by omega), if_pos (by omega)]
    case op20 =>
      intro ev w1 hT1 hc hf hfr hG
      rw [if_pos (by decide)]
      obtain ⟨hz, hO⟩ := hT1
      have hg : (ev (.tmp 20) = .int .i64 (numAt s 0 1)) ∧ (ev (.tmp 23) = .int .i64 (numAt s 1 4)) ∧ (ev (.tmp 26) = .int .i64 (numAt s 5 1)) ∧ (ev (.tmp 29) = .int .i64 (numAt s 6 4)) ∧ (ev (.tmp 32) = .int .i64 (numAt s 10 4)) ∧ (ev (.tmp 37) = .string (s.extract 16 (s.size - 4))) ∧ True := hG
      obtain ⟨g2, g5, g8, g11, g14, g19, _⟩ := hg
      clear hG hfr
      refine OpSays.value (v := .agg #[.int .i64 (numAt s 0 1), .int .i64 (numAt s 1 4), .int .i64 (numAt s 5 1), .int .i64 (numAt s 6 4), .int .i64 (numAt s 10 4), .string (s.extract 16 (s.size - 4))]) (w' := w1) ?_ ⟨⟨hz, hO⟩, Only.refl _ _, rfl⟩
      go_simp
    case op21 =>
      intro ev w1 hT1 hc hf hfr hG
      rw [if_pos (by decide)]
      obtain ⟨hz, hO⟩ := hT1
      clear hG hfr
      refine OpSays.value (v := .pointer (some ⟨w1.heap.size, 0, none⟩)) (w' := w1.alloc (.cells #[.int .i64 0, .int .i64 0, .int .i64 0, .int .i64 0, .int .i64 0, .string ⟨#[]⟩] 23)) ?_ ?_
      · go_simp
      · have hk := (Only.refl (fun _ => False) w1).alloc (.cells #[.int .i64 0, .int .i64 0, .int .i64 0, .int .i64 0, .int .i64 0, .string ⟨#[]⟩] 23)
        exact ⟨⟨hk.at hz (fun h => h), hO.then hk (fun _ _ h => h)⟩, hk, w1.heap.size, rfl, heap_lt hz, blk_new w1 _⟩
  rintro ⟨tm, df⟩ w3 ⟨hz3, hO3⟩ hsz hdf hfr hG
  have k0 : tm.getD 0 undef = .string s := hfr 0 (by decide)
  have k2 : tm.getD 2 undef = .pointer (some ⟨z, 0, none⟩) := hfr 2 (by decide)
  have k3 : tm.getD 3 undef = .int .i64 0 := hfr 3 (by decide)
  have k38 : tm.getD 38 undef = .agg #[.int .i64 (numAt s 0 1), .int .i64 (numAt s 1 4), .int .i64 (numAt s 5 1), .int .i64 (numAt s 6 4), .int .i64 (numAt s 10 4), .string (s.extract 16 (s.size - 4))] := AllG.get hG 20 (by decide)
  have he : tm = #[tm.getD 0 undef, tm.getD 1 undef, tm.getD 2 undef, tm.getD 3 undef, tm.getD 4 undef, tm.getD 5 undef, tm.getD 6 undef, tm.getD 7 undef, tm.getD 8 undef, tm.getD 9 undef, tm.getD 10 undef, tm.getD 11 undef, tm.getD 12 undef, tm.getD 13 undef, tm.getD 14 undef, tm.getD 15 undef, tm.getD 16 undef, tm.getD 17 undef, tm.getD 18 undef, tm.getD 19 undef, tm.getD 20 undef, tm.getD 21 undef, tm.getD 22 undef, tm.getD 23 undef, tm.getD 24 undef, tm.getD 25 undef, tm.getD 26 undef, tm.getD 27 undef, tm.getD 28 undef, tm.getD 29 undef, tm.getD 30 undef, tm.getD 31 undef, tm.getD 32 undef, tm.getD 33 undef, tm.getD 34 undef, tm.getD 35 undef, tm.getD 36 undef, tm.getD 37 undef, tm.getD 38 undef, tm.getD 39 undef, tm.getD 40 undef, tm.getD 41 undef, tm.getD 42 undef, tm.getD 43 undef, tm.getD 44 undef, tm.getD 45 undef, tm.getD 46 undef, tm.getD 47 undef, tm.getD 48 undef, tm.getD 49 undef] := arr_eta (n := 50) hsz
  replace hdf : df = [] := hdf
  subst hdf
  obtain ⟨g, hg4, hgN, hgx⟩ : ∃ g, tm.getD 4 undef = .pointer (some ⟨g, 0, none⟩) ∧ _ := AllG.get hG 21 (by decide)
  clear hsz hfr hG
  rw [he, hg4, k0, k2, k3, k38]
  clear he hg4 k0 k2 k3 k38
  generalize tm.getD 1 undef = x1
  generalize tm.getD 5 undef = x5
  generalize tm.getD 6 undef = x6
  generalize tm.getD 7 undef = x7
  generalize tm.getD 8 undef = x8
  generalize tm.getD 9 undef = x9
  generalize tm.getD 10 undef = x10
  generalize tm.getD 11 undef = x11
  generalize tm.getD 12 undef = x12
  generalize tm.getD 13 undef = x13
  generalize tm.getD 14 undef = x14
  generalize tm.getD 15 undef = x15
  generalize tm.getD 16 undef = x16
  generalize tm.getD 17 undef = x17
  generalize tm.getD 18 undef = x18
  generalize tm.getD 19 undef = x19
  generalize tm.getD 20 undef = x20
  generalize tm.getD 21 undef = x21
  generalize tm.getD 22 undef = x22
  generalize tm.getD 23 undef = x23
  generalize tm.getD 24 undef = x24
  generalize tm.getD 25 undef = x25
  generalize tm.getD 26 undef = x26
  generalize tm.getD 27 undef = x27
  generalize tm.getD 28 undef = x28
  generalize tm.getD 29 undef = x29
  generalize tm.getD 30 undef = x30
  generalize tm.getD 31 undef = x31
  generalize tm.getD 32 undef = x32
  generalize tm.getD 33 undef = x33
  generalize tm.getD 34 undef = x34
  generalize tm.getD 35 undef = x35
  generalize tm.getD 36 undef = x36
  generalize tm.getD 37 undef = x37
  generalize tm.getD 39 undef = x39
  generalize tm.getD 40 undef = x40
  generalize tm.getD 41 undef = x41
  generalize tm.getD 42 undef = x42
  generalize tm.getD 43 undef = x43
  generalize tm.getD 44 undef = x44
  generalize tm.getD 45 undef = x45
  generalize tm.getD 46 undef = x46
  generalize tm.getD 47 undef = x47
  generalize tm.getD 48 undef = x48
  generalize tm.getD 49 undef = x49
  have q0 := blk_cell hgx 0
  have q1 := blk_cell hgx 1
  have q2 := blk_cell hgx 2
  have q3 := blk_cell hgx 3
  have q4 := blk_cell hgx 4
  have q5 := blk_cell hgx 5
  have qf := blk_free hgx
  simp only [List.getElem?_toArray, List.getElem?_cons_zero, List.getElem?_cons_succ] at q0 q1 q2 q3 q4 q5
  clear hz hO hk2
  generalize hk0 : numAt s 0 1 = k at *
  generalize he0 : numAt s 1 4 = e at *
  generalize hr0 : numAt s 5 1 = r at *
  generalize hn0 : numAt s 6 4 = n at *
  generalize ha0 : numAt s 10 4 = a at *
  generalize hd0 : s.extract 16 (s.size - 4) = d at *
  have HL := Lib.hid hL
  have HKK := Lib.hid (show numAt s 0 1 = k ∧ numAt s 1 4 = e ∧ numAt s 5 1 = r ∧ numAt s 6 4 = n ∧ numAt s 10 4 = a ∧ s.extract 16 (s.size - 4) = d from ⟨hk0, he0, hr0, hn0, ha0, hd0⟩)
  clear hk0 he0 hr0 hn0 ha0 hd0 hL
  go_wp2_with fail
  have hx := set6 hgx (.int .i64 k) (.int .i64 e) (.int .i64 r) (.int .i64 n) (.int .i64 a) (.string d)
  have hO4 : Only (fun _ => False) w (set6w w3 g (.int .i64 k) (.int .i64 e) (.int .i64 r) (.int .i64 n) (.int .i64 a) (.string d)) := set6_only hO3 (fun h => by omega) _ _ _ _ _ _
  have hO34 : Only (fun k => k = g) w3 (set6w w3 g (.int .i64 k) (.int .i64 e) (.int .i64 r) (.int .i64 n) (.int .i64 a) (.string d)) := set6_only (S := fun k => k = g) (Only.refl _ w3) (fun _ => rfl) _ _ _ _ _ _
  have hz := hO34.at hz3 (by show ¬ z = g; omega)
  change Calls _ _ _ (set6w w3 g (.int .i64 k) (.int .i64 e) (.int .i64 r) (.int .i64 n) (.int .i64 a) (.string d)) _
  generalize set6w w3 g (.int .i64 k) (.int .i64 e) (.int .i64 r) (.int .i64 n) (.int .i64 a) (.string d) = w4 at hz hx hO4 ⊢
  clear hO34 hz3 hO3 hgx q0 q1 q2 q3 q4 q5 qf
  refine (rlcheck_any k e r n a d w4).mono ?_
  rintro e2 w5 ⟨rfl, hk5⟩
  replace hz := hk5.at hz (fun h => h)
  replace hx := hk5.at hx (fun h => h)
  have hO5 := hO4.then hk5 (fun _ _ h => h)
  clear hk5 hO4
  have hlc : lcode k e r n a d = 0 := by unfold lcode; rw [HL.out]; rfl
  rw [hlc]
  clear hlc
  have y0 := blk_cell hx 0
  have y1 := blk_cell hx 1
  have y2 := blk_cell hx 2
  have y3 := blk_cell hx 3
  have y4 := blk_cell hx 4
  have y5 := blk_cell hx 5
  simp only [List.getElem?_toArray, List.getElem?_cons_zero, List.getElem?_cons_succ] at y0 y1 y2 y3 y4 y5
  go_wp2_with fail
  refine (rletter_any k e r n a d w5 HL.out).mono ?_
  rintro e2 w6 ⟨rfl, hk6⟩
  replace hz := hk6.at hz (fun h => h)
  replace hx := hk6.at hx (fun h => h)
  have hO6 := hO5.then hk6 (fun _ _ h => h)
  clear hk6 hO5 y0 y1 y2 y3 y4 y5
  have y0 := blk_cell hx 0
  have y1 := blk_cell hx 1
  have y2 := blk_cell hx 2
  have y3 := blk_cell hx 3
  have y4 := blk_cell hx 4
  have y5 := blk_cell hx 5
  simp only [List.getElem?_toArray, List.getElem?_cons_zero, List.getElem?_cons_succ] at y0 y1 y2 y3 y4 y5
  have q0 := blk_cell hz 0
  have q1 := blk_cell hz 1
  have q2 := blk_cell hz 2
  have q3 := blk_cell hz 3
  have q4 := blk_cell hz 4
  have q5 := blk_cell hz 5
  have qf := blk_free hz
  simp only [List.getElem?_toArray, List.getElem?_cons_zero, List.getElem?_cons_succ] at q0 q1 q2 q3 q4 q5
  go_wp2_with fail
  have hs := set6 hz (.int .i64 k) (.int .i64 e) (.int .i64 r) (.int .i64 n) (.int .i64 a) (.string d)
  have hOO : Only (fun _ => False) w (set6w w6 z (.int .i64 k) (.int .i64 e) (.int .i64 r) (.int .i64 n) (.int .i64 a) (.string d)) := set6_only hO6 (fun h => by omega) _ _ _ _ _ _
  change bodyPost _ _ _ _ _ (set6w w6 z (.int .i64 k) (.int .i64 e) (.int .i64 r) (.int .i64 n) (.int .i64 a) (.string d))
  generalize set6w w6 z (.int .i64 k) (.int .i64 e) (.int .i64 r) (.int .i64 n) (.int .i64 a) (.string d) = wz at hs hOO ⊢
  have v0 := blk_cell hs 0
  have v1 := blk_cell hs 1
  have v2 := blk_cell hs 2
  have v3 := blk_cell hs 3
  have v4 := blk_cell hs 4
  have v5 := blk_cell hs 5
  simp only [List.getElem?_toArray, List.getElem?_cons_zero, List.getElem?_cons_succ] at v0 v1 v2 v3 v4 v5
  clear hs q0 q1 q2 q3 q4 q5 qf
  refine bodyPost_ret (v := .tuple #[.agg #[.int .i64 k, .int .i64 e, .int .i64 r, .int .i64 n, .int .i64 a, .string d], .int .i64 0]) (by simp [results, Try.results14, go_sem, v0, v1, v2, v3, v4, v5]) rfl ⟨by obtain ⟨r0, r1, r2, r3, r4, r5⟩ := HKK.out; rw [r0, r1, r2, r3, r4, r5], hOO⟩
end Go.Proofs.Yteifehienpeaiaa

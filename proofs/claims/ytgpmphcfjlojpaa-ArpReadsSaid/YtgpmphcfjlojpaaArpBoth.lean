/-
  The walks of the laws ArpReads and ArpWrites: parts they share.
  Conditions: strings within the form's reach.
-/
import Derived.Test.YtgpmphcfjlojpaaArpRefDec
import Derived.Test.YtgpmphcfjlojpaaArpRefBad
import Derived.Test.YtgpmphcfjlojpaaArpDecode
import Derived.BigQuiet
set_option linter.unusedVariables false
set_option linter.unusedSimpArgs false
namespace Go.Proofs.Ytgpmphcfjlojpaa
open Go.RowKit

set_option maxHeartbeats 1000000
theorem rdecode_short (s : ByteArray) (w : World) (h : s.size < 28) :
    Calls Try.prog 23 #[.string s] w fun e w' => e = .returned (.tuple #[.agg #[.int .i64 0, .int .i64 0, .int .i64 0, .int .i64 0, .int .i64 0], .int .i64 40]) ∧ Only (fun _ => False) w w' := by
  have d1 : decide ((s.size : Int) < 28) = true := decide_eq_true (by omega)
  have s28 : (s.size : Int) < 28 := by omega
  clear h
  go_enter Try.func23, Try.ntmps23
  go_wp2_with fail
  have hO : Only (fun _ => False) w (w.alloc (.cells #[.int .i64 0, .int .i64 0, .int .i64 0, .int .i64 0, .int .i64 0] 23)) := (Only.refl _ _).alloc _
  go_quiet (fail)
  have hz : ((w.alloc (.cells #[.int .i64 0, .int .i64 0, .int .i64 0, .int .i64 0, .int .i64 0] 23)).drewN nq).heap[w.heap.size]? = some (.cells #[.int .i64 0, .int .i64 0, .int .i64 0, .int .i64 0, .int .i64 0] 23) := blk_new _ _
  replace hO := hO.drewN nq
  generalize (w.alloc (.cells #[.int .i64 0, .int .i64 0, .int .i64 0, .int .i64 0, .int .i64 0] 23)).drewN nq = w1 at *
  have z0 := blk_cell hz 0
  have q0 := blk_free hz 0
  have z1 := blk_cell hz 1
  have q1 := blk_free hz 1
  have z2 := blk_cell hz 2
  have q2 := blk_free hz 2
  have z3 := blk_cell hz 3
  have q3 := blk_free hz 3
  have z4 := blk_cell hz 4
  have q4 := blk_free hz 4
  simp only [List.getElem?_toArray, List.getElem?_cons_zero, List.getElem?_cons_succ] at z0 z1 z2 z3 z4
  go_wp2_with fail
  have hs := (blk_set (blk_set (blk_set (blk_set (blk_set hz 0 (.int .i64 0)) 1 (.int .i64 0)) 2 (.int .i64 0)) 3 (.int .i64 0)) 4 (.int .i64 0))
  replace hO := (((((hO.setCell ⟨w.heap.size, 0, none⟩ (.int .i64 0) (by simp)).setCell ⟨w.heap.size, 1, none⟩ (.int .i64 0) (by simp)).setCell ⟨w.heap.size, 2, none⟩ (.int .i64 0) (by simp)).setCell ⟨w.heap.size, 3, none⟩ (.int .i64 0) (by simp)).setCell ⟨w.heap.size, 4, none⟩ (.int .i64 0) (by simp))
  generalize (World.setCell (World.setCell (World.setCell (World.setCell (World.setCell w1 ⟨w.heap.size, 0, none⟩ (.int .i64 0)) ⟨w.heap.size, 1, none⟩ (.int .i64 0)) ⟨w.heap.size, 2, none⟩ (.int .i64 0)) ⟨w.heap.size, 3, none⟩ (.int .i64 0)) ⟨w.heap.size, 4, none⟩ (.int .i64 0)) = wz at hs hO ⊢
  have e0 := blk_cell hs 0
  have e1 := blk_cell hs 1
  have e2 := blk_cell hs 2
  have e3 := blk_cell hs 3
  have e4 := blk_cell hs 4
  simp only [List.setIfInBounds_toArray, List.set_cons_zero, List.set_cons_succ, List.getElem?_toArray, List.getElem?_cons_zero, List.getElem?_cons_succ] at e0 e1 e2 e3 e4
  clear hs
  refine bodyPost_ret (v := .tuple #[.agg #[.int .i64 0, .int .i64 0, .int .i64 0, .int .i64 0, .int .i64 0], .int .i64 40]) (by simp [results, Try.results23, go_sem, e0, e1, e2, e3, e4]) rfl ⟨rfl, hO⟩

theorem rdecode_long (s : ByteArray) (w : World) (h : 46 < s.size) :
    Calls Try.prog 23 #[.string s] w fun e w' => e = .returned (.tuple #[.agg #[.int .i64 0, .int .i64 0, .int .i64 0, .int .i64 0, .int .i64 0], .int .i64 40]) ∧ Only (fun _ => False) w w' := by
  have d1 : decide ((s.size : Int) < 28) = false := decide_eq_false (by omega)
  have d2 : decide (46 < (s.size : Int)) = true := decide_eq_true (by omega)
  have s28 : (28 : Int) ≤ s.size := by omega
  have s46 : (46 : Int) < s.size := by omega
  clear h
  go_enter Try.func23, Try.ntmps23
  go_wp2_with fail
  have hO : Only (fun _ => False) w (w.alloc (.cells #[.int .i64 0, .int .i64 0, .int .i64 0, .int .i64 0, .int .i64 0] 23)) := (Only.refl _ _).alloc _
  go_quiet (fail)
  have hz : ((w.alloc (.cells #[.int .i64 0, .int .i64 0, .int .i64 0, .int .i64 0, .int .i64 0] 23)).drewN nq).heap[w.heap.size]? = some (.cells #[.int .i64 0, .int .i64 0, .int .i64 0, .int .i64 0, .int .i64 0] 23) := blk_new _ _
  replace hO := hO.drewN nq
  generalize (w.alloc (.cells #[.int .i64 0, .int .i64 0, .int .i64 0, .int .i64 0, .int .i64 0] 23)).drewN nq = w1 at *
  have z0 := blk_cell hz 0
  have q0 := blk_free hz 0
  have z1 := blk_cell hz 1
  have q1 := blk_free hz 1
  have z2 := blk_cell hz 2
  have q2 := blk_free hz 2
  have z3 := blk_cell hz 3
  have q3 := blk_free hz 3
  have z4 := blk_cell hz 4
  have q4 := blk_free hz 4
  simp only [List.getElem?_toArray, List.getElem?_cons_zero, List.getElem?_cons_succ] at z0 z1 z2 z3 z4
  go_wp2_with fail
  have hs := (blk_set (blk_set (blk_set (blk_set (blk_set hz 0 (.int .i64 0)) 1 (.int .i64 0)) 2 (.int .i64 0)) 3 (.int .i64 0)) 4 (.int .i64 0))
  replace hO := (((((hO.setCell ⟨w.heap.size, 0, none⟩ (.int .i64 0) (by simp)).setCell ⟨w.heap.size, 1, none⟩ (.int .i64 0) (by simp)).setCell ⟨w.heap.size, 2, none⟩ (.int .i64 0) (by simp)).setCell ⟨w.heap.size, 3, none⟩ (.int .i64 0) (by simp)).setCell ⟨w.heap.size, 4, none⟩ (.int .i64 0) (by simp))
  generalize (World.setCell (World.setCell (World.setCell (World.setCell (World.setCell w1 ⟨w.heap.size, 0, none⟩ (.int .i64 0)) ⟨w.heap.size, 1, none⟩ (.int .i64 0)) ⟨w.heap.size, 2, none⟩ (.int .i64 0)) ⟨w.heap.size, 3, none⟩ (.int .i64 0)) ⟨w.heap.size, 4, none⟩ (.int .i64 0)) = wz at hs hO ⊢
  have e0 := blk_cell hs 0
  have e1 := blk_cell hs 1
  have e2 := blk_cell hs 2
  have e3 := blk_cell hs 3
  have e4 := blk_cell hs 4
  simp only [List.setIfInBounds_toArray, List.set_cons_zero, List.set_cons_succ, List.getElem?_toArray, List.getElem?_cons_zero, List.getElem?_cons_succ] at e0 e1 e2 e3 e4
  clear hs
  refine bodyPost_ret (v := .tuple #[.agg #[.int .i64 0, .int .i64 0, .int .i64 0, .int .i64 0, .int .i64 0], .int .i64 40]) (by simp [results, Try.results23, go_sem, e0, e1, e2, e3, e4]) rfl ⟨rfl, hO⟩

theorem rdecode_head (s : ByteArray) (w : World) (h0 : 28 ≤ s.size) (h1 : s.size ≤ 46) (hp : s.extract 0 6 ≠ ⟨#[0, 1, 8, 0, 6, 4]⟩) :
    Calls Try.prog 23 #[.string s] w fun e w' => e = .returned (.tuple #[.agg #[.int .i64 0, .int .i64 0, .int .i64 0, .int .i64 0, .int .i64 0], .int .i64 40]) ∧ Only (fun _ => False) w w' := by
  have hp' : ((s.extract 0 6).toList == [0, 1, 8, 0, 6, 4]) = false := by
    rw [beq_eq_false_iff_ne]
    intro e
    exact hp (ByteArray.ext (Array.toList_inj.1 (by simpa [ByteArray.toList_eq] using e)))
  have d1 : decide ((s.size : Int) < 28) = false := decide_eq_false (by omega)
  have d2 : decide (46 < (s.size : Int)) = false := decide_eq_false (by omega)
  have s28 : (28 : Int) ≤ s.size := by omega
  have s46 : (s.size : Int) ≤ 46 := by omega
  have s6 : (6 : Int) ≤ (s.size : Int) := by omega
  clear hp
  go_enter Try.func23, Try.ntmps23
  go_wp2_with fail
  have hO : Only (fun _ => False) w (w.alloc (.cells #[.int .i64 0, .int .i64 0, .int .i64 0, .int .i64 0, .int .i64 0] 23)) := (Only.refl _ _).alloc _
  go_region_held3 (fun w' => Only (fun _ => False) w w')
    (first | exact hO | exact hO.drew | assumption)
    (first | (go_at_call 36; refine (rhead _).mono ?_; rintro e _ ⟨rfl, rfl⟩))
  go_wp2_with fail
  refine bodyPost_ret (v := .tuple #[.agg #[.int .i64 0, .int .i64 0, .int .i64 0, .int .i64 0, .int .i64 0], .int .i64 40]) (by simp [results, Try.results23, go_sem]) rfl ⟨rfl, ?_⟩
  repeat (first | exact hO | exact hO.drew | exact Only.refl _ _ | apply Only.alloc | refine Only.setCell ?_ _ _ (by simp))

theorem rdecode_fits (s : ByteArray) (w : World) (h0 : 28 ≤ s.size) (h1 : s.size ≤ 46) (hp : s.extract 0 6 = ⟨#[0, 1, 8, 0, 6, 4]⟩) :
    Calls Try.prog 23 #[.string s] w fun e w' => e = .returned (.tuple #[.agg #[.int .i64 (amade (numAt s 6 2) (numAt s 8 6) (numAt s 14 4) (numAt s 18 6) (numAt s 24 4)).op, .int .i64 (amade (numAt s 6 2) (numAt s 8 6) (numAt s 14 4) (numAt s 18 6) (numAt s 24 4)).fm, .int .i64 (amade (numAt s 6 2) (numAt s 8 6) (numAt s 14 4) (numAt s 18 6) (numAt s 24 4)).fi, .int .i64 (amade (numAt s 6 2) (numAt s 8 6) (numAt s 14 4) (numAt s 18 6) (numAt s 24 4)).tm, .int .i64 (amade (numAt s 6 2) (numAt s 8 6) (numAt s 14 4) (numAt s 18 6) (numAt s 24 4)).ti], .int .i64 (arC (numAt s 6 2) (numAt s 8 6) (numAt s 14 4) (numAt s 18 6) (numAt s 24 4))]) ∧ Only (fun _ => False) w w' := by
  by_cases h : ArpOk (numAt s 6 2) (numAt s 8 6) (numAt s 14 4) (numAt s 18 6) (numAt s 24 4)
  · rw [show amade (numAt s 6 2) (numAt s 8 6) (numAt s 14 4) (numAt s 18 6) (numAt s 24 4) = ⟨_, _, _, _, _⟩ from if_pos h, show arC (numAt s 6 2) (numAt s 8 6) (numAt s 14 4) (numAt s 18 6) (numAt s 24 4) = 0 from if_pos h]; exact rdecode_ok s w h0 h1 hp h
  · rw [show amade (numAt s 6 2) (numAt s 8 6) (numAt s 14 4) (numAt s 18 6) (numAt s 24 4) = ⟨0, 0, 0, 0, 0⟩ from if_neg h, show arC (numAt s 6 2) (numAt s 8 6) (numAt s 14 4) (numAt s 18 6) (numAt s 24 4) = 40 from if_neg h]; exact rdecode_bad s w h0 h1 hp h

theorem decode_both (s : ByteArray) : ∃ a0 a1 a2 a3 a4 c : Int, (∀ w, Calls Try.prog 22 #[.string s] w fun e w' => e = .returned (.tuple #[.agg #[.int .i64 a0, .int .i64 a1, .int .i64 a2, .int .i64 a3, .int .i64 a4], .int .i64 c]) ∧ Only (fun _ => False) w w') ∧ (∀ w, Calls Try.prog 23 #[.string s] w fun e w' => e = .returned (.tuple #[.agg #[.int .i64 a0, .int .i64 a1, .int .i64 a2, .int .i64 a3, .int .i64 a4], .int .i64 c]) ∧ Only (fun _ => False) w w') := by
  by_cases h0 : 28 ≤ s.size
  · by_cases h1 : s.size ≤ 46
    · by_cases hp : s.extract 0 6 = ⟨#[0, 1, 8, 0, 6, 4]⟩
      · exact ⟨_, _, _, _, _, _, fun w => adecode_ok s w h0 h1 hp, fun w => rdecode_fits s w h0 h1 hp⟩
      · exact ⟨_, _, _, _, _, _, fun w => adecode_head s w h0 h1 hp, fun w => rdecode_head s w h0 h1 hp⟩
    · exact ⟨_, _, _, _, _, _, fun w => adecode_size s w (Or.inr (by omega)), fun w => rdecode_long s w (by omega)⟩
  · exact ⟨_, _, _, _, _, _, fun w => adecode_size s w (Or.inl (by omega)), fun w => rdecode_short s w (by omega)⟩

end Go.Proofs.Ytgpmphcfjlojpaa

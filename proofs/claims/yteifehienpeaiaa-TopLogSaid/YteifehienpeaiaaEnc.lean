/-
  Encode, by the code and by the reference.
  Conditions: texts of at most 2^40 bytes.
-/
import Derived.Test.YteifehienpeaiaaRefText
set_option linter.unusedVariables false
set_option linter.unusedSimpArgs false
set_option maxRecDepth 100000
namespace Go.Proofs.Yteifehienpeaiaa
open Go.RowKit

/-- What Encode tells. -/
def encB (k e r n a : Int) (d : ByteArray) : ByteArray := if letterB k e r n a d = true then letBytes k e r n a d else ⟨#[]⟩

theorem encode_any (k e r n a : Int) (d : ByteArray) (w : World) : Calls Try.prog 11 #[.agg #[.int .i64 k, .int .i64 e, .int .i64 r, .int .i64 n, .int .i64 a, .string d]] w fun e' w' => e' = .returned (.tuple #[.string (encB k e r n a d), .int .i64 (lcode k e r n a d)]) ∧ Only (fun _ => False) w w' := by
  have hO := (Only.refl (fun _ => False) w).alloc (.cells #[.int .i64 k, .int .i64 e, .int .i64 r, .int .i64 n, .int .i64 a, .string d] 23)
  have hz := blk_new w (.cells #[.int .i64 k, .int .i64 e, .int .i64 r, .int .i64 n, .int .i64 a, .string d] 23)
  have z0 := blk_cell hz 0
  have z1 := blk_cell hz 1
  have z2 := blk_cell hz 2
  have z3 := blk_cell hz 3
  have z4 := blk_cell hz 4
  have z5 := blk_cell hz 5
  simp only [List.getElem?_toArray, List.getElem?_cons_zero, List.getElem?_cons_succ] at z0 z1 z2 z3 z4 z5
  clear hz
  cases hL : letterB k e r n a d with
  | false =>
    have hE := Lib.hid (show encB k e r n a d = ⟨#[]⟩ from by unfold encB; rw [hL]; rfl)
    have hC : lcode k e r n a d = 240 := by unfold lcode; rw [hL]; rfl
    have hCC := Lib.hid hC
    clear hL hC
    go_enter Try.func11, Try.ntmps11
    go_wp2_with fail
    generalize w.alloc (.cells #[.int .i64 k, .int .i64 e, .int .i64 r, .int .i64 n, .int .i64 a, .string d] 23) = wa at hO z0 z1 z2 z3 z4 z5 ⊢
    generalize w.heap.size = p at z0 z1 z2 z3 z4 z5 ⊢
    refine (lcheck_any k e r n a d _).mono ?_
    rintro e' w1 ⟨rfl, hk⟩
    replace z0 := cell_only hk (fun h => h) z0
    replace z1 := cell_only hk (fun h => h) z1
    replace z2 := cell_only hk (fun h => h) z2
    replace z3 := cell_only hk (fun h => h) z3
    replace z4 := cell_only hk (fun h => h) z4
    replace z5 := cell_only hk (fun h => h) z5
    replace hO := hO.then hk (fun _ _ h => h)
    rw [hCC.out]
    go_wp2_with fail
    go_ret2
    exact ⟨by rw [hE.out, hCC.out]; rfl, hO⟩
  | true =>
    have hE := Lib.hid (show encB k e r n a d = letBytes k e r n a d from by unfold encB; rw [hL]; rfl)
    have hC : lcode k e r n a d = 0 := by unfold lcode; rw [hL]; rfl
    have hCC := Lib.hid hC
    have hLL := Lib.hid hL
    clear hL hC
    go_enter Try.func11, Try.ntmps11
    go_wp2_with fail
    generalize w.alloc (.cells #[.int .i64 k, .int .i64 e, .int .i64 r, .int .i64 n, .int .i64 a, .string d] 23) = wa at hO z0 z1 z2 z3 z4 z5 ⊢
    generalize w.heap.size = p at z0 z1 z2 z3 z4 z5 ⊢
    refine (lcheck_any k e r n a d _).mono ?_
    rintro e' w1 ⟨rfl, hk⟩
    replace z0 := cell_only hk (fun h => h) z0
    replace z1 := cell_only hk (fun h => h) z1
    replace z2 := cell_only hk (fun h => h) z2
    replace z3 := cell_only hk (fun h => h) z3
    replace z4 := cell_only hk (fun h => h) z4
    replace z5 := cell_only hk (fun h => h) z5
    replace hO := hO.then hk (fun _ _ h => h)
    rw [hCC.out]
    go_wp2_with fail
    refine (text_any k e r n a d _ hLL.out).mono ?_
    rintro e' w2 ⟨rfl, hk2⟩
    replace hO := hO.then hk2 (fun _ _ h => h)
    go_wp2_with fail
    go_ret2
    exact ⟨by rw [hE.out, hCC.out]; rfl, hO⟩

theorem rencode_any (k e r n a : Int) (d : ByteArray) (w : World) : Calls Try.prog 12 #[.agg #[.int .i64 k, .int .i64 e, .int .i64 r, .int .i64 n, .int .i64 a, .string d]] w fun e' w' => e' = .returned (.tuple #[.string (encB k e r n a d), .int .i64 (lcode k e r n a d)]) ∧ Only (fun _ => False) w w' := by
  have hO := (Only.refl (fun _ => False) w).alloc (.cells #[.int .i64 k, .int .i64 e, .int .i64 r, .int .i64 n, .int .i64 a, .string d] 23)
  have hz := blk_new w (.cells #[.int .i64 k, .int .i64 e, .int .i64 r, .int .i64 n, .int .i64 a, .string d] 23)
  have z0 := blk_cell hz 0
  have z1 := blk_cell hz 1
  have z2 := blk_cell hz 2
  have z3 := blk_cell hz 3
  have z4 := blk_cell hz 4
  have z5 := blk_cell hz 5
  simp only [List.getElem?_toArray, List.getElem?_cons_zero, List.getElem?_cons_succ] at z0 z1 z2 z3 z4 z5
  clear hz
  cases hL : letterB k e r n a d with
  | false =>
    have hE := Lib.hid (show encB k e r n a d = ⟨#[]⟩ from by unfold encB; rw [hL]; rfl)
    have hC : lcode k e r n a d = 240 := by unfold lcode; rw [hL]; rfl
    have hCC := Lib.hid hC
    clear hL hC
    go_enter Try.func12, Try.ntmps12
    go_wp2_with fail
    generalize w.alloc (.cells #[.int .i64 k, .int .i64 e, .int .i64 r, .int .i64 n, .int .i64 a, .string d] 23) = wa at hO z0 z1 z2 z3 z4 z5 ⊢
    generalize w.heap.size = p at z0 z1 z2 z3 z4 z5 ⊢
    refine (rlcheck_any k e r n a d _).mono ?_
    rintro e' w1 ⟨rfl, hk⟩
    replace z0 := cell_only hk (fun h => h) z0
    replace z1 := cell_only hk (fun h => h) z1
    replace z2 := cell_only hk (fun h => h) z2
    replace z3 := cell_only hk (fun h => h) z3
    replace z4 := cell_only hk (fun h => h) z4
    replace z5 := cell_only hk (fun h => h) z5
    replace hO := hO.then hk (fun _ _ h => h)
    rw [hCC.out]
    go_wp2_with fail
    go_ret2
    exact ⟨by rw [hE.out, hCC.out]; rfl, hO⟩
  | true =>
    have hE := Lib.hid (show encB k e r n a d = letBytes k e r n a d from by unfold encB; rw [hL]; rfl)
    have hC : lcode k e r n a d = 0 := by unfold lcode; rw [hL]; rfl
    have hCC := Lib.hid hC
    have hLL := Lib.hid hL
    clear hL hC
    go_enter Try.func12, Try.ntmps12
    go_wp2_with fail
    generalize w.alloc (.cells #[.int .i64 k, .int .i64 e, .int .i64 r, .int .i64 n, .int .i64 a, .string d] 23) = wa at hO z0 z1 z2 z3 z4 z5 ⊢
    generalize w.heap.size = p at z0 z1 z2 z3 z4 z5 ⊢
    refine (rlcheck_any k e r n a d _).mono ?_
    rintro e' w1 ⟨rfl, hk⟩
    replace z0 := cell_only hk (fun h => h) z0
    replace z1 := cell_only hk (fun h => h) z1
    replace z2 := cell_only hk (fun h => h) z2
    replace z3 := cell_only hk (fun h => h) z3
    replace z4 := cell_only hk (fun h => h) z4
    replace z5 := cell_only hk (fun h => h) z5
    replace hO := hO.then hk (fun _ _ h => h)
    rw [hCC.out]
    go_wp2_with fail
    refine (rletter_any k e r n a d _ hLL.out).mono ?_
    rintro e' w2 ⟨rfl, hk2⟩
    replace hO := hO.then hk2 (fun _ _ h => h)
    go_wp2_with fail
    go_ret2
    exact ⟨by rw [hE.out, hCC.out]; rfl, hO⟩

end Go.Proofs.Yteifehienpeaiaa

/-
  The contracts of ether.Encode and ether.Decode.
  Conditions: strings within the form's reach.
-/
import Derived.Test.YtcopdgaidfchlaaEther
import Derived.Test.YtcopdgaidfchlaaSum
set_option linter.unusedVariables false
set_option linter.unusedSimpArgs false
namespace Go.Proofs.Ytcopdgaidfchlaa
open Go.RowKit

/-- A frame's bytes. -/
def frameText (t f k : Int) (d : ByteArray) : ByteArray := textOf 6 t ++ textOf 6 f ++ textOf 2 k ++ d

set_option maxHeartbeats 1000000 in
theorem eencode_ok (t f k : Int) (d : ByteArray) (w : World) (h : FrameOk t f k d) :
    Calls Try.prog 6 #[.agg #[.int .i64 t, .int .i64 f, .int .i64 k, .string d]] w fun e w' => e = .returned (.tuple #[.string (frameText t f k d), .int .i64 0]) ∧ Only (fun _ => False) w w' := by
  have t0 := h.to.1
  have t1 := h.to.2
  have f0 := h.fr.1
  have f1 := h.fr.2
  have k0 := h.k0
  have k1 := h.k1
  have z1 : (textOf 6 t).size ≤ 6 := by rw [textOf_size]; omega
  have z2 : (textOf 6 f).size ≤ 6 := by rw [textOf_size]; omega
  have z3 : (textOf 2 k).size ≤ 2 := by rw [textOf_size]; omega
  have z4 := h.dd
  have H := Lib.hid h
  clear h
  go_enter Try.func6, Try.ntmps6
  go_wp2_with fail
  refine (echeck_ok t f k d _ H.out).mono ?_
  rintro e w1 ⟨rfl, hk1⟩
  have hb1 := hk1.at (blk_new w _) (fun h => h)
  have hK1 := ((Only.refl (fun _ => False) w).alloc _).then hk1 (fun _ _ h => h)
  have x0 := blk_cell hb1 0
  have x1 := blk_cell hb1 1
  have x2 := blk_cell hb1 2
  have x3 := blk_cell hb1 3
  simp only [List.getElem?_toArray, List.getElem?_cons_zero, List.getElem?_cons_succ] at x0 x1 x2 x3
  go_wp2_with fail
  refine (put6 t _ t0 (by omega)).mono ?_
  rintro e w2 ⟨rfl, hk2⟩
  have hK2 := hK1.trans hk2
  replace x1 := cell_only hk2 (fun h => h) x1
  replace x2 := cell_only hk2 (fun h => h) x2
  replace x3 := cell_only hk2 (fun h => h) x3
  clear hk2 hK1 hb1 hk1 x0
  go_wp2_with fail
  refine (put6 f _ f0 (by omega)).mono ?_
  rintro e w3 ⟨rfl, hk3⟩
  have hK3 := hK2.trans hk3
  replace x2 := cell_only hk3 (fun h => h) x2
  replace x3 := cell_only hk3 (fun h => h) x3
  clear hk3 hK2 x1
  go_wp2_with fail
  refine (put2 k _ (by omega) (by omega)).mono ?_
  rintro e w4 ⟨rfl, hk4⟩
  have hK4 := hK3.trans hk4
  replace x3 := cell_only hk4 (fun h => h) x3
  clear hk4 hK3 x2
  go_wp2_with fail
  go_ret2
  exact ⟨rfl, hK4⟩

theorem eencode_bad (t f k : Int) (d : ByteArray) (w : World) (h : ¬ FrameOk t f k d) :
    Calls Try.prog 6 #[.agg #[.int .i64 t, .int .i64 f, .int .i64 k, .string d]] w fun e w' => e = .returned (.tuple #[.string ⟨#[]⟩, .int .i64 30]) ∧ Only (fun _ => False) w w' := by
  go_enter Try.func6, Try.ntmps6
  go_wp2_with fail
  refine (echeck_bad t f k d _ h).mono ?_
  rintro e w1 ⟨rfl, hk1⟩
  have hK1 := ((Only.refl (fun _ => False) w).alloc _).then hk1 (fun _ _ h => h)
  go_wp2_with fail
  go_ret2
  exact ⟨rfl, hK1⟩

/-- What bytes are as a frame. -/
def frTo (s : ByteArray) : Int := numAt s 0 6
def frFrom (s : ByteArray) : Int := numAt s 6 6
def frType (s : ByteArray) : Int := numAt s 12 2
def frData (s : ByteArray) : ByteArray := s.extract 14 s.size

/-- Are they one? -/
def ReadOk (s : ByteArray) : Prop := 14 ≤ s.size ∧ FrameOk (frTo s) (frFrom s) (frType s) (frData s)

theorem edecode_short (s : ByteArray) (w : World) (h : s.size < 14) :
    Calls Try.prog 15 #[.string s] w fun e w' => e = .returned (.tuple #[.agg #[.int .i64 0, .int .i64 0, .int .i64 0, .string ⟨#[]⟩], .int .i64 30]) ∧ Only (fun _ => False) w w' := by
  go_enter Try.func15, Try.ntmps15
  go_wp2_with fail
  refine bodyPost_ret (v := .tuple #[.agg #[.int .i64 0, .int .i64 0, .int .i64 0, .string ⟨#[]⟩], .int .i64 30]) (by simp [results, Try.results15, go_sem]) rfl ⟨rfl, ?_⟩
  repeat (first | exact Only.refl _ _ | apply Only.alloc | refine Only.setCell ?_ _ _ (by simp))

set_option maxHeartbeats 1000000 in
theorem edecode_ok (s : ByteArray) (w : World) (h : 14 ≤ s.size) (hs : s.size ≤ 140737488355328) (hok : FrameOk (frTo s) (frFrom s) (frType s) (frData s)) :
    Calls Try.prog 15 #[.string s] w fun e w' => e = .returned (.tuple #[.agg #[.int .i64 (frTo s), .int .i64 (frFrom s), .int .i64 (frType s), .string (frData s)], .int .i64 0]) ∧ Only (fun _ => False) w w' := by
  have HOK := Lib.hid hok
  clear hok
  unfold frTo frFrom frType frData at *
  go_enter Try.func15, Try.ntmps15
  go_wp2_with fail
  have hB0 := blk_new2 w (.cells #[.int .i64 0, .int .i64 0, .int .i64 0, .string ⟨#[]⟩] 23) (.cells #[.int .i64 0, .int .i64 0, .int .i64 0, .string (s.extract 14 s.size)] 23)
  have hA0 := blk_alloc (blk_new w (.cells #[.int .i64 0, .int .i64 0, .int .i64 0, .string ⟨#[]⟩] 23)) (.cells #[.int .i64 0, .int .i64 0, .int .i64 0, .string (s.extract 14 s.size)] 23)
  have hK0 : Only (fun _ => False) w ((w.alloc (.cells #[.int .i64 0, .int .i64 0, .int .i64 0, .string ⟨#[]⟩] 23)).alloc (.cells #[.int .i64 0, .int .i64 0, .int .i64 0, .string (s.extract 14 s.size)] 23)) := ((Only.refl _ _).alloc _).alloc _
  refine (get6 s 0 _ (by omega) (by omega) hs).mono ?_
  rintro e w1 ⟨rfl, hk1⟩
  have hA1 := hk1.at hA0 (fun h => h)
  have hB1 := hk1.at hB0 (fun h => h)
  have hK1 := hK0.trans hk1
  clear hk1 hA0 hB0 hK0
  simp only [show (0 : Int).toNat = 0 from rfl]
  have y0 := blk_cell hB1 0
  have y1 := blk_cell hB1 1
  have y2 := blk_cell hB1 2
  have yf := blk_free hB1
  simp only [List.getElem?_toArray, List.getElem?_cons_zero, List.getElem?_cons_succ] at y0 y1 y2
  go_wp2_with fail
  have hA2 := blk_set_other hA1 ⟨w.heap.size + 1, 0, none⟩ (.int .i64 (numAt s 0 6)) (by simp)
  have hB2 := blk_set hB1 0 (.int .i64 (numAt s 0 6))
  have hK2 := hK1.setCell ⟨w.heap.size + 1, 0, none⟩ (.int .i64 (numAt s 0 6)) (by simp)
  clear y0 y1 y2 yf hA1 hB1 hK1
  refine (get6 s 6 _ (by omega) (by omega) hs).mono ?_
  rintro e w2 ⟨rfl, hk2⟩
  have hA3 := hk2.at hA2 (fun h => h)
  have hB3 := hk2.at hB2 (fun h => h)
  have hK3 := hK2.trans hk2
  clear hk2 hA2 hB2 hK2
  simp only [show (6 : Int).toNat = 6 from rfl]
  have y1 := blk_cell hB3 1
  have yf := blk_free hB3
  simp only [List.getElem?_toArray, List.getElem?_cons_zero, List.getElem?_cons_succ, List.setIfInBounds_toArray, List.set_cons_zero, List.set_cons_succ] at y1
  go_wp2_with fail
  have hA4 := blk_set_other hA3 ⟨w.heap.size + 1, 1, none⟩ (.int .i64 (numAt s 6 6)) (by simp)
  have hB4 := blk_set hB3 1 (.int .i64 (numAt s 6 6))
  have hK4 := hK3.setCell ⟨w.heap.size + 1, 1, none⟩ (.int .i64 (numAt s 6 6)) (by simp)
  clear y1 yf hA3 hB3 hK3
  refine (get2 s 12 _ (by omega) (by omega) hs).mono ?_
  rintro e w3 ⟨rfl, hk3⟩
  have hA5 := hk3.at hA4 (fun h => h)
  have hB5 := hk3.at hB4 (fun h => h)
  have hK5 := hK4.trans hk3
  clear hk3 hA4 hB4 hK4
  simp only [show (12 : Int).toNat = 12 from rfl]
  have y0 := blk_cell hB5 0
  have y1 := blk_cell hB5 1
  have y2 := blk_cell hB5 2
  have y3 := blk_cell hB5 3
  have yf := blk_free hB5
  simp only [List.getElem?_toArray, List.getElem?_cons_zero, List.getElem?_cons_succ, List.setIfInBounds_toArray, List.set_cons_zero, List.set_cons_succ] at y0 y1 y2 y3
  go_wp2_with fail
  have hA6 := blk_set_other hA5 ⟨w.heap.size + 1, 2, none⟩ (.int .i64 (numAt s 12 2)) (by simp)
  have hB6 := blk_set hB5 2 (.int .i64 (numAt s 12 2))
  have hK6 := hK5.setCell ⟨w.heap.size + 1, 2, none⟩ (.int .i64 (numAt s 12 2)) (by simp)
  clear y0 y1 y2 y3 yf hA5 hB5 hK5
  refine (echeck_ok _ _ _ _ _ HOK.out).mono ?_
  rintro e w4 ⟨rfl, hk4⟩
  have hA7 := hk4.at hA6 (fun h => h)
  have hB7 := hk4.at hB6 (fun h => h)
  have hK7 := hK6.trans hk4
  clear hk4 hA6 hB6 hK6
  have y0 := blk_cell hB7 0
  have y1 := blk_cell hB7 1
  have y2 := blk_cell hB7 2
  have y3 := blk_cell hB7 3
  have z0 := blk_cell hA7 0
  have z1 := blk_cell hA7 1
  have z2 := blk_cell hA7 2
  have z3 := blk_cell hA7 3
  have zf := blk_free hA7
  simp only [List.getElem?_toArray, List.getElem?_cons_zero, List.getElem?_cons_succ, List.setIfInBounds_toArray, List.set_cons_zero, List.set_cons_succ] at y0 y1 y2 y3 z0 z1 z2 z3
  go_wp2_with fail
  refine bodyPost_ret (v := .tuple #[.agg #[.int .i64 (numAt s 0 6), .int .i64 (numAt s 6 6), .int .i64 (numAt s 12 2), .string (s.extract 14 s.size)], .int .i64 0]) (by simp [results, Try.results15, go_sem, y0, y1, y2, y3, z0, z1, z2, z3]) rfl ⟨rfl, ?_⟩
  repeat (first | exact hK7 | apply Only.alloc | refine Only.setCell ?_ _ _ (by simp))

set_option maxHeartbeats 1000000 in
theorem edecode_bad (s : ByteArray) (w : World) (h : 14 ≤ s.size) (hs : s.size ≤ 140737488355328) (hok : ¬ FrameOk (frTo s) (frFrom s) (frType s) (frData s)) :
    Calls Try.prog 15 #[.string s] w fun e w' => e = .returned (.tuple #[.agg #[.int .i64 0, .int .i64 0, .int .i64 0, .string ⟨#[]⟩], .int .i64 30]) ∧ Only (fun _ => False) w w' := by
  have HOK := Lib.hid hok
  clear hok
  unfold frTo frFrom frType frData at *
  go_enter Try.func15, Try.ntmps15
  go_wp2_with fail
  have hB0 := blk_new2 w (.cells #[.int .i64 0, .int .i64 0, .int .i64 0, .string ⟨#[]⟩] 23) (.cells #[.int .i64 0, .int .i64 0, .int .i64 0, .string (s.extract 14 s.size)] 23)
  have hA0 := blk_alloc (blk_new w (.cells #[.int .i64 0, .int .i64 0, .int .i64 0, .string ⟨#[]⟩] 23)) (.cells #[.int .i64 0, .int .i64 0, .int .i64 0, .string (s.extract 14 s.size)] 23)
  have hK0 : Only (fun _ => False) w ((w.alloc (.cells #[.int .i64 0, .int .i64 0, .int .i64 0, .string ⟨#[]⟩] 23)).alloc (.cells #[.int .i64 0, .int .i64 0, .int .i64 0, .string (s.extract 14 s.size)] 23)) := ((Only.refl _ _).alloc _).alloc _
  refine (get6 s 0 _ (by omega) (by omega) hs).mono ?_
  rintro e w1 ⟨rfl, hk1⟩
  have hA1 := hk1.at hA0 (fun h => h)
  have hB1 := hk1.at hB0 (fun h => h)
  have hK1 := hK0.trans hk1
  clear hk1 hA0 hB0 hK0
  simp only [show (0 : Int).toNat = 0 from rfl]
  have y0 := blk_cell hB1 0
  have y1 := blk_cell hB1 1
  have y2 := blk_cell hB1 2
  have yf := blk_free hB1
  simp only [List.getElem?_toArray, List.getElem?_cons_zero, List.getElem?_cons_succ] at y0 y1 y2
  go_wp2_with fail
  have hA2 := blk_set_other hA1 ⟨w.heap.size + 1, 0, none⟩ (.int .i64 (numAt s 0 6)) (by simp)
  have hB2 := blk_set hB1 0 (.int .i64 (numAt s 0 6))
  have hK2 := hK1.setCell ⟨w.heap.size + 1, 0, none⟩ (.int .i64 (numAt s 0 6)) (by simp)
  clear y0 y1 y2 yf hA1 hB1 hK1
  refine (get6 s 6 _ (by omega) (by omega) hs).mono ?_
  rintro e w2 ⟨rfl, hk2⟩
  have hA3 := hk2.at hA2 (fun h => h)
  have hB3 := hk2.at hB2 (fun h => h)
  have hK3 := hK2.trans hk2
  clear hk2 hA2 hB2 hK2
  simp only [show (6 : Int).toNat = 6 from rfl]
  have y1 := blk_cell hB3 1
  have yf := blk_free hB3
  simp only [List.getElem?_toArray, List.getElem?_cons_zero, List.getElem?_cons_succ, List.setIfInBounds_toArray, List.set_cons_zero, List.set_cons_succ] at y1
  go_wp2_with fail
  have hA4 := blk_set_other hA3 ⟨w.heap.size + 1, 1, none⟩ (.int .i64 (numAt s 6 6)) (by simp)
  have hB4 := blk_set hB3 1 (.int .i64 (numAt s 6 6))
  have hK4 := hK3.setCell ⟨w.heap.size + 1, 1, none⟩ (.int .i64 (numAt s 6 6)) (by simp)
  clear y1 yf hA3 hB3 hK3
  refine (get2 s 12 _ (by omega) (by omega) hs).mono ?_
  rintro e w3 ⟨rfl, hk3⟩
  have hA5 := hk3.at hA4 (fun h => h)
  have hB5 := hk3.at hB4 (fun h => h)
  have hK5 := hK4.trans hk3
  clear hk3 hA4 hB4 hK4
  simp only [show (12 : Int).toNat = 12 from rfl]
  have y0 := blk_cell hB5 0
  have y1 := blk_cell hB5 1
  have y2 := blk_cell hB5 2
  have y3 := blk_cell hB5 3
  have yf := blk_free hB5
  simp only [List.getElem?_toArray, List.getElem?_cons_zero, List.getElem?_cons_succ, List.setIfInBounds_toArray, List.set_cons_zero, List.set_cons_succ] at y0 y1 y2 y3
  go_wp2_with fail
  have hA6 := blk_set_other hA5 ⟨w.heap.size + 1, 2, none⟩ (.int .i64 (numAt s 12 2)) (by simp)
  have hB6 := blk_set hB5 2 (.int .i64 (numAt s 12 2))
  have hK6 := hK5.setCell ⟨w.heap.size + 1, 2, none⟩ (.int .i64 (numAt s 12 2)) (by simp)
  clear y0 y1 y2 y3 yf hA5 hB5 hK5
  refine (echeck_bad _ _ _ _ _ HOK.out).mono ?_
  rintro e w4 ⟨rfl, hk4⟩
  have hA7 := hk4.at hA6 (fun h => h)
  have hB7 := hk4.at hB6 (fun h => h)
  have hK7 := hK6.trans hk4
  clear hk4 hA6 hB6 hK6
  have y0 := blk_cell hB7 0
  have y1 := blk_cell hB7 1
  have y2 := blk_cell hB7 2
  have y3 := blk_cell hB7 3
  have z0 := blk_cell hA7 0
  have z1 := blk_cell hA7 1
  have z2 := blk_cell hA7 2
  have z3 := blk_cell hA7 3
  have zf := blk_free hA7
  simp only [List.getElem?_toArray, List.getElem?_cons_zero, List.getElem?_cons_succ, List.setIfInBounds_toArray, List.set_cons_zero, List.set_cons_succ] at y0 y1 y2 y3 z0 z1 z2 z3
  go_wp2_with fail
  refine bodyPost_ret (v := .tuple #[.agg #[.int .i64 0, .int .i64 0, .int .i64 0, .string ⟨#[]⟩], .int .i64 30]) (by simp [results, Try.results15, go_sem, y0, y1, y2, y3, z0, z1, z2, z3]) rfl ⟨rfl, ?_⟩
  repeat (first | exact hK7 | apply Only.alloc | refine Only.setCell ?_ _ _ (by simp))

end Go.Proofs.Ytcopdgaidfchlaa

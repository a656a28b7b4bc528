/-
  The walk of the law EtherBack.
  No conditions.
-/
import Derived.Test.YtcopdgaidfchlaaLaw03
import Derived.Test.YtcopdgaidfchlaaEtherLaws
import Derived.Test.YtcopdgaidfchlaaOpen
set_option linter.unusedVariables false
set_option linter.unusedSimpArgs false
namespace Go.Proofs.Ytcopdgaidfchlaa
open Go.RowKit

theorem frame_cells {cs : List Value} (h : CellsAre [.i, .i, .i, .s] cs) : ∃ (t f k : Int) (d : ByteArray), cs = [.int .i64 t, .int .i64 f, .int .i64 k, .string d] ∧ d.size ≤ reachB := by
  obtain ⟨t, _, rfl, _, h1⟩ := h.i
  obtain ⟨f, _, rfl, _, h2⟩ := h1.i
  obtain ⟨k, _, rfl, _, h3⟩ := h2.i
  obtain ⟨d, _, rfl, hd, h4⟩ := h3.s
  obtain rfl := h4.nil
  exact ⟨t, f, k, d, rfl, hd⟩

theorem decode_frame (t f k : Int) (d : ByteArray) (w : World) (h : FrameOk t f k d) :
    Calls Try.prog 15 #[.string (frameText t f k d)] w fun e w' => e = .returned (.tuple #[.agg #[.int .i64 t, .int .i64 f, .int .i64 k, .string d], .int .i64 0]) ∧ Only (fun _ => False) w w' := by
  have hr := frame_read h
  refine (edecode_ok _ w hr.1 (by rw [frame_size]; have := h.dd; omega) hr.2).mono fun e w' x => ?_
  rw [frame_to t f k d h.to, frame_from t f k d h.fr, frame_type t f k d (by have := h.k0; omega) (by have := h.k1; omega), frame_data] at x
  exact x

theorem encode_read (s : ByteArray) (w : World) (h : ReadOk s) :
    Calls Try.prog 6 #[.agg #[.int .i64 (frTo s), .int .i64 (frFrom s), .int .i64 (frType s), .string (frData s)]] w fun e w' => e = .returned (.tuple #[.string s, .int .i64 0]) ∧ Only (fun _ => False) w w' := by
  refine (eencode_ok _ _ _ _ w h.2).mono fun e w' x => ?_
  rw [read_frame h] at x
  exact x

theorem both_eq {t f k t' f' k' : Int} {d d' : ByteArray} (h : FrameOk t f k d) (h' : FrameOk t' f' k' d') :
    ((frameText t f k d).toList == (frameText t' f' k' d').toList) = (t == t' && (f == f' && (k == k' && d.toList == d'.toList))) := by
  rw [Bool.eq_iff_iff]
  simp only [Bool.and_eq_true, beq_iff_eq, ByteArray.toList_eq]
  constructor
  · intro e
    have := frame_inj h h' (ByteArray.ext (Array.toList_inj.1 e))
    obtain ⟨rfl, rfl, rfl, rfl⟩ := this
    exact ⟨rfl, rfl, rfl, rfl⟩
  · rintro ⟨rfl, rfl, rfl, e⟩
    rw [ByteArray.ext (Array.toList_inj.1 e)]

theorem edecode_none (s : ByteArray) (w : World) (hs : s.size ≤ 140737488355328) (h : ¬ ReadOk s) :
    Calls Try.prog 15 #[.string s] w fun e w' => e = .returned (.tuple #[.agg #[.int .i64 0, .int .i64 0, .int .i64 0, .string ⟨#[]⟩], .int .i64 30]) ∧ Only (fun _ => False) w w' := by
  by_cases h14 : 14 ≤ s.size
  · exact edecode_bad s w h14 hs (fun x => h ⟨h14, x⟩)
  · exact edecode_short s w (by omega)

set_option maxHeartbeats 2000000 in
theorem etherBack_walk (W : World) (cs : List Value) (hcs : CellsAre [.i, .i, .i, .s] cs) (cs' : List Value) (hcs' : CellsAre [.i, .i, .i, .s] cs') (s : ByteArray) (hs : s.size ≤ reachB) :
    Calls Try.prog 5 #[.agg cs.toArray, .agg cs'.toArray, .string s] W fun e W' => e = .returned (.bool true) ∧ Below W.heap.size W W' := by
  obtain ⟨t, f, k, d, rfl, _⟩ := frame_cells hcs
  obtain ⟨t', f', k', d', rfl, _⟩ := frame_cells hcs'
  unfold reachB at hs
  clear hcs hcs'
  go_enter Try.func5, Try.ntmps5
  go_wp2_with fail
  refine (works03 _).mono ?_
  rintro e w1 ⟨rfl, hk1⟩
  have hA := hk1.at (blk_alloc (blk_new W (.cells #[.int .i64 t, .int .i64 f, .int .i64 k, .string d] 23)) (.cells #[.int .i64 t', .int .i64 f', .int .i64 k', .string d'] 23)) (fun h => h)
  have hB := hk1.at (blk_new2 W (.cells #[.int .i64 t, .int .i64 f, .int .i64 k, .string d] 23) (.cells #[.int .i64 t', .int .i64 f', .int .i64 k', .string d'] 23)) (fun h => h)
  have hO : Only (fun _ => False) W w1 := (((Only.refl _ W).alloc _).alloc _).then hk1 (fun _ _ h => h)
  clear hk1
  have x0 := blk_cell hA 0
  have x1 := blk_cell hA 1
  have x2 := blk_cell hA 2
  have x3 := blk_cell hA 3
  simp only [List.getElem?_toArray, List.getElem?_cons_zero, List.getElem?_cons_succ] at x0 x1 x2 x3
  go_wp2_with fail
  by_cases h : FrameOk t f k d
  · refine (eencode_ok t f k d _ h).mono ?_
    rintro e w2 ⟨rfl, hk2⟩
    replace hA := hk2.at hA (fun h => h)
    replace hB := hk2.at hB (fun h => h)
    replace hO := hO.trans hk2
    clear hk2 x0 x1 x2 x3
    have y0 := blk_cell hB 0
    have y1 := blk_cell hB 1
    have y2 := blk_cell hB 2
    have y3 := blk_cell hB 3
    simp only [List.getElem?_toArray, List.getElem?_cons_zero, List.getElem?_cons_succ] at y0 y1 y2 y3
    have HF := Lib.hid h
    clear h
    go_wp2_with fail
    by_cases h' : FrameOk t' f' k' d'
    · refine (eencode_ok t' f' k' d' _ h').mono ?_
      rintro e w3 ⟨rfl, hk3⟩
      replace hA := hk3.at hA (fun h => h)
      replace hB := hk3.at hB (fun h => h)
      replace hO := hO.trans hk3
      have HG := Lib.hid h'
      clear hk3 y0 y1 y2 y3 h'
      go_wp2_with fail
      refine (decode_frame t f k d _ HF.out).mono ?_
      rintro e w4 ⟨rfl, hk4⟩
      replace hA := hk4.at hA (fun h => h)
      replace hB := hk4.at hB (fun h => h)
      replace hO := hO.trans hk4
      clear hk4
      have x0 := blk_cell hA 0
      have x1 := blk_cell hA 1
      have x2 := blk_cell hA 2
      have x3 := blk_cell hA 3
      have y0 := blk_cell hB 0
      have y1 := blk_cell hB 1
      have y2 := blk_cell hB 2
      have y3 := blk_cell hB 3
      simp only [List.getElem?_toArray, List.getElem?_cons_zero, List.getElem?_cons_succ] at x0 x1 x2 x3 y0 y1 y2 y3
      have hl := heap_lt hB
      have hl2 := heap_lt hA
      go_wp2_with fail
      any_goals
        (exfalso
         have hE := both_eq HF.out HG.out
         clear HF HG hA hB hO x0 x1 x2 x3 y0 y1 y2 y3 hl hl2 hs
         simp_all
         done)
      all_goals
        by_cases hr : ReadOk s
        · refine (edecode_ok s _ hr.1 (by omega) hr.2).mono ?_
          rintro e w5 ⟨rfl, hk5⟩
          have hO5 : Only (fun _ => False) W w5 := by first | exact hO.trans hk5 | exact (hO.alloc _).trans hk5
          clear hk5
          have HR := Lib.hid hr
          clear hr
          go_wp2_with fail
          refine (encode_read s _ HR.out).mono ?_
          rintro e w6 ⟨rfl, hk6⟩
          replace hO5 : Only (fun _ => False) W w6 := by first | exact hO5.trans hk6 | exact (hO5.alloc _).trans hk6
          clear hk6
          go_wp2_with fail
          go_ret
          exact ⟨rfl, hO5.below (Nat.le_refl _) (fun _ _ h => h)⟩
        · refine (edecode_none s _ (by omega) hr).mono ?_
          clear hr
          rintro e w5 ⟨rfl, hk5⟩
          have hO5 : Only (fun _ => False) W w5 := by first | exact hO.trans hk5 | exact (hO.alloc _).trans hk5
          clear hk5
          go_wp2_with fail
          go_ret
          exact ⟨rfl, by first | exact hO5.below (Nat.le_refl _) (fun _ _ h => h) | exact (hO5.alloc _).below (Nat.le_refl _) (fun _ _ h => h) | exact ((hO5.alloc _).alloc _).below (Nat.le_refl _) (fun _ _ h => h)⟩
    · refine (eencode_bad t' f' k' d' _ h').mono ?_
      rintro e w3 ⟨rfl, hk3⟩
      replace hA := hk3.at hA (fun h => h)
      replace hO := hO.trans hk3
      clear hk3 y0 y1 y2 y3 h' hB
      go_wp2_with fail
      refine (decode_frame t f k d _ HF.out).mono ?_
      rintro e w4 ⟨rfl, hk4⟩
      replace hA := hk4.at hA (fun h => h)
      replace hO := hO.trans hk4
      clear hk4
      have x0 := blk_cell hA 0
      have x1 := blk_cell hA 1
      have x2 := blk_cell hA 2
      have x3 := blk_cell hA 3
      simp only [List.getElem?_toArray, List.getElem?_cons_zero, List.getElem?_cons_succ] at x0 x1 x2 x3
      have hl2 := heap_lt hA
      go_wp2_with fail
      by_cases hr : ReadOk s
      · refine (edecode_ok s _ hr.1 (by omega) hr.2).mono ?_
        rintro e w5 ⟨rfl, hk5⟩
        have hO5 : Only (fun _ => False) W w5 := by first | exact hO.trans hk5 | exact (hO.alloc _).trans hk5
        clear hk5
        have HR := Lib.hid hr
        clear hr
        go_wp2_with fail
        refine (encode_read s _ HR.out).mono ?_
        rintro e w6 ⟨rfl, hk6⟩
        replace hO5 : Only (fun _ => False) W w6 := by first | exact hO5.trans hk6 | exact (hO5.alloc _).trans hk6
        clear hk6
        go_wp2_with fail
        go_ret
        exact ⟨rfl, hO5.below (Nat.le_refl _) (fun _ _ h => h)⟩
      · refine (edecode_none s _ (by omega) hr).mono ?_
        clear hr
        rintro e w5 ⟨rfl, hk5⟩
        have hO5 : Only (fun _ => False) W w5 := by first | exact hO.trans hk5 | exact (hO.alloc _).trans hk5
        clear hk5
        go_wp2_with fail
        go_ret
        exact ⟨rfl, by first | exact hO5.below (Nat.le_refl _) (fun _ _ h => h) | exact (hO5.alloc _).below (Nat.le_refl _) (fun _ _ h => h) | exact ((hO5.alloc _).alloc _).below (Nat.le_refl _) (fun _ _ h => h)⟩
  · refine (eencode_bad t f k d _ h).mono ?_
    rintro e w2 ⟨rfl, hk2⟩
    replace hB := hk2.at hB (fun h => h)
    replace hO := hO.trans hk2
    clear hk2 x0 x1 x2 x3 h hA
    have y0 := blk_cell hB 0
    have y1 := blk_cell hB 1
    have y2 := blk_cell hB 2
    have y3 := blk_cell hB 3
    simp only [List.getElem?_toArray, List.getElem?_cons_zero, List.getElem?_cons_succ] at y0 y1 y2 y3
    go_wp2_with fail
    refine (eencode_any t' f' k' d' _).mono ?_
    rintro e w3 ⟨rfl, hk3⟩
    replace hO := hO.trans hk3
    clear hk3 y0 y1 y2 y3 hB
    generalize frCode t' f' k' d' = c at *
    go_wp2_with fail
    by_cases hr : ReadOk s
    · refine (edecode_ok s _ hr.1 (by omega) hr.2).mono ?_
      rintro e w5 ⟨rfl, hk5⟩
      have hO5 : Only (fun _ => False) W w5 := by first | exact hO.trans hk5 | exact (hO.alloc _).trans hk5
      clear hk5
      have HR := Lib.hid hr
      clear hr
      go_wp2_with fail
      refine (encode_read s _ HR.out).mono ?_
      rintro e w6 ⟨rfl, hk6⟩
      replace hO5 : Only (fun _ => False) W w6 := by first | exact hO5.trans hk6 | exact (hO5.alloc _).trans hk6
      clear hk6
      go_wp2_with fail
      go_ret
      exact ⟨rfl, hO5.below (Nat.le_refl _) (fun _ _ h => h)⟩
    · refine (edecode_none s _ (by omega) hr).mono ?_
      clear hr
      rintro e w5 ⟨rfl, hk5⟩
      have hO5 : Only (fun _ => False) W w5 := by first | exact hO.trans hk5 | exact (hO.alloc _).trans hk5
      clear hk5
      go_wp2_with fail
      go_ret
      exact ⟨rfl, by first | exact hO5.below (Nat.le_refl _) (fun _ _ h => h) | exact (hO5.alloc _).below (Nat.le_refl _) (fun _ _ h => h) | exact ((hO5.alloc _).alloc _).below (Nat.le_refl _) (fun _ _ h => h)⟩

end Go.Proofs.Ytcopdgaidfchlaa

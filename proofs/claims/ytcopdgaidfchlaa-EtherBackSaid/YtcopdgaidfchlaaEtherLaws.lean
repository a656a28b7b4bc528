/-
  The plain laws of layer 3: what is encoded is decoded as the frame, and back.
  No conditions.
-/
import Derived.Test.YtcopdgaidfchlaaEtherCode
set_option linter.unusedVariables false
set_option linter.unusedSimpArgs false
namespace Go.Proofs.Ytcopdgaidfchlaa

theorem nums_frame (t f k : Int) (d : ByteArray) : nums (frameText t f k d) = be 6 t ++ (be 6 f ++ (be 2 k ++ nums d)) := by
  unfold frameText
  simp only [nums_append, nums_textOf, List.append_assoc]

theorem frame_size (t f k : Int) (d : ByteArray) : (frameText t f k d).size = 14 + d.size := by
  rw [← nums_length, nums_frame]
  simp only [List.length_append, be_length, nums_length]
  omega

theorem frame_to (t f k : Int) (d : ByteArray) (h : MacOk t) : frTo (frameText t f k d) = t := by
  unfold frTo numAt
  rw [nums_frame, List.drop_zero, List.take_left' (be_length 6 t)]
  exact numOf_be 6 t h.1 (by have := h.2; omega)
theorem frame_from (t f k : Int) (d : ByteArray) (h : MacOk f) : frFrom (frameText t f k d) = f := by
  unfold frFrom numAt
  rw [nums_frame, List.drop_left' (be_length 6 t), List.take_left' (be_length 6 f)]
  exact numOf_be 6 f h.1 (by have := h.2; omega)
theorem frame_type (t f k : Int) (d : ByteArray) (h0 : 0 ≤ k) (h1 : k < 65536) : frType (frameText t f k d) = k := by
  unfold frType numAt
  rw [nums_frame, show 12 = 6 + 6 from rfl, ← List.drop_drop, List.drop_left' (be_length 6 t), List.drop_left' (be_length 6 f), List.take_left' (be_length 2 k)]
  exact numOf_be 2 k h0 (by omega)
theorem frame_data (t f k : Int) (d : ByteArray) : frData (frameText t f k d) = d := by
  apply nums_inj
  unfold frData
  rw [nums_extract, nums_frame, frame_size, show 14 = 6 + (6 + 2) from rfl, ← List.drop_drop, List.drop_left' (be_length 6 t), ← List.drop_drop, List.drop_left' (be_length 6 f), List.drop_left' (be_length 2 k), List.take_of_length_le (by rw [nums_length]; omega)]

theorem frame_read {t f k : Int} {d : ByteArray} (h : FrameOk t f k d) : ReadOk (frameText t f k d) := by
  refine ⟨by rw [frame_size]; omega, ?_⟩
  rw [frame_to t f k d h.to, frame_from t f k d h.fr, frame_type t f k d (by have := h.k0; omega) (by have := h.k1; omega), frame_data]
  exact h

theorem be_take (l : List Int) (k : Nat) (h : k ≤ l.length) (hb : ∀ c ∈ l, 0 ≤ c ∧ c ≤ 255) : be k (numOf (l.take k)) = l.take k := by
  have := be_numOf (l.take k) (fun c hc => hb c (List.mem_of_mem_take hc))
  rwa [List.length_take_of_le h] at this

theorem read_frame {s : ByteArray} (h : ReadOk s) : frameText (frTo s) (frFrom s) (frType s) (frData s) = s := by
  apply nums_inj
  have hl := nums_length s
  have h14 := h.1
  have hb := nums_bounds s
  rw [nums_frame]
  unfold frTo frFrom frType frData numAt
  rw [nums_extract, List.drop_zero, be_take _ 6 (by omega) hb, be_take _ 6 (by rw [List.length_drop]; omega) (fun c hc => hb c (List.mem_of_mem_drop hc)), be_take _ 2 (by rw [List.length_drop]; omega) (fun c hc => hb c (List.mem_of_mem_drop hc)),
    List.take_of_length_le (show ((nums s).drop 14).length ≤ s.size - 14 by rw [List.length_drop]; omega)]
  rw [show 14 = 12 + 2 from rfl, ← List.drop_drop, List.take_append_drop, show 12 = 6 + 6 from rfl, ← List.drop_drop, List.take_append_drop, List.take_append_drop]

theorem frame_inj {t f k t' f' k' : Int} {d d' : ByteArray} (h : FrameOk t f k d) (h' : FrameOk t' f' k' d') (e : frameText t f k d = frameText t' f' k' d') : t = t' ∧ f = f' ∧ k = k' ∧ d = d' := by
  refine ⟨?_, ?_, ?_, ?_⟩
  · rw [← frame_to t f k d h.to, e, frame_to _ _ _ _ h'.to]
  · rw [← frame_from t f k d h.fr, e, frame_from _ _ _ _ h'.fr]
  · rw [← frame_type t f k d (by have := h.k0; omega) (by have := h.k1; omega), e, frame_type _ _ _ _ (by have := h'.k0; omega) (by have := h'.k1; omega)]
  · rw [← frame_data t f k d, e, frame_data]

end Go.Proofs.Ytcopdgaidfchlaa

/-
  The plain law of ChannelBack: a letter's bytes are its own; a burst of turned bits makes them no letter.
  No conditions.
-/
import Derived.Test.YteifehienpeaiaaCrcLaw
import Derived.Test.YteifehienpeaiaaDecLaw
set_option linter.unusedVariables false
set_option linter.unusedSimpArgs false
namespace Go.Proofs.Yteifehienpeaiaa
open Go.RowKit

theorem numAt_in {S : ByteArray} {A C : List Int} {m : Nat} {v : Int} (h : nums S = A ++ (be m v ++ C)) (h0 : 0 ≤ v) (h1 : v < 256 ^ m) {off : Nat} (hA : A.length = off) : numAt S off m = v := by
  unfold numAt
  rw [h, List.drop_left' hA, List.take_left' (be_length m v), numOf_be m v h0 h1]

theorem crcV_lt (s : ByteArray) : crcV s < 4294967296 := Nat.xor_lt_two_pow (n := 32) (crcN_lt s _) (by decide)

def tailN (c : Int) : List Int := [c % 256, c / 256 % 256, c / 65536 % 256, c / 16777216]
theorem nums_tail (c : Int) (h0 : 0 ≤ c) (h1 : c < 4294967296) : nums (tailOf c) = tailN c := by
  refine nums_strOf _ ?_
  intro x hx
  simp only [List.mem_cons, List.not_mem_nil, or_false] at hx
  rcases hx with rfl | rfl | rfl | rfl <;> omega

theorem nums_let (k e r n a : Int) (d : ByteArray) : nums (letBytes k e r n a d) = be 1 k ++ (be 4 e ++ (be 1 r ++ (be 4 n ++ (be 4 a ++ (be 2 d.size ++ (nums d ++ tailN (crcV (letHead k e r n a d) : Nat))))))) := by
  have hc := crcV_lt (letHead k e r n a d)
  unfold letBytes
  rw [nums_append, nums_tail _ (by omega) (by omega)]
  generalize tailN _ = T
  unfold letHead
  simp only [nums_append, nums_textOf, List.append_assoc]

theorem let_size (k e r n a : Int) (d : ByteArray) : (letBytes k e r n a d).size = 20 + d.size := by
  rw [← nums_length, nums_let]
  simp only [List.length_append, be_length, nums_length, tailN, List.length_cons, List.length_nil]
  omega

/-- There and back. -/
theorem let_back {k e r n a : Int} {d : ByteArray} (h : letterB k e r n a d = true) : numAt (letBytes k e r n a d) 0 1 = k ∧ numAt (letBytes k e r n a d) 1 4 = e ∧ numAt (letBytes k e r n a d) 5 1 = r ∧ numAt (letBytes k e r n a d) 6 4 = n ∧ numAt (letBytes k e r n a d) 10 4 = a ∧ numAt (letBytes k e r n a d) 14 2 = d.size ∧ (letBytes k e r n a d).extract 16 ((letBytes k e r n a d).size - 4) = d := by
  obtain ⟨hk, he, hn, ha, hr, hd⟩ := letterB_bounds h
  have hN := nums_let k e r n a d
  have hS := let_size k e r n a d
  generalize letBytes k e r n a d = S at *
  generalize hT : tailN (crcV (letHead k e r n a d) : Nat) = T at *
  have hTl : T.length = 4 := by rw [← hT]; rfl
  refine ⟨?_, ?_, ?_, ?_, ?_, ?_, ?_⟩
  · exact numAt_in (A := []) hN (by omega) (by omega) rfl
  · exact numAt_in (A := be 1 k) hN (by omega) (by omega) (be_length _ _)
  · exact numAt_in (A := be 1 k ++ be 4 e) (by rw [hN]; simp only [List.append_assoc]; rfl) (by omega) (by omega) (by simp [be_length])
  · exact numAt_in (A := be 1 k ++ be 4 e ++ be 1 r) (by rw [hN]; simp only [List.append_assoc]; rfl) (by omega) (by omega) (by simp [be_length])
  · exact numAt_in (A := be 1 k ++ be 4 e ++ be 1 r ++ be 4 n) (by rw [hN]; simp only [List.append_assoc]; rfl) (by omega) (by omega) (by simp [be_length])
  · exact numAt_in (A := be 1 k ++ be 4 e ++ be 1 r ++ be 4 n ++ be 4 a) (by rw [hN]; simp only [List.append_assoc]; rfl) (by omega) (by omega) (by simp [be_length])
  · apply nums_inj
    rw [nums_extract, show nums S = (be 1 k ++ be 4 e ++ be 1 r ++ be 4 n ++ be 4 a ++ be 2 d.size) ++ (nums d ++ T) from by rw [hN]; simp only [List.append_assoc], List.drop_left' (by simp [be_length]), hS]
    exact List.take_left' (by rw [nums_length]; omega)

theorem let_ok {k e r n a : Int} {d : ByteArray} (h : letterB k e r n a d = true) : DecOk (letBytes k e r n a d) := by
  obtain ⟨h0, h1, h2, h3, h4, h5, h6⟩ := let_back h
  have hS := let_size k e r n a d
  refine ⟨by omega, by omega, ?_, ?_⟩
  · rw [h0, h1, h2, h3, h4, h6]; exact h
  · rw [h0, h1, h2, h3, h4, h6]

theorem let_value {k e r n a : Int} {d : ByteArray} (h : letterB k e r n a d = true) : letterV (letBytes k e r n a d) = .tuple #[.agg #[.int .i64 k, .int .i64 e, .int .i64 r, .int .i64 n, .int .i64 a, .string d], .int .i64 0] := by
  obtain ⟨h0, h1, h2, h3, h4, h5, h6⟩ := let_back h
  unfold letterV
  rw [h0, h1, h2, h3, h4, h6]

/-! ### The check -/

theorem natsOf_nums (s : ByteArray) : natsOf s = (nums s).map Int.toNat := by
  simp [natsOf, nums]
theorem nums_natsOf (s : ByteArray) : nums s = (natsOf s).map (fun (c : Nat) => (c : Int)) := by
  simp [natsOf, nums]
theorem natsOf_inj {s t : ByteArray} (h : natsOf s = natsOf t) : s = t := nums_inj (by rw [nums_natsOf, nums_natsOf, h])
theorem natsOf_append (s t : ByteArray) : natsOf (s ++ t) = natsOf s ++ natsOf t := by simp [natsOf]

theorem crc_let (k e r n a : Int) (d : ByteArray) : crcN (letBytes k e r n a d) (letBytes k e r n a d).size = crcSteps 32 4294967295 := by
  have hc := crcV_lt (letHead k e r n a d)
  refine crc_sealed _ (natsOf (letHead k e r n a d)) (natsOf (tailOf (crcV (letHead k e r n a d) : Nat))) (crcV (letHead k e r n a d)) ?_ ?_ ?_ ?_
  · unfold letBytes
    rw [natsOf_append]
  · unfold crcV
    rw [crcN_run _ _ (Nat.le_refl _), List.take_of_length_le (by rw [natsOf_length]; exact Nat.le_refl _)]
  · rw [natsOf_nums, nums_tail _ (by omega) (by omega)]
    have := mxN_tail _ hc
    have e : (tailN (crcV (letHead k e r n a d) : Nat)).map Int.toNat = [crcV (letHead k e r n a d) % 256, crcV (letHead k e r n a d) / 256 % 256, crcV (letHead k e r n a d) / 65536 % 256, crcV (letHead k e r n a d) / 16777216] := by
      simp only [tailN, List.map_cons, List.map_nil, List.cons.injEq, and_true]
      omega
    rw [e]
    exact this
  · rw [natsOf_length]
    unfold tailOf
    rw [strOfNums_size]
    rfl

theorem crc_ok {s : ByteArray} (h : DecOk s) : crcN s s.size = crcSteps 32 4294967295 := by
  rw [← h.whole]
  exact crc_let _ _ _ _ _ _

/-- Bytes with a burst turned are no letter. -/
theorem burst_none {s t : ByteArray} {first : Nat} (hs : DecOk s) (h : Burst (natsOf s) first 32 (natsOf t)) (hf : first ≤ 8 * s.size) (hne : t ≠ s) : ¬ DecOk t :=
  fun ht => hne (natsOf_inj (h.told ((crc_ok hs).trans (crc_ok ht).symm) hf))

end Go.Proofs.Yteifehienpeaiaa

/-
  Strings as lists of numbers from 0 to 255; a number's bytes, the greatest first, and back.
  No conditions.
-/
import Derived.Test.YteifehienpeaiaaBase
import Derived.Laws.BytesArg
import Derived.Laws.BitsLemmas
import Derived.Lib.Strings
import Derived.Lib.ConvBytes
set_option linter.unusedVariables false
set_option linter.unusedSimpArgs false
namespace Go.Proofs.Yteifehienpeaiaa

/-- A number's bytes, so many, the greatest first. -/
def be : Nat → Int → List Int
  | 0, _ => []
  | k + 1, n => be k (n / 256) ++ [n % 256]
def textOf (k : Nat) (n : Int) : ByteArray := strOfNums (be k n)

theorem be_length : ∀ (k : Nat) (n : Int), (be k n).length = k
  | 0, _ => rfl
  | k + 1, n => by simp [be, be_length k]
theorem textOf_size (k : Nat) (n : Int) : (textOf k n).size = k := by rw [textOf, strOfNums_size, be_length]

theorem text1 (n : Int) (h0 : 0 ≤ n) (h1 : n < 256) : strOfNums [n] = textOf 1 n := by
  unfold textOf
  congr 1
  simp only [be, List.nil_append, List.cons_append, List.cons.injEq, and_true]
  first | omega | ((repeat' apply And.intro) <;> omega)

theorem text2 (n : Int) (h0 : 0 ≤ n) (h1 : n < 65536) : strOfNums [n / 256, n % 256] = textOf 2 n := by
  unfold textOf
  congr 1
  simp only [be, List.nil_append, List.cons_append, List.cons.injEq, and_true]
  first | omega | ((repeat' apply And.intro) <;> omega)

theorem text4 (n : Int) (h0 : 0 ≤ n) (h1 : n < 4294967296) : strOfNums [n / 16777216, n / 65536 % 256, n / 256 % 256, n % 256] = textOf 4 n := by
  unfold textOf
  congr 1
  simp only [be, List.nil_append, List.cons_append, List.cons.injEq, and_true]
  first | omega | ((repeat' apply And.intro) <;> omega)

theorem text6 (n : Int) (h0 : 0 ≤ n) (h1 : n < 281474976710656) : strOfNums [n / 1099511627776, n / 4294967296 % 256, n / 16777216 % 256, n / 65536 % 256, n / 256 % 256, n % 256] = textOf 6 n := by
  unfold textOf
  congr 1
  simp only [be, List.nil_append, List.cons_append, List.cons.injEq, and_true]
  first | omega | ((repeat' apply And.intro) <;> omega)

theorem snoc_ind {α : Type} {P : List α → Prop} (h0 : P []) (h1 : ∀ l a, P l → P (l ++ [a])) (l : List α) : P l := by
  rw [← l.reverse_reverse]
  induction l.reverse with
  | nil => exact h0
  | cons a r ih => rw [List.reverse_cons]; exact h1 _ _ ih

/-- The number of bytes, the greatest first. -/
def numOf (l : List Int) : Int := l.foldl (fun n c => n * 256 + c) 0
theorem numOf_snoc (l : List Int) (c : Int) : numOf (l ++ [c]) = numOf l * 256 + c := by simp [numOf]
theorem numOf_bounds : ∀ (l : List Int), (∀ c ∈ l, 0 ≤ c ∧ c ≤ 255) → 0 ≤ numOf l ∧ numOf l < 256 ^ l.length := by
  refine snoc_ind (fun _ => by simp [numOf]) (fun l c ih h => ?_)
  · have h1 := ih (fun c hc => h c (List.mem_append_left _ hc))
    have h2 := h c (by simp)
    rw [numOf_snoc, List.length_append, List.length_singleton, Int.pow_succ]
    generalize (256 : Int) ^ l.length = p at *
    omega
theorem be_bounds : ∀ (k : Nat) (n : Int), ∀ c ∈ be k n, 0 ≤ c ∧ c ≤ 255
  | 0, _, _, h => by cases h
  | k + 1, n, c, h => by
    rcases List.mem_append.1 h with h | h
    · exact be_bounds k _ c h
    · simp only [List.mem_singleton] at h; omega
theorem numOf_be : ∀ (k : Nat) (n : Int), 0 ≤ n → n < 256 ^ k → numOf (be k n) = n
  | 0, n, h0, h1 => by simp at h1; simp [be, numOf]; omega
  | k + 1, n, h0, h1 => by
    rw [Int.pow_succ] at h1
    have : n / 256 < 256 ^ k := by
      generalize (256 : Int) ^ k = p at *
      omega
    rw [be, numOf_snoc, numOf_be k (n / 256) (by omega) this]
    omega
theorem be_numOf : ∀ (l : List Int), (∀ c ∈ l, 0 ≤ c ∧ c ≤ 255) → be l.length (numOf l) = l := by
  refine snoc_ind (fun _ => rfl) (fun l c ih h => ?_)
  · have h1 := ih (fun c hc => h c (List.mem_append_left _ hc))
    have h2 := h c (by simp)
    rw [numOf_snoc, List.length_append, List.length_singleton, be]
    rw [show (numOf l * 256 + c) / 256 = numOf l by omega, show (numOf l * 256 + c) % 256 = c by omega, h1]

/-- A string's bytes, as numbers. -/
def nums (s : ByteArray) : List Int := s.data.toList.map fun b => (b.toNat : Int)
theorem nums_length (s : ByteArray) : (nums s).length = s.size := by
  show (s.data.toList.map _).length = s.data.size
  simp
theorem nums_bounds (s : ByteArray) : ∀ c ∈ nums s, 0 ≤ c ∧ c ≤ 255 := by
  intro c h
  obtain ⟨b, _, rfl⟩ := List.mem_map.1 h
  have := b.toNat_lt
  omega
theorem strOf_nums (s : ByteArray) : strOfNums (nums s) = s := by
  unfold strOfNums nums
  apply ByteArray.ext
  simp [List.map_map, Function.comp_def]
theorem nums_strOf (l : List Int) (h : ∀ c ∈ l, 0 ≤ c ∧ c ≤ 255) : nums (strOfNums l) = l := by
  unfold nums
  rw [strOfNums_data, List.map_map]
  conv => rhs; rw [← List.map_id l]
  apply List.map_congr_left
  intro c hc
  have := h c hc
  simp only [Function.comp_apply, UInt8.toNat_ofNat', id]
  omega
theorem nums_inj {s t : ByteArray} (h : nums s = nums t) : s = t := by rw [← strOf_nums s, h, strOf_nums]
theorem nums_append (s t : ByteArray) : nums (s ++ t) = nums s ++ nums t := by simp [nums]
theorem nums_extract (s : ByteArray) (a b : Nat) : nums (s.extract a b) = ((nums s).drop a).take (b - a) := by
  simp [nums, Lib.extract_data, List.map_take, List.map_drop]
theorem nums_textOf (k : Nat) (n : Int) : nums (textOf k n) = be k n := nums_strOf _ (be_bounds k n)

theorem take_all {l : List Int} {k : Nat} (h : l.length = k) : numOf l = numOf (l.take k) := by rw [List.take_of_length_le (by omega)]
theorem take_step {l : List Int} {k j : Nat} (hb : ∀ c ∈ l, 0 ≤ c ∧ c ≤ 255) (hl : l.length = k) (hj : j < l.length) (h6 : j < 6) :
    (0 ≤ numOf (l.take j) ∧ numOf (l.take j) < 36028797018963968) ∧ (0 ≤ l.getD j 0 ∧ l.getD j 0 ≤ 255) ∧ numOf (l.take (j + 1)) = numOf (l.take j) * 256 + l.getD j 0 := by
  have h1 := numOf_bounds (l.take j) (fun c hc => hb c (List.mem_of_mem_take hc))
  rw [List.length_take_of_le (by omega)] at h1
  have h2 : (256 : Int) ^ j ≤ 256 ^ 6 := by
    have := Nat.pow_le_pow_right (show 0 < 256 by decide) (show j ≤ 6 by omega)
    have hq : ((256 ^ j : Nat) : Int) ≤ ((256 ^ 6 : Nat) : Int) := Int.ofNat_le.2 this
    rw [Int.natCast_pow, Int.natCast_pow] at hq
    exact hq
  have h3 : (256 : Int) ^ 6 < 36028797018963968 := by decide
  have h4 : l.getD j 0 = l[j] := by simp [List.getD, hj]
  refine ⟨⟨h1.1, by omega⟩, by rw [h4]; exact hb _ (List.getElem_mem hj), ?_⟩
  rw [List.take_succ_eq_append_getElem hj, numOf_snoc, h4]

/-- The number of so many bytes of a string, from a place on. -/
def numAt (s : ByteArray) (off k : Nat) : Int := numOf (((nums s).drop off).take k)
theorem numAt_bounds (s : ByteArray) (off k : Nat) : 0 ≤ numAt s off k ∧ numAt s off k < 256 ^ k := by
  have h := numOf_bounds (((nums s).drop off).take k) (fun c hc => nums_bounds s c (List.mem_of_mem_drop (List.mem_of_mem_take hc)))
  refine ⟨h.1, Int.lt_of_lt_of_le h.2 ?_⟩
  have hp := Nat.pow_le_pow_right (show 0 < 256 by decide) (List.length_take_le k ((nums s).drop off))
  have hq : ((256 ^ (((nums s).drop off).take k).length : Nat) : Int) ≤ ((256 ^ k : Nat) : Int) := Int.ofNat_le.2 hp
  rw [Int.natCast_pow, Int.natCast_pow] at hq
  exact hq

theorem bytesWorld_cell' (w : World) (s : ByteArray) (j : Nat) (hj : j < s.size) : (Lib.bytesWorld w 5 s).cell? ⟨w.heap.size, j, none⟩ = some (.int .u8 ((nums s).getD j 0)) := by
  rw [Lib.bytesWorld_cell w 5 s j hj]
  have h : j < s.data.toList.length := hj
  rw [nums, List.getD, List.getD, List.getElem?_map, List.getElem?_eq_getElem h]
  rfl
theorem bytesWorld_only (w : World) (s : ByteArray) : Only (fun _ => False) w (Lib.bytesWorld w 5 s) :=
  ⟨rfl, rfl, rfl, by rw [Lib.bytesWorld_size]; omega, fun k hk _ => Lib.bytesWorld_at_old w 5 s k hk⟩

/-- A byte joined behind eight bits. -/
theorem or_byte (n c : Int) (h0 : 0 ≤ n) (h1 : n < 36028797018963968) (c0 : 0 ≤ c) (c1 : c ≤ 255) : bits .or .i64 (n * 256) c = n * 256 + c :=
  bits_join .i64 63 (by decide) (fun m h0 h1 => by rw [IntKind.wrap_i64]; omega) 8 (n * 256) c (by omega) (by omega) (by omega) c0 (by omega) (by omega)

end Go.Proofs.Yteifehienpeaiaa

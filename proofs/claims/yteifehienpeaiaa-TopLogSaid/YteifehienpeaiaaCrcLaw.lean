/-
  The plain law of the check over bytes: a burst of at most 32 turned bits never leaves the check as it was.
  No conditions.
-/
import Derived.Test.YteifehienpeaiaaCrc
set_option linter.unusedVariables false
set_option linter.unusedSimpArgs false
namespace Go.Proofs.Yteifehienpeaiaa
open Go.RowKit

theorem half_xor (x y : Nat) : (x ^^^ y) / 2 = (x / 2) ^^^ (y / 2) := by
  have h := Nat.shiftRight_xor_distrib (a := x) (b := y) (i := 1)
  simpa [Nat.shiftRight_succ] using h
theorem odd_xor (x y : Nat) : (x ^^^ y) % 2 = (x % 2 + y % 2) % 2 := by
  have h := Nat.testBit_xor x y 0
  simp only [Nat.testBit_zero] at h
  have hx := Nat.mod_two_eq_zero_or_one x
  have hy := Nat.mod_two_eq_zero_or_one y
  have hz := Nat.mod_two_eq_zero_or_one (x ^^^ y)
  rcases hx with hx | hx <;> rcases hy with hy | hy <;> rcases hz with hz | hz <;> simp [hx, hy, hz] at h ⊢

theorem crcStep_xor (x y : Nat) : crcStep (x ^^^ y) = crcStep x ^^^ crcStep y := by
  unfold crcStep
  rw [half_xor, odd_xor]
  have hx := Nat.mod_two_eq_zero_or_one x
  have hy := Nat.mod_two_eq_zero_or_one y
  generalize (3988292384 : Nat) = q
  rcases hx with hx | hx <;> rcases hy with hy | hy <;> simp only [hx, hy, Nat.zero_add, Nat.add_zero, Nat.mod_self, Nat.zero_mod, Nat.one_mod, if_true, Nat.reduceAdd, Nat.reduceMod, if_false, reduceCtorEq, Nat.zero_ne_one, show ¬ ((0 : Nat) = 1) by decide]
  · rw [Nat.xor_assoc]
  · rw [Nat.xor_assoc, Nat.xor_comm (y / 2) q, ← Nat.xor_assoc]
  · apply Nat.eq_of_testBit_eq
    intro i
    simp only [Nat.testBit_xor]
    cases (x / 2).testBit i <;> cases (y / 2).testBit i <;> cases q.testBit i <;> rfl

theorem crcSteps_xor (x y : Nat) : ∀ n, crcSteps n (x ^^^ y) = crcSteps n x ^^^ crcSteps n y
  | 0 => rfl
  | n + 1 => by
    show crcStep (crcSteps n (x ^^^ y)) = crcStep (crcSteps n x) ^^^ crcStep (crcSteps n y)
    rw [crcSteps_xor x y n, crcStep_xor]

theorem crcSteps_succ' (x : Nat) : ∀ n, crcSteps (n + 1) x = crcSteps n (crcStep x)
  | 0 => rfl
  | n + 1 => by
    show crcStep (crcSteps (n + 1) x) = crcStep (crcSteps n (crcStep x))
    rw [crcSteps_succ' x n]

theorem crcSteps_add (x : Nat) (m : Nat) : ∀ n, crcSteps (n + m) x = crcSteps n (crcSteps m x)
  | 0 => by rw [Nat.zero_add]; rfl
  | n + 1 => by
    rw [show n + 1 + m = (n + m) + 1 by omega]
    show crcStep (crcSteps (n + m) x) = crcStep (crcSteps n (crcSteps m x))
    rw [crcSteps_add x m n]

theorem crcStep_two (y : Nat) : crcStep (2 * y) = y := by
  unfold crcStep
  rw [if_neg (by omega)]
  omega

theorem crcSteps_pow (y : Nat) : ∀ n, crcSteps n (2 ^ n * y) = y
  | 0 => by simp [crcSteps]
  | n + 1 => by
    rw [crcSteps_succ', show 2 ^ (n + 1) * y = 2 * (2 ^ n * y) by rw [Nat.pow_succ]; ac_rfl, crcStep_two, crcSteps_pow y n]

theorem crcStep_zero {x : Nat} (h : x < 4294967296) (h0 : crcStep x = 0) : x = 0 := by
  unfold crcStep at h0
  split at h0
  · exfalso
    have h1 := congrArg (fun z => Nat.testBit z 31) h0
    simp only [Nat.testBit_xor, Nat.zero_testBit] at h1
    have h2 : (x / 2).testBit 31 = false := Nat.testBit_lt_two_pow (by omega)
    rw [h2] at h1
    revert h1
    decide
  · omega

theorem crcSteps_zero {x : Nat} (h : x < 4294967296) : ∀ n, crcSteps n x = 0 → x = 0
  | 0, h0 => h0
  | n + 1, h0 => crcSteps_zero h n (crcStep_zero (crcSteps_lt h n) h0)

/-- The bytes as one great number, the first one the least. -/
def mxN : List Nat → Nat
  | [] => 0
  | c :: l => c ^^^ 2 ^ 8 * mxN l

/-- The state behind these bytes. -/
def crcRun : Nat → List Nat → Nat
  | x, [] => x
  | x, c :: l => crcRun (crcSteps 8 (x ^^^ c)) l

theorem crcRun_mx : ∀ (l : List Nat) (x : Nat), crcRun x l = crcSteps (8 * l.length) (x ^^^ mxN l)
  | [], x => by
    rw [show mxN [] = 0 from rfl, Nat.xor_zero]
    rfl
  | c :: l, x => by
    show crcRun (crcSteps 8 (x ^^^ c)) l = crcSteps (8 * (l.length + 1)) (x ^^^ (c ^^^ 2 ^ 8 * mxN l))
    rw [crcRun_mx l, show 8 * (l.length + 1) = 8 * l.length + 8 by omega, crcSteps_add, ← Nat.xor_assoc, crcSteps_xor (x ^^^ c), crcSteps_pow]

theorem crcRun_snoc : ∀ (l : List Nat) (x c : Nat), crcRun x (l ++ [c]) = crcSteps 8 (crcRun x l ^^^ c)
  | [], _, _ => rfl
  | _ :: l, x, c => crcRun_snoc l _ c

def natsOf (s : ByteArray) : List Nat := s.data.toList.map (·.toNat)
theorem natsOf_length (s : ByteArray) : (natsOf s).length = s.size := by simp [natsOf]

theorem crcN_run (s : ByteArray) : ∀ k, k ≤ s.size → crcN s k = crcRun 4294967295 ((natsOf s).take k)
  | 0, _ => by rw [List.take_zero]; rfl
  | k + 1, h => by
    have hk : k < (natsOf s).length := by rw [natsOf_length]; omega
    rw [List.take_succ_eq_append_getElem hk, crcRun_snoc, ← crcN_run s k (by omega)]
    show crcSteps 8 (crcN s k ^^^ (s.data.toList.getD k 0).toNat) = _
    congr 2
    have hk2 : k < s.data.toList.length := by simpa [natsOf] using hk
    simp [natsOf, List.getD, List.getElem?_eq_getElem hk2]

theorem crcN_all (s : ByteArray) : crcN s s.size = crcSteps (8 * s.size) (4294967295 ^^^ mxN (natsOf s)) := by
  rw [crcN_run s _ (Nat.le_refl _), List.take_of_length_le (by rw [natsOf_length]; exact Nat.le_refl _), crcRun_mx, natsOf_length]

theorem mul_xor (k a b : Nat) : 2 ^ k * (a ^^^ b) = 2 ^ k * a ^^^ 2 ^ k * b := by
  rw [Nat.mul_comm, ← Nat.shiftLeft_eq, Nat.shiftLeft_xor_distrib, Nat.shiftLeft_eq, Nat.shiftLeft_eq, Nat.mul_comm a, Nat.mul_comm b]

theorem mxN_append : ∀ (l m : List Nat), mxN (l ++ m) = mxN l ^^^ 2 ^ (8 * l.length) * mxN m
  | [], m => by simp [mxN]
  | c :: l, m => by
    show c ^^^ 2 ^ 8 * mxN (l ++ m) = (c ^^^ 2 ^ 8 * mxN l) ^^^ 2 ^ (8 * (l.length + 1)) * mxN m
    rw [mxN_append l m, mul_xor, ← Nat.xor_assoc, ← Nat.mul_assoc, ← Nat.pow_add, show 8 + 8 * l.length = 8 * (l.length + 1) by omega]

theorem xor_add {a x k : Nat} (h : a < 2 ^ k) : a ^^^ 2 ^ k * x = a + 2 ^ k * x := by
  apply Nat.eq_of_testBit_eq
  intro i
  rw [Nat.testBit_xor, Nat.add_comm, Nat.testBit_two_pow_mul_add _ h, Nat.testBit_two_pow_mul]
  split
  · rename_i hi
    rw [decide_eq_false (by omega)]
    simp
  · rename_i hi
    rw [decide_eq_true (by omega), Nat.testBit_lt_two_pow (Nat.lt_of_lt_of_le h (Nat.pow_le_pow_right (by decide) (by omega)))]
    simp

theorem mxN_tail (c : Nat) (h : c < 4294967296) : mxN [c % 256, c / 256 % 256, c / 65536 % 256, c / 16777216] = c := by
  simp only [mxN, Nat.mul_zero, Nat.xor_zero]
  rw [xor_add (a := c / 65536 % 256) (k := 8) (by omega), xor_add (a := c / 256 % 256) (k := 8) (by omega), xor_add (a := c % 256) (k := 8) (by omega)]
  omega

/-- The state behind bytes and their own check. -/
theorem crc_sealed (s : ByteArray) (H T : List Nat) (c : Nat) (hs : natsOf s = H ++ T) (hc : c = crcRun 4294967295 H ^^^ 4294967295) (hT : mxN T = c) (hT4 : T.length = 4) : crcN s s.size = crcSteps 32 4294967295 := by
  rw [crcN_run s _ (Nat.le_refl _), List.take_of_length_le (by rw [natsOf_length]; exact Nat.le_refl _), hs, crcRun_mx, mxN_append, List.length_append, hT4, hT, show 8 * (H.length + 4) = 32 + 8 * H.length by omega, crcSteps_add, ← Nat.xor_assoc, crcSteps_xor (4294967295 ^^^ mxN H), crcSteps_pow, ← crcRun_mx, hc]
  congr 1
  rw [← Nat.xor_assoc, Nat.xor_self, Nat.zero_xor]

/-- A byte turned. -/
theorem mxN_set : ∀ (l : List Nat) (k d : Nat), k < l.length → mxN (l.set k (l.getD k 0 ^^^ d)) = mxN l ^^^ 2 ^ (8 * k) * d
  | [], _, _, h => by simp at h
  | c :: l, 0, d, _ => by
    show (c ^^^ d) ^^^ 2 ^ 8 * mxN l = (c ^^^ 2 ^ 8 * mxN l) ^^^ 2 ^ (8 * 0) * d
    rw [Nat.mul_zero, Nat.pow_zero, Nat.one_mul, Nat.xor_assoc, Nat.xor_comm d, ← Nat.xor_assoc]
  | c :: l, k + 1, d, h => by
    have h1 : k < l.length := by simpa using h
    have := mxN_set l k d h1
    show c ^^^ 2 ^ 8 * mxN (l.set k (l.getD k 0 ^^^ d)) = (c ^^^ 2 ^ 8 * mxN l) ^^^ 2 ^ (8 * (k + 1)) * d
    rw [this, mul_xor, ← Nat.xor_assoc, ← Nat.mul_assoc, ← Nat.pow_add, show 8 + 8 * k = 8 * (k + 1) by omega]

/-- What so many turned bits have made of bytes, from the bit 'first' on. -/
structure Burst (l : List Nat) (first i : Nat) (m : List Nat) : Prop where
  len : m.length = l.length
  some : ∃ p, p < 2 ^ i ∧ mxN m = mxN l ^^^ 2 ^ first * p ∧ (p = 0 → m = l)

theorem Burst.start (l : List Nat) (first : Nat) : Burst l first 0 l := ⟨rfl, 0, by decide, by simp, fun _ => rfl⟩

theorem Burst.stay {l m : List Nat} {first i : Nat} (h : Burst l first i m) : Burst l first (i + 1) m := by
  obtain ⟨h1, p, h2, h3, h4⟩ := h
  exact ⟨h1, p, by rw [Nat.pow_succ]; omega, h3, h4⟩

theorem Burst.turn {l m : List Nat} {first i : Nat} (h : Burst l first i m) (hb : first + i < 8 * l.length) : Burst l first (i + 1) (m.set ((first + i) / 8) (m.getD ((first + i) / 8) 0 ^^^ 2 ^ ((first + i) % 8))) := by
  obtain ⟨h1, p, h2, h3, h4⟩ := h
  refine ⟨by simp [h1], p + 2 ^ i * 1, ?_, ?_, fun h0 => ?_⟩
  · rw [Nat.pow_succ]; omega
  · rw [mxN_set m _ _ (by rw [h1]; omega), h3, ← xor_add h2, mul_xor, ← Nat.xor_assoc, ← Nat.pow_add]
    congr 1
    rw [Nat.mul_one, ← Nat.pow_add]
    congr 1
    omega
  · have : 0 < 2 ^ i := Nat.two_pow_pos i
    omega

/-- A burst is told. -/
theorem Burst.told {s t : ByteArray} {first : Nat} (h : Burst (natsOf s) first 32 (natsOf t)) (hs : crcN s s.size = crcN t t.size) (hf : first ≤ 8 * s.size) : natsOf t = natsOf s := by
  obtain ⟨h1, p, h2, h3, h4⟩ := h
  rw [natsOf_length, natsOf_length] at h1
  apply h4
  rw [crcN_all, crcN_all, h1, h3, crcSteps_xor, crcSteps_xor, crcSteps_xor (mxN (natsOf s))] at hs
  have h5 : crcSteps (8 * s.size) (2 ^ first * p) = 0 := by
    generalize crcSteps (8 * s.size) 4294967295 = a at hs
    generalize crcSteps (8 * s.size) (mxN (natsOf s)) = b at hs
    generalize crcSteps (8 * s.size) (2 ^ first * p) = c at hs ⊢
    have := congrArg (fun z => (a ^^^ b) ^^^ z) hs
    simp only [← Nat.xor_assoc, Nat.xor_self] at this
    rw [Nat.zero_xor] at this
    exact this.symm
  rw [show 8 * s.size = (8 * s.size - first) + first by omega, crcSteps_add, crcSteps_pow] at h5
  exact crcSteps_zero (by omega) _ h5

end Go.Proofs.Yteifehienpeaiaa

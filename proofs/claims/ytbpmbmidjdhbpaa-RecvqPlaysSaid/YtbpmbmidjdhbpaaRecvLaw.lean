/-
  The plain law of a receive queue: what a Put changes, by how far a number lies behind next.
  No conditions.
-/
import Derived.Test.YtbpmbmidjdhbpaaRecv
import Derived.Test.YtbpmbmidjdhbpaaRecvPut
set_option linter.unusedVariables false
set_option linter.unusedSimpArgs false
namespace Go.Proofs.Ytbpmbmidjdhbpaa
open Go.RowKit

theorem lookA_nil (x : Int) : lookA [] x = none := rfl
theorem lookA_cons (p : Int × Nat) (A : List (Int × Nat)) (x : Int) : lookA (p :: A) x = if p.1 = x then some p.2 else lookA A x := by
  unfold lookA
  rw [List.find?_cons]
  by_cases h : p.1 = x
  · rw [if_pos h, show (p.1 == x) = true from by simpa using h]; rfl
  · rw [if_neg h, show (p.1 == x) = false from by simpa using h]
theorem lookA_append (A B : List (Int × Nat)) (x : Int) : lookA (A ++ B) x = (lookA A x).or (lookA B x) := by
  induction A with
  | nil => simp [lookA_nil]
  | cons p A ih =>
    rw [List.cons_append, lookA_cons, lookA_cons, ih]
    split <;> simp
theorem lookA_of_mem {A : List (Int × Nat)} {p : Int × Nat} (h : p ∈ A) : (lookA A p.1).isSome := by
  induction A with
  | nil => cases h
  | cons r A ih =>
    rw [lookA_cons]
    split
    · rfl
    · rename_i hne
      rcases List.mem_cons.1 h with h1 | h1
      · exact absurd (by rw [h1]) hne
      · exact ih h1
theorem lookA_nodup {A : List (Int × Nat)} (hn : (A.map Prod.fst).Nodup) {p : Int × Nat} (h : p ∈ A) : lookA A p.1 = some p.2 := by
  induction A with
  | nil => cases h
  | cons r A ih =>
    rw [List.map_cons, List.nodup_cons] at hn
    rw [lookA_cons]
    rcases List.mem_cons.1 h with h1 | h1
    · rw [h1, if_pos rfl]
    · rw [if_neg (fun e => hn.1 (by rw [e]; exact List.mem_map_of_mem h1))]
      exact ih hn.2 h1
theorem lookA_addA (A : List (Int × Nat)) (k : Int) (c : Nat) (x : Int) : lookA (addA A k c) x = (lookA A x).or (if k = x then some c else none) := by
  unfold addA
  split
  · rename_i h
    by_cases hk : k = x
    · subst hk
      cases hl : lookA A k with
      | none => rw [hl] at h; cases h
      | some v => rfl
    · rw [if_neg hk, Option.or_none]
  · rw [lookA_append, lookA_cons, lookA_nil]
theorem lookA_delA (A : List (Int × Nat)) (k x : Int) : lookA (delA A k) x = if x = k then none else lookA A x := by
  induction A with
  | nil => simp [delA, lookA_nil]
  | cons p A ih =>
    unfold delA at ih ⊢
    by_cases hp : p.1 = k
    · rw [List.filter_cons_of_neg (by simp [hp]), ih, lookA_cons]
      by_cases hx : x = k
      · rw [if_pos hx, if_pos hx]
      · rw [if_neg hx, if_neg hx, if_neg (by rw [hp]; exact fun e => hx e.symm)]
    · rw [List.filter_cons_of_pos (by simpa using hp), lookA_cons, ih, lookA_cons]
      by_cases hx : x = k
      · subst hx
        simp [hp]
      · simp [hx]

/-- The byte that is laid at a number. -/
theorem lookA_putA_old (s : ByteArray) (at_ skip : Int) (A : List (Int × Nat)) (x : Int) (v : Nat) (h : lookA A x = some v) : ∀ i, lookA (putA s at_ skip A i) x = some v
  | 0 => h
  | i + 1 => by
    show lookA (addA _ _ _) x = _
    rw [lookA_addA, lookA_putA_old s at_ skip A x v h i]
    rfl
theorem lookA_putA_none (s : ByteArray) (at_ skip : Int) (A : List (Int × Nat)) (x : Int) (h : lookA A x = none) : ∀ i : Nat, (∀ j : Nat, j < i → (at_ + (skip + j)) % 4294967296 ≠ x) → lookA (putA s at_ skip A i) x = none
  | 0, _ => h
  | i + 1, hn => by
    show lookA (addA _ _ _) x = _
    rw [lookA_addA, lookA_putA_none s at_ skip A x h i (fun j hj => hn j (by omega)), if_neg (hn i (by omega))]
    rfl
theorem lookA_putA_new (s : ByteArray) (at_ skip : Int) (A : List (Int × Nat)) (x : Int) (h : lookA A x = none) : ∀ i : Nat, i ≤ 4294967296 → ∀ j : Nat, j < i → (at_ + (skip + j)) % 4294967296 = x → lookA (putA s at_ skip A i) x = some (s.data.toList.getD (skip.toNat + j) 0).toNat
  | 0, _, j, hj, _ => by omega
  | i + 1, hi, j, hj, hx => by
    show lookA (addA _ _ _) x = _
    rw [lookA_addA]
    by_cases hji : j = i
    · subst hji
      rw [lookA_putA_none s at_ skip A x h j (fun j' hj' e => by omega), if_pos hx]
      rfl
    · rw [lookA_putA_new s at_ skip A x h i (by omega) j (by omega) hx]
      rfl

/-- How far a number lies behind next. -/
def offs (nx k : Int) : Int := (k - nx) % 4294967296

/-- What is apart lies in a window of so many, each number once. -/
structure InW (nx win : Int) (A : List (Int × Nat)) : Prop where
  nd : (A.map Prod.fst).Nodup
  key : ∀ p ∈ A, (0 ≤ p.1 ∧ p.1 < 4294967296) ∧ p.2 < 256 ∧ offs nx p.1 < win

theorem InW.add {nx win : Int} {A : List (Int × Nat)} (h : InW nx win A) {k : Int} {c : Nat} (k0 : 0 ≤ k) (k1 : k < 4294967296) (hc : c < 256) (ho : offs nx k < win) : InW nx win (addA A k c) := by
  unfold addA
  split
  · exact h
  · rename_i hl
    refine ⟨?_, ?_⟩
    · rw [List.map_append, List.nodup_append]
      refine ⟨h.nd, by simp, ?_⟩
      intro a ha b hb e
      simp only [List.map_cons, List.map_nil, List.mem_singleton] at hb
      obtain ⟨p, hp, rfl⟩ := List.mem_map.1 ha
      apply hl
      have := lookA_of_mem hp
      rw [e, hb] at this
      exact this
    · intro p hp
      rcases List.mem_append.1 hp with h1 | h1
      · exact h.key p h1
      · simp only [List.mem_singleton] at h1
        subst h1
        exact ⟨⟨k0, k1⟩, hc, ho⟩

theorem InW.putA {nx win : Int} {A : List (Int × Nat)} (h : InW nx win A) (s : ByteArray) (at_ skip : Int) : ∀ i : Nat, (∀ j : Nat, j < i → offs nx ((at_ + (skip + j)) % 4294967296) < win) → InW nx win (putA s at_ skip A i)
  | 0, _ => h
  | i + 1, hj => by
    have ih := InW.putA h s at_ skip i (fun j hj' => hj j (by omega))
    refine InW.add ih (Int.emod_nonneg _ (by decide)) (Int.emod_lt_of_pos _ (by decide)) ?_ (hj i (by omega))
    exact UInt8.toNat_lt _

theorem InW.sub {nx win : Int} {A B : List (Int × Nat)} (h : InW nx win A) (hs : B.Sublist A) : InW nx win B := ⟨h.nd.sublist (hs.map _), fun p hp => h.key p (hs.subset hp)⟩

/-- Where kept bytes lie. -/
theorem cut_offs (at_ long nx size : Int) (a0 : 0 ≤ at_) (a1 : at_ < 4294967296) (n0 : 0 ≤ nx) (n1 : nx < 4294967296) (l0 : 0 ≤ long) (l1 : long ≤ 65536) (s0 : 0 ≤ size) (s1 : size ≤ 65536) (j : Nat) (hj : j < (cutKeep at_ long nx size).toNat) :
    offs nx ((at_ + (cutSkip at_ long nx size + j)) % 4294967296) < size := by
  unfold offs
  unfold cutKeep cutSkip mx mn at *
  by_cases hd : 2147483648 ≤ (nx - at_) % 4294967296
  · simp only [if_pos hd] at hj ⊢
    split at hj <;> (try split at hj) <;> omega
  · simp only [if_neg hd] at hj ⊢
    split at hj <;> (try split at hj) <;> (try split) <;> omega

structure Drained (k : Int) (A : List (Int × Nat)) (r : Int × List (Int × Nat) × List Nat) : Prop where
  next : r.1 = (k + r.2.2.length) % 4294967296
  here : ∀ i, i < r.2.2.length → lookA A ((k + (i : Int)) % 4294967296) = some (r.2.2.getD i 0)
  gone : ∀ x, lookA r.2.1 x = if (∃ i : Nat, i < r.2.2.length ∧ x = (k + (i : Int)) % 4294967296) then none else lookA A x
  sub : r.2.1.Sublist A
  len : r.2.1.length + r.2.2.length ≤ A.length

theorem drain_law : ∀ (f : Nat) (k : Int) (A : List (Int × Nat)), 0 ≤ k → k < 4294967296 → A.length ≤ 65536 → Drained k A (drain f k A)
  | 0, k, A, k0, k1, hA => ⟨by show k = (k + ((0 : Nat) : Int)) % 4294967296; omega, fun i hi => absurd hi (Nat.not_lt_zero _), fun x => by
      show lookA A x = _
      rw [if_neg]
      rintro ⟨i, hi, _⟩
      exact absurd hi (Nat.not_lt_zero _), List.Sublist.refl _, Nat.le_refl _⟩
  | f + 1, k, A, k0, k1, hA => by
    cases hl : lookA A k with
    | none =>
      rw [drain_none hl]
      exact ⟨by show k = (k + ((0 : Nat) : Int)) % 4294967296; omega, fun i hi => absurd hi (Nat.not_lt_zero _), fun x => by
        show lookA A x = _
        rw [if_neg]
        rintro ⟨i, hi, _⟩
        exact absurd hi (Nat.not_lt_zero _), List.Sublist.refl _, Nat.le_refl _⟩
    | some c =>
      have hd := delA_length (lookA_mem hl)
      have ih := drain_law f ((k + 1) % 4294967296) (delA A k) (Int.emod_nonneg _ (by decide)) (Int.emod_lt_of_pos _ (by decide)) (by omega)
      rw [drain_some hl]
      generalize drain f ((k + 1) % 4294967296) (delA A k) = r at ih
      obtain ⟨r1, r2, r3⟩ := r
      obtain ⟨h1, h2, h3, h4, h5⟩ := ih
      simp only at h1 h2 h3 h4 h5
      refine ⟨?_, ?_, ?_, ?_, ?_⟩
      · show r1 = (k + ((c :: r3).length : Int)) % 4294967296
        rw [h1]
        simp only [List.length_cons]
        omega
      · intro i hi
        cases i with
        | zero =>
          show lookA A ((k + ((0 : Nat) : Int)) % 4294967296) = some c
          rw [show (k + ((0 : Nat) : Int)) % 4294967296 = k by omega]
          exact hl
        | succ i =>
          have hi' : i < r3.length := by simpa using hi
          have h := h2 i hi'
          rw [lookA_delA] at h
          split at h
          · cases h
          · show lookA A ((k + ((i + 1 : Nat) : Int)) % 4294967296) = some (r3.getD i 0)
            rw [← h]
            congr 1
            omega
      · intro x
        show lookA r2 x = _
        rw [h3 x, lookA_delA]
        by_cases hx : x = k
        · rw [if_pos hx]
          rw [if_pos (⟨0, Nat.zero_lt_succ _, by rw [hx]; show k = (k + ((0 : Nat) : Int)) % 4294967296; omega⟩ : ∃ i : Nat, i < (c :: r3).length ∧ x = (k + (i : Int)) % 4294967296)]
          split <;> rfl
        · rw [if_neg hx]
          have e : (∃ i : Nat, i < r3.length ∧ x = ((k + 1) % 4294967296 + (i : Int)) % 4294967296) ↔ (∃ i : Nat, i < (c :: r3).length ∧ x = (k + (i : Int)) % 4294967296) := by
            constructor
            · rintro ⟨i, hi, he⟩
              exact ⟨i + 1, by simp only [List.length_cons]; omega, by rw [he]; omega⟩
            · rintro ⟨i, hi, he⟩
              cases i with
              | zero => exact absurd (by rw [he]; omega) hx
              | succ i => exact ⟨i, by simp only [List.length_cons] at hi; omega, by rw [he]; omega⟩
          by_cases he : ∃ i : Nat, i < r3.length ∧ x = ((k + 1) % 4294967296 + (i : Int)) % 4294967296
          · rw [if_pos he, if_pos (e.1 he)]
          · rw [if_neg he, if_neg (fun h => he (e.2 h))]
      · exact h4.trans List.filter_sublist
      · show r2.length + (c :: r3).length ≤ A.length
        simp only [List.length_cons]
        omega

/-- A drain of all that is there stops at a number that is not. -/
theorem drain_stop : ∀ (f : Nat) (k : Int) (A : List (Int × Nat)), A.length ≤ f → lookA (drain f k A).2.1 (drain f k A).1 = none
  | 0, k, A, hA => by
    have : A = [] := List.eq_nil_of_length_eq_zero (by omega)
    subst this
    rfl
  | f + 1, k, A, hA => by
    cases hl : lookA A k with
    | none => rw [drain_none hl]; exact hl
    | some c =>
      have hd := delA_length (lookA_mem hl)
      rw [drain_some hl]
      exact drain_stop f _ _ (by omega)

end Go.Proofs.Ytbpmbmidjdhbpaa

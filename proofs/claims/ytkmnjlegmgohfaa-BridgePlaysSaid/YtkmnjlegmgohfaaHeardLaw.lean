/-
  The plain law of the reference bridge: who is known, found by insertion, is what a sorted list of the keys keeps.
  No conditions.
-/
import Derived.Test.YtkmnjlegmgohfaaKnownFn
import Derived.Test.YtkmnjlegmgohfaaBridgeLearn
import Derived.Test.YtkmnjlegmgohfaaBridgeDownFn
set_option linter.unusedVariables false
set_option linter.unusedSimpArgs false
namespace Go.Proofs.Ytkmnjlegmgohfaa
open Go.RowKit Go.Sort

def freshH (age now : Int) (p : Int × Int × Int) : Bool := decide (now < p.2.2 + age)
/-- One more, ahead of all that are not less. -/
def insUp (x : Int) (l : List Int) : List Int := l.takeWhile (fun y => decide (y < x)) ++ x :: l.dropWhile (fun y => decide (y < x))
def knownL (age now : Int) (l : List (Int × Int × Int)) : List Int := l.foldl (fun out p => if freshH age now p then insUp p.1 out else out) []

theorem insUp_perm (x : Int) (l : List Int) : (insUp x l).Perm (x :: l) := by
  unfold insUp
  refine List.perm_middle.trans ?_
  rw [List.takeWhile_append_dropWhile]

theorem insUp_up (x : Int) (l : List Int) (h : l.Pairwise (· ≤ ·)) : (insUp x l).Pairwise (· ≤ ·) := by
  induction l with
  | nil => simp [insUp]
  | cons y l ih =>
    rw [List.pairwise_cons] at h
    by_cases hy : y < x
    · have e : insUp x (y :: l) = y :: insUp x l := by simp [insUp, hy]
      rw [e, List.pairwise_cons]
      refine ⟨fun z hz => ?_, ih h.2⟩
      rcases List.mem_cons.1 ((insUp_perm x l).mem_iff.1 hz) with h1 | h1
      · omega
      · exact h.1 z h1
    · have e : insUp x (y :: l) = x :: y :: l := by simp [insUp, hy]
      rw [e, List.pairwise_cons]
      refine ⟨fun z hz => ?_, List.pairwise_cons.2 h⟩
      rcases List.mem_cons.1 hz with h1 | h1
      · omega
      · have := h.1 z h1
        omega

theorem knownL_snoc (age now : Int) (l : List (Int × Int × Int)) (p : Int × Int × Int) : knownL age now (l ++ [p]) = if freshH age now p then insUp p.1 (knownL age now l) else knownL age now l := by
  simp [knownL]

theorem knownL_is (age now : Int) (l : List (Int × Int × Int)) : (knownL age now l).Pairwise (· ≤ ·) ∧ (knownL age now l).Perm ((l.filter (freshH age now)).map Prod.fst) := by
  induction l using snoc_ind with
  | h0 => exact ⟨List.Pairwise.nil, List.Perm.refl _⟩
  | h1 l p ih =>
    rw [knownL_snoc, List.filter_append, List.map_append]
    cases hf : freshH age now p with
    | false => simpa [hf] using ih
    | true =>
      simp only [if_true]
      refine ⟨insUp_up _ _ ih.1, (insUp_perm _ _).trans ?_⟩
      have e : [p].filter (freshH age now) = [p] := by simp [hf]
      rw [e]
      exact ((ih.2.cons p.1).trans (List.perm_append_comm (l₁ := [p.1])))

theorem knownL_length (age now : Int) (l : List (Int × Int × Int)) : (knownL age now l).length ≤ l.length := by
  have h := (knownL_is age now l).2.length_eq
  rw [List.length_map] at h
  have := List.length_filter_le (freshH age now) l
  omega

theorem lookH_nodup {L : List (Int × Int × Int)} (hn : (L.map Prod.fst).Nodup) {p : Int × Int × Int} (hp : p ∈ L) : lookH L p.1 = some p.2 := by
  unfold lookH
  cases hf : L.find? (fun q => q.1 == p.1) with
  | none =>
    rw [List.find?_eq_none] at hf
    exact absurd (hf p hp) (by simp)
  | some q =>
    have h1 := List.mem_of_find?_eq_some hf
    have h2 := List.find?_some hf
    simp only [beq_iff_eq] at h2
    rw [inj_nodup _ hn h1 hp h2]
    rfl

theorem known_is (s : BS) (now : Int) (hn : (s.L.map Prod.fst).Nodup) : s.known now = knownL s.age now s.L := by
  have hk := knownL_is s.age now s.L
  have hkeys : (encH s.L).map Prod.fst = s.L.map Prod.fst := by simp [encH]
  refine List.Perm.eq_of_pairwise (le := (· ≤ ·)) (fun a b _ _ h1 h2 => by omega) ?_ hk.1 ?_
  · unfold BS.known keysUp
    have hs : (((encH s.L).map Prod.fst).mergeSort leI).Pairwise (fun a b => leI a b) := List.pairwise_mergeSort (fun a b c h1 h2 => by simp [leI] at *; omega) (fun a b => by simp [leI]; omega) _
    exact (hs.imp (fun h => by simpa [leI] using h)).filter _
  · refine List.Perm.trans ?_ hk.2.symm
    unfold BS.known keysUp
    refine ((List.mergeSort_perm _ _).filter _).trans ?_
    rw [hkeys, List.filter_map]
    have e : s.L.filter ((fun x => !s.gone now x) ∘ Prod.fst) = s.L.filter (freshH s.age now) := by
      refine List.filter_congr fun p hp => ?_
      show (!decide (((lookH s.L p.1).getD (0, 0)).2 + s.age ≤ now)) = decide (now < p.2.2 + s.age)
      rw [lookH_nodup hn hp]
      show (!decide (p.2.2 + s.age ≤ now)) = decide (now < p.2.2 + s.age)
      by_cases h : p.2.2 + s.age ≤ now
      · rw [decide_eq_true h, decide_eq_false (by omega)]; rfl
      · rw [decide_eq_false h, decide_eq_true (by omega)]; rfl
    rw [e]

/-- Who is found first is who is known. -/
theorem find_first (s : BS) (a now : Int) (hn : (s.L.map Prod.fst).Nodup) : s.find a now = (s.L.find? (fun p => p.1 == a && freshH s.age now p)).map (·.2.1) := by
  unfold BS.find
  cases hl : lookH s.L a with
  | none =>
    have hf : s.L.find? (fun p => p.1 == a && freshH s.age now p) = none := by
      rw [List.find?_eq_none]
      intro p hp hc
      simp only [Bool.and_eq_true, beq_iff_eq] at hc
      have := lookH_nodup hn hp
      rw [hc.1, hl] at this
      cases this
    rw [hf]
    rfl
  | some h =>
    have hm := lookH_mem hl
    show (if h.2 + s.age ≤ now then none else some h.1) = _
    by_cases hh : h.2 + s.age ≤ now
    · rw [if_pos hh]
      have hf : s.L.find? (fun p => p.1 == a && freshH s.age now p) = none := by
        rw [List.find?_eq_none]
        intro p hp hc
        simp only [Bool.and_eq_true, beq_iff_eq, freshH, decide_eq_true_eq] at hc
        have := lookH_nodup hn hp
        rw [hc.1, hl] at this
        cases this
        omega
      rw [hf]
      rfl
    · rw [if_neg hh]
      cases hf : s.L.find? (fun p => p.1 == a && freshH s.age now p) with
      | none =>
        rw [List.find?_eq_none] at hf
        exact absurd (hf _ hm) (by simp [freshH]; omega)
      | some p =>
        have h1 := List.mem_of_find?_eq_some hf
        have h2 := List.find?_some hf
        simp only [Bool.and_eq_true, beq_iff_eq] at h2
        have := lookH_nodup hn h1
        rw [h2.1, hl] at this
        cases this
        rfl

end Go.Proofs.Ytkmnjlegmgohfaa

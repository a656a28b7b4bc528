/-
  Who is asked for again, who is given up, what is lost: plain laws.
  Conditions: numbers are of the kind int, the cache's own in their bounds; the cache has the address 10.
-/
import Derived.Test.YthgkdfllddljcaaNeiRow
import Derived.Test.YthgkdfllddljcaaNeiWait
set_option linter.unusedVariables false
set_option linter.unusedSimpArgs false
set_option maxRecDepth 100000
namespace Go.Proofs.Ythgkdfllddljcaa
open Go.RowKit

/-- What waits for an address. -/
def LA (A : List (Int × Asked)) (a : Int) : List Int := ((A.find? (fun p => p.1 == a)).map (fun p => p.2.L)).getD []
def lostAt (lost : List (Int × Int)) (a : Int) : List Int := (lost.filter (fun q => q.1 == a)).map (·.2)
def pksOf (lost : List (Int × Int)) : List Value := (lost.map fun q => pk q.1 q.2).flatten

theorem find_of {A : List (Int × Asked)} (hn : (A.map Prod.fst).Nodup) {a : Int} {x : Asked} (h : (a, x) ∈ A) : A.find? (fun p => p.1 == a) = some (a, x) := by
  cases hf : A.find? (fun p => p.1 == a) with
  | none =>
    have := List.find?_eq_none.1 hf _ h
    simp at this
  | some p =>
    have h1 := List.mem_of_find?_eq_some hf
    have h2 := List.find?_some hf
    have h3 : p.1 = a := by simpa using h2
    rw [inj_nodup Prod.fst hn h1 h h3]
theorem find_setA (A : List (Int × Asked)) (a : Int) (x : Asked) (b : Int) : (setA A a x).find? (fun p => p.1 == b) = (A.find? (fun p => p.1 == b)).map (fun q => if q.1 = a then (q.1, x) else q) := by
  unfold setA
  rw [List.find?_map]
  congr 1
  congr 1
  funext q
  simp only [Function.comp]
  split <;> rfl
theorem find_delA (A : List (Int × Asked)) (a b : Int) : (delA A a).find? (fun p => p.1 == b) = if b = a then none else A.find? (fun p => p.1 == b) := by
  unfold delA
  rw [List.find?_filter]
  by_cases h : b = a
  · rw [if_pos h]
    rw [List.find?_eq_none]
    intro q _
    simp only [bne_iff_ne, ne_eq, beq_iff_eq, decide_eq_true_eq, not_and, h, Bool.decide_and, Bool.and_eq_true]
    intro h1
    simpa using h1
  · rw [if_neg h]
    congr 1
    funext q
    by_cases hq : q.1 = b
    · simp [hq, h]
    · simp [hq]
theorem LA_set {A : List (Int × Asked)} (hn : (A.map Prod.fst).Nodup) {a : Int} {x x' : Asked} (h : (a, x) ∈ A) (hL : x'.L = x.L) (b : Int) : LA (setA A a x') b = LA A b := by
  unfold LA
  rw [find_setA]
  cases hf : A.find? (fun p => p.1 == b) with
  | none => rfl
  | some p =>
    simp only [Option.map_some, Option.getD_some]
    split
    · rename_i e
      have h1 := List.mem_of_find?_eq_some hf
      rw [inj_nodup Prod.fst hn h1 h e]
      exact hL
    · rfl
theorem LA_del (A : List (Int × Asked)) (a b : Int) : LA (delA A a) b = if b = a then [] else LA A b := by
  unfold LA
  rw [find_delA]
  split <;> rfl
theorem LA_of {A : List (Int × Asked)} (hn : (A.map Prod.fst).Nodup) {a : Int} {x : Asked} (h : (a, x) ∈ A) : LA A a = x.L := by
  unfold LA
  rw [find_of hn h]; rfl

structure Ticked (s s' : NS) (lost : List (Int × Int)) : Prop where
  rest : ({ s' with A := s.A } : NS) = s
  all : ∀ a, lostAt lost a ++ LA s'.A a = LA s.A a
  keys : ∀ p ∈ s'.A, ∃ x, (p.1, x) ∈ s.A ∧ p.2.L = x.L ∧ p.2.blk = x.blk ∧ p.2.ws = x.ws ∧ (p.2.at_ = x.at_ ∨ p.2.at_ = s.now)
  who : ∀ q ∈ lost, ∃ x, (q.1, x) ∈ s.A
  many : lost.length + s'.waiting = s.waiting

theorem Ticked.refl (s : NS) : Ticked s s [] := ⟨rfl, fun a => rfl, fun p hp => ⟨p.2, hp, rfl, rfl, rfl, .inl rfl⟩, fun q hq => (by cases hq), by simp⟩

theorem Ticked.ask {s s' : NS} {lost : List (Int × Int)} (h : Ticked s s' lost) (hn : (s'.A.map Prod.fst).Nodup) {a : Int} {x : Asked} (hx : (a, x) ∈ s'.A) : Ticked s { s' with A := setA s'.A a { x with at_ := s.now, twice := true } } lost := by
  refine ⟨h.rest, fun b => ?_, fun p hp => ?_, h.who, ?_⟩
  · show lostAt lost b ++ LA (setA s'.A a { x with at_ := s.now, twice := true }) b = LA s.A b
    rw [LA_set hn hx (x' := { x with at_ := s.now, twice := true }) rfl b]
    exact h.all b
  · rcases mem_setA hp with ⟨hp, _⟩ | ⟨rfl, _⟩
    · exact h.keys p hp
    · obtain ⟨y, h1, h2, h3, h4, _⟩ := h.keys _ hx
      exact ⟨y, h1, h2, h3, h4, .inr rfl⟩
  · rw [← h.many]
    congr 1
    unfold NS.waiting setA
    rw [List.map_map]
    congr 1
    apply List.map_congr_left
    intro q hq
    simp only [Function.comp]
    split
    · rename_i e
      rw [inj_nodup Prod.fst hn hq hx e]
    · rfl

theorem Ticked.lose {s s' : NS} {lost : List (Int × Int)} (h : Ticked s s' lost) (hn : (s'.A.map Prod.fst).Nodup) {a : Int} {x : Asked} (hx : (a, x) ∈ s'.A) : Ticked s { s' with A := delA s'.A a } (lost ++ x.L.map fun i => (a, i)) := by
  refine ⟨h.rest, fun b => ?_, fun p hp => h.keys p (List.mem_filter.1 hp).1, fun q hq => ?_, ?_⟩
  · rw [LA_del, ← h.all b]
    unfold lostAt
    rw [List.filter_append, List.map_append]
    by_cases hb : b = a
    · subst hb
      rw [if_pos rfl, List.append_nil, LA_of hn hx]
      congr 1
      rw [List.filter_eq_self.2 (by intro q hq; obtain ⟨i, _, rfl⟩ := List.mem_map.1 hq; simp), List.map_map]
      exact (List.map_congr_left (g := id) (fun i _ => rfl)).trans (List.map_id _)
    · have e : (x.L.map fun i => (a, i)).filter (fun q => q.1 == b) = [] := List.filter_eq_nil_iff.2 (by
        intro q hq
        obtain ⟨i, _, rfl⟩ := List.mem_map.1 hq
        simpa using fun e => hb e.symm)
      rw [if_neg hb, e]
      simp
  · rcases List.mem_append.1 hq with hq | hq
    · exact h.who q hq
    · obtain ⟨i, _, rfl⟩ := List.mem_map.1 hq
      obtain ⟨y, h1, _⟩ := h.keys _ hx
      exact ⟨y, h1⟩
  · rw [← h.many, List.length_append, List.length_map]
    have hs : s'.waiting = x.L.length + NS.waiting { s' with A := delA s'.A a } := by
      unfold NS.waiting delA
      obtain ⟨l1, l2, hl⟩ := List.append_of_mem hx
      simp only
      rw [hl] at hn ⊢
      simp only [List.map_append, List.map_cons, List.nodup_append, List.nodup_cons] at hn
      obtain ⟨_, ⟨hn2, _⟩, hn3⟩ := hn
      rw [List.filter_append, List.filter_cons_of_neg (by simp)]
      rw [List.filter_eq_self.2 (fun q hq => by simpa using fun e => hn3 q.1 (List.mem_map_of_mem hq) a (by simp) e), List.filter_eq_self.2 (fun q hq => by simpa using fun e => hn2 (by rw [← e]; exact List.mem_map_of_mem hq))]
      simp only [List.map_append, List.map_cons, List.sum_append, List.sum_cons]
      omega
    omega

theorem Ticked.foot {s s' : NS} {lost : List (Int × Int)} (h : Ticked s s' lost) {g c d : Nat} : ∀ k, NFoot g c d s' k → NFoot g c d s k := by
  rintro k (h1 | h1 | h1 | h1 | ⟨p, hp, h1⟩)
  · exact .inl h1
  · exact .inr (.inl h1)
  · exact .inr (.inr (.inl h1))
  · exact .inr (.inr (.inr (.inl (by have := h.rest; rw [← this]; exact h1))))
  · obtain ⟨x, h2, _, h3, h4, _⟩ := h.keys p hp
    exact .inr (.inr (.inr (.inr ⟨_, h2, by rw [← h3, ← h4]; exact h1⟩)))

theorem pksOf_more (lost : List (Int × Int)) (a : Int) (L : List Int) : pksOf (lost ++ L.map fun i => (a, i)) = pksOf lost ++ pks a L := by
  unfold pksOf pks
  rw [List.map_append, List.flatten_append, List.map_map]
  rfl

end Go.Proofs.Ythgkdfllddljcaa

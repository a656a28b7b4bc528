/-
  Lists of what came early: no number twice; which setups are good.
  No conditions.
-/
import Derived.Test.YteifehienpeaiaaTakeNext
set_option linter.unusedVariables false
set_option linter.unusedSimpArgs false
namespace Go.Proofs.Yteifehienpeaiaa
open Go.RowKit

def SetOk (room wait beat : Int) : Prop := (1 ≤ room ∧ room ≤ 64) ∧ (1 ≤ wait ∧ wait ≤ 1048576) ∧ (1 ≤ beat ∧ beat ≤ 1048576)
def NewOk (room wait beat epoch role mark now : Int) : Prop := SetOk room wait beat ∧ wordB epoch = true ∧ wordB mark = true ∧ roleB role = true ∧ 0 ≤ now ∧ now ≤ 1099511627776

/-- No number twice. -/
def DistE (E : List (Int × ByteArray)) : Prop := (E.map (·.1)).Nodup

theorem lookE_cons (p : Int × ByteArray) (E : List (Int × ByteArray)) (n : Int) : lookE (p :: E) n = if p.1 = n then some p.2 else lookE E n := by
  unfold lookE
  rw [List.find?_cons]
  by_cases h : p.1 = n
  · simp [h]
  · have : (p.1 == n) = false := by simpa using h
    simp [h, this]

theorem delE_absent : ∀ (E : List (Int × ByteArray)) (n : Int), n ∉ E.map (·.1) → delE E n = E := by
  intro E n h
  unfold delE
  rw [List.filter_eq_self]
  intro p hp
  have : p.1 ≠ n := fun e => h (List.mem_map.2 ⟨p, hp, e⟩)
  simpa using this

theorem early_cut : ∀ (E : List (Int × ByteArray)) (n : Int) (d : ByteArray), DistE E → lookE E n = some d → ∃ i, i < E.length ∧ E[i]? = some (n, d) ∧ delE E n = E.take i ++ E.drop (i + 1)
  | [], n, d, _, h => by cases h
  | p :: E, n, d, hd, h => by
    have hd' : p.1 ∉ E.map (·.1) ∧ (E.map (·.1)).Nodup := List.nodup_cons.1 hd
    rw [lookE_cons] at h
    split at h
    · rename_i hp
      obtain rfl := Option.some.inj h
      refine ⟨0, by simp, by simp [← hp], ?_⟩
      · have := delE_absent E n (by rw [← hp]; exact hd'.1)
        unfold delE at this ⊢
        rw [List.filter_cons_of_neg (by simp [hp])]
        simpa using this
    · rename_i hp
      obtain ⟨i, h2, h3, h4⟩ := early_cut E n d hd'.2 h
      refine ⟨i + 1, by simp; omega, by simpa using h3, ?_⟩
      · unfold delE at h4 ⊢
        rw [List.filter_cons_of_pos (by simpa using hp), h4]
        simp

theorem DistE.del {E : List (Int × ByteArray)} (h : DistE E) (n : Int) : DistE (delE E n) := by
  unfold DistE delE at *
  exact h.sublist ((List.filter_sublist).map _)

theorem DistE.add {E : List (Int × ByteArray)} (h : DistE E) {n : Int} (d : ByteArray) (hn : lookE E n = none) : DistE (E ++ [(n, d)]) := by
  unfold DistE at *
  rw [List.map_append, List.nodup_append]
  refine ⟨h, by simp, ?_⟩
  intro a ha b hb
  obtain ⟨p, hp, rfl⟩ := List.mem_map.1 ha
  simp at hb
  subst hb
  intro e
  unfold lookE at hn
  rw [Option.map_eq_none_iff, List.find?_eq_none] at hn
  exact hn p hp (by simpa using e)

end Go.Proofs.Yteifehienpeaiaa

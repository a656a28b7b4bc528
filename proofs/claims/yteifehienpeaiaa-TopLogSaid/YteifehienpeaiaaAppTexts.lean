/-
  append at rows of strings: what comes of it, and where it lies.
  Conditions: lists of at most a million.
-/
import Derived.Test.YteifehienpeaiaaPairFn
import Derived.Laws.OwnMore
set_option linter.unusedVariables false
set_option linter.unusedSimpArgs false
set_option maxRecDepth 100000
namespace Go.Proofs.Yteifehienpeaiaa
open Go.RowKit

/-- A slice of strings that reads as this list, nil or at a place. -/
def TSrc (w : World) (x : Value) (L : List ByteArray) : Prop := (x = .slice none 0 0 ∧ L = []) ∨ ∃ (ad : Addr) (c : Nat), x = .slice (some ad) L.length c ∧ ∀ j u, (L.map Value.string)[j]? = some u → w.cell? (ad.add j) = some u
theorem row_src {w : World} {B : Nat} {v : Value} {L : List ByteArray} (h : w.ownsRow B 9 1 v L.length (L.map Value.string)) : TSrc w v L := by
  obtain ⟨h1, ⟨rfl, h0⟩ | ⟨g, cap, cur, rfl, hb, hg, hc, hm, hs, ht⟩⟩ := id h
  · exact .inl ⟨rfl, List.eq_nil_of_length_eq_zero h0⟩
  · refine .inr ⟨⟨g, 0, none⟩, cap, rfl, fun j u hj => ?_⟩
    exact World.ownsRow.cells h (g := g) rfl j u hj
theorem TSrc.keep {w w' : World} {x : Value} {L : List ByteArray} (h : TSrc w x L) (hk : Only (fun _ => False) w w') : TSrc w' x L := by
  rcases h with h | ⟨ad, c, rfl, h⟩
  · exact .inl h
  · exact .inr ⟨ad, c, rfl, fun j u hj => cell_only hk (fun h => h) (h j u hj)⟩
theorem one_src {w : World} {k : Nat} {s : ByteArray} (h : w.heap[k]? = some (.cells #[.string s] 9 (0, 0))) : TSrc w (.slice (some ⟨k, 0, none⟩) 1 1) [s] := by
  refine .inr ⟨⟨k, 0, none⟩, 1, rfl, fun j u hj => ?_⟩
  rw [Addr.add_lit, Nat.zero_add]
  exact (blk_cell h j).trans (by simpa using hj)

section
variable (w : World)
theorem append_texts (ty : TypeId) (B : Nat) (dv x : Value) (D L : List ByteArray) (hD : w.ownsRow B 9 1 dv D.length (D.map Value.string)) (hL : TSrc w x L) (hB : B ≤ w.heap.size) (hl : D.length + L.length ≤ 1000000) :
    ∃ v' w', (Builtin.append_ #[43, 43] ty #[dv, x]).run Try.prog w = .ok v' w' ∧ w'.ownsRow B 9 1 v' (D ++ L).length ((D ++ L).map Value.string) ∧ w.grownBy w' dv.ownBlock ∧ (∀ b, v'.ownBlock = some b → dv.ownBlock = some b ∨ w.heap.size ≤ b) := by
  obtain ⟨i9, hi, hz0, hz1, hz2⟩ := info_parts info9
  rw [List.length_append, List.map_append]
  rcases hL with ⟨rfl, rfl⟩ | ⟨ad, c, rfl, hnews⟩
  · refine ⟨dv, w, run_append_owned_none (P := Try.prog) (w := w) B 43 ty 9 i9 1 Try.underlying43 hi dv D.length _ hD, by simpa using hD, ⟨rfl, rfl, rfl, Nat.le_refl _, fun _ _ _ => rfl⟩, fun b hb => .inl hb⟩
  · have h1 : ∀ u ∈ L.map Value.string, u.oneCell' = true := by
      intro u hu
      obtain ⟨s, _, rfl⟩ := List.mem_map.1 hu
      rfl
    have hln : (L.map Value.string).length = L.length * 1 := by rw [List.length_map, Nat.mul_one]
    have hm : D.length + L.length ≤ maxLen := by simp only [maxLen]; omega
    have hby : (D.length + L.length) * 16 ≤ 140737488355328 := by omega
    obtain ⟨v', w', hr, h2, h3, _⟩ := run_append_own (P := Try.prog) w B 43 ty 9 i9 (.string ⟨#[]⟩) 1 16 Try.underlying43 hi hz0 hz1 hz2 rfl (by decide) dv D.length (D.map Value.string) hD ad L.length c (L.map Value.string) hln hnews h1 hm hby hB
    refine ⟨v', w', hr, h2, h3, ?_⟩
    rcases id hD with ⟨q1, ⟨rfl, h0⟩ | ⟨g, cap, cur, rfl, hb, hg, hnc, hcm, hcs, htake⟩⟩
    · have h0' : w.ownsRow w.heap.size 9 1 (.slice none 0 0) D.length (D.map Value.string) := ⟨q1, .inl ⟨rfl, h0⟩⟩
      obtain ⟨v2, w2, hr2, g2, _⟩ := run_append_own (P := Try.prog) w w.heap.size 43 ty 9 i9 (.string ⟨#[]⟩) 1 16 Try.underlying43 hi hz0 hz1 hz2 rfl (by decide) (.slice none 0 0) D.length (D.map Value.string) h0' ad L.length c (L.map Value.string) hln hnews h1 hm hby (Nat.le_refl _)
      rw [hr] at hr2
      injection hr2 with e1 e2
      subst e1 e2
      exact fun b hb => .inr (g2.lt b hb).1
    · by_cases hroom : D.length + L.length ≤ cap
      · have hfit : D.length * i9.size + (L.map Value.string).length ≤ cur.size := by rw [hz1, List.length_map, hcs]; omega
        have hr2 := run_append_room (P := Try.prog) w 43 ty 9 i9 Try.underlying43 hi g D.length cap cur hg ad L.length c (L.map Value.string) (by rw [hz1]; exact hln) hnews h1 hroom hfit
        rw [hr] at hr2
        injection hr2 with e1 e2
        subst e1
        exact fun b hb => .inl hb
      · have holds : ∀ j u, (D.map Value.string)[j]? = some u → w.cell? ((⟨g, 0, none⟩ : Addr).add j) = some u := hD.cells (g := g) rfl
        have hr2 := run_append_grow (P := Try.prog) w 43 ty 9 i9 (.string ⟨#[]⟩) Try.underlying43 hi hz0 ⟨g, 0, none⟩ D.length cap (D.map Value.string) (by rw [hz1]; exact q1) holds ad L.length c (L.map Value.string) (by rw [hz1]; exact hln) hnews (by omega) (by omega) (growslice_fits (by omega) (by rw [hz2]; exact hby))
        rw [hr] at hr2
        injection hr2 with e1 e2
        subst e1
        exact fun b hb => .inr (by cases hb; exact Nat.le_refl _)
end

end Go.Proofs.Yteifehienpeaiaa

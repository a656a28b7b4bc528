/-
  The plain law of the reference queue's Apart: the stretches of what is there, as a scan from the left finds them.
  No conditions.
-/
import Derived.Test.YtbpmbmidjdhbpaaRefPutLaw
set_option linter.unusedVariables false
set_option linter.unusedSimpArgs false
namespace Go.Proofs.Ytbpmbmidjdhbpaa
open Go.RowKit

structure RunsAll (D : List Int) (n : Nat) (L : List (Int × Int)) : Prop where
  up : L.Pairwise (fun p r => p.2 < r.1)
  each : ∀ p ∈ L, p.1 < p.2 ∧ ∀ d, p.1 ≤ d → d < p.2 → d ∈ D
  all : ∀ m, m < n → ∃ p ∈ L, p.1 ≤ D.getD m 0 ∧ D.getD m 0 < p.2
  last : 0 < n → ∃ M p, L = M ++ [p] ∧ p.2 = D.getD (n - 1) 0 + 1
  none : n = 0 → L = []

theorem runs_all (D : List Int) (hD : D.Pairwise (· < ·)) : ∀ i, i ≤ D.length → RunsAll D i (runs D i)
  | 0, _ => ⟨List.Pairwise.nil, fun p hp => (by cases hp), fun m hm => absurd hm (Nat.not_lt_zero _), fun h => absurd h (Nat.lt_irrefl _), fun _ => rfl⟩
  | i + 1, hi => by
    have ih := runs_all D hD i (by omega)
    have hmem : D.getD i 0 ∈ D := by rw [getD_at D _ (by omega)]; exact List.getElem_mem _
    have hlt : 0 < i → D.getD (i - 1) 0 < D.getD i 0 := fun h0 => by
      rw [getD_at D _ (by omega), getD_at D _ (by omega)]
      exact List.pairwise_iff_getElem.1 hD (i - 1) i (by omega) (by omega) (by omega)
    unfold runs
    split
    · rename_i hc
      obtain ⟨h0, hj⟩ := hc
      obtain ⟨M, p, he, hp2⟩ := ih.last h0
      have hup := ih.up
      have heach := ih.each
      have hall := ih.all
      rw [he] at hup heach hall ⊢
      have h1 : (M ++ [p]).dropLast = M := by simp
      have h2 : (M ++ [p]).getLastD (0, 0) = p := by simp
      rw [h1, h2]
      have hp := heach p (by simp)
      rw [List.pairwise_append] at hup
      refine ⟨?_, ?_, ?_, ?_, fun h => absurd h (Nat.succ_ne_zero _)⟩
      · rw [List.pairwise_append]
        refine ⟨hup.1, List.pairwise_singleton _ _, fun a ha b hb' => ?_⟩
        rw [List.mem_singleton] at hb'
        subst hb'
        exact hup.2.2 a ha p (by simp)
      · intro r hr
        rcases List.mem_append.1 hr with h | h
        · exact heach r (List.mem_append_left _ h)
        · rw [List.mem_singleton] at h
          subst h
          refine ⟨by show p.1 < D.getD i 0 + 1; omega, fun d d0 d1 => ?_⟩
          by_cases hd : d < p.2
          · exact hp.2 d d0 hd
          · have : d = D.getD i 0 := by
              have d1' : d < D.getD i 0 + 1 := d1
              omega
            rw [this]; exact hmem
      · intro m hm
        by_cases hmi : m = i
        · refine ⟨(p.1, D.getD i 0 + 1), by simp, ?_, ?_⟩
          · rw [hmi]; show p.1 ≤ D.getD i 0; omega
          · rw [hmi]; show D.getD i 0 < D.getD i 0 + 1; omega
        · obtain ⟨r, hr, h3, h4⟩ := hall m (by omega)
          rcases List.mem_append.1 hr with h | h
          · exact ⟨r, List.mem_append_left _ h, h3, h4⟩
          · rw [List.mem_singleton] at h
            subst h
            refine ⟨(r.1, D.getD i 0 + 1), by simp, h3, ?_⟩
            show D.getD m 0 < D.getD i 0 + 1
            omega
      · intro _
        exact ⟨M, _, rfl, by simp⟩
    · rename_i hc
      refine ⟨?_, ?_, ?_, ?_, fun h => absurd h (Nat.succ_ne_zero _)⟩
      · rw [List.pairwise_append]
        refine ⟨ih.up, List.pairwise_singleton _ _, fun a ha b hb' => ?_⟩
        rw [List.mem_singleton] at hb'
        subst hb'
        show a.2 < D.getD i 0
        by_cases h0 : 0 < i
        · obtain ⟨M, p, he, hp2⟩ := ih.last h0
          have hl := hlt h0
          have hn : D.getD (i - 1) 0 ≠ D.getD i 0 - 1 := fun h => hc ⟨h0, h⟩
          have hup := ih.up
          have hp := ih.each p (by rw [he]; simp)
          rw [he] at ha hup
          rw [List.pairwise_append] at hup
          rcases List.mem_append.1 ha with h | h
          · have := hup.2.2 a h p (by simp)
            omega
          · rw [List.mem_singleton] at h
            subst h
            omega
        · rw [ih.none (by omega)] at ha
          cases ha
      · intro r hr
        rcases List.mem_append.1 hr with h | h
        · exact ih.each r h
        · rw [List.mem_singleton] at h
          subst h
          refine ⟨by show D.getD i 0 < D.getD i 0 + 1; omega, fun d d0 d1 => ?_⟩
          have : d = D.getD i 0 := by
            have d0' : D.getD i 0 ≤ d := d0
            have d1' : d < D.getD i 0 + 1 := d1
            omega
          rw [this]; exact hmem
      · intro m hm
        by_cases hmi : m = i
        · refine ⟨(D.getD i 0, D.getD i 0 + 1), by simp, ?_, ?_⟩
          · rw [hmi]; exact Int.le_refl _
          · rw [hmi]; show D.getD i 0 < D.getD i 0 + 1; omega
        · obtain ⟨r, hr, h3, h4⟩ := ih.all m (by omega)
          exact ⟨r, List.mem_append_left _ hr, h3, h4⟩
      · intro _
        exact ⟨_, _, rfl, by simp⟩

/-- Where a scan stands: the first j stretches lie ahead of i, the others begin at i or behind. -/
structure Scan (L : List (Int × Int)) (i j : Nat) : Prop where
  le : j ≤ L.length
  pre : ∀ m, m < j → (L.getD m (0, 0)).2 ≤ i
  post : ∀ m, j ≤ m → m < L.length → (i : Int) ≤ (L.getD m (0, 0)).1

theorem pget (L : List (Int × Int)) (m : Nat) (h : m < L.length) : L.getD m (0, 0) = L[m] := by rw [List.getD_eq_getElem?_getD, List.getElem?_eq_getElem h]; rfl

section
variable {D : List Int} {L : List (Int × Int)} (hR : RunsAll D D.length L)
include hR
theorem RunsAll.lt {a b : Nat} (hab : a < b) (hb : b < L.length) : (L.getD a (0, 0)).2 < (L.getD b (0, 0)).1 := by
  rw [pget L a (by omega), pget L b hb]
  exact List.pairwise_iff_getElem.1 hR.up a b (by omega) hb hab
theorem RunsAll.inn {a : Nat} (ha : a < L.length) : (L.getD a (0, 0)).1 < (L.getD a (0, 0)).2 ∧ ∀ d, (L.getD a (0, 0)).1 ≤ d → d < (L.getD a (0, 0)).2 → d ∈ D := by
  rw [pget L a ha]
  exact hR.each _ (List.getElem_mem ha)
theorem RunsAll.find {d : Int} (hd : d ∈ D) : ∃ m, m < L.length ∧ (L.getD m (0, 0)).1 ≤ d ∧ d < (L.getD m (0, 0)).2 := by
  obtain ⟨k, hk, rfl⟩ := List.mem_iff_getElem.1 hd
  obtain ⟨p, hp, h1, h2⟩ := hR.all k hk
  rw [getD_at D k hk] at h1 h2
  obtain ⟨m, hm, rfl⟩ := List.mem_iff_getElem.1 hp
  exact ⟨m, hm, by rw [pget L m hm]; exact h1, by rw [pget L m hm]; exact h2⟩

theorem Scan.skip {i j : Nat} (h : Scan L i j) (hi : (i : Int) ∉ D) : Scan L (i + 1) j := by
  refine ⟨h.le, fun m hm => by have := h.pre m hm; omega, fun m h1 h2 => ?_⟩
  have h3 := h.post m h1 h2
  have h4 := hR.inn h2
  rcases Int.lt_or_eq_of_le h3 with h5 | h5
  · omega
  · exact absurd (h4.2 i (by omega) (by omega)) hi

theorem Scan.take {i j : Nat} (h : Scan L i j) (hi : (i : Int) ∈ D) : j < L.length ∧ (L.getD j (0, 0)).1 = i ∧ ∃ e : Nat, (L.getD j (0, 0)).2 = (e : Int) ∧ i < e ∧ (∀ d : Nat, i ≤ d → d < e → (d : Int) ∈ D) ∧ (e : Int) ∉ D ∧ Scan L (e + 1) (j + 1) := by
  obtain ⟨m, hm, h1, h2⟩ := hR.find hi
  have hmj : j ≤ m := by
    apply Classical.byContradiction
    intro hn
    have := h.pre m (by omega)
    omega
  have hj : j < L.length := by omega
  have hp := h.post j (Nat.le_refl _) hj
  have hmj2 : m = j := by
    apply Classical.byContradiction
    intro hn
    have h3 := hR.lt (a := j) (b := m) (by omega) hm
    have h4 := (hR.inn hj).1
    omega
  subst hmj2
  have hone : (L.getD m (0, 0)).1 = i := by omega
  obtain ⟨e, he⟩ := Int.eq_ofNat_of_zero_le (show 0 ≤ (L.getD m (0, 0)).2 by omega)
  have hin := hR.inn hm
  refine ⟨hm, hone, e, he, by omega, fun d d0 d1 => hin.2 d (by omega) (by omega), ?_, by omega, ?_, ?_⟩
  · intro hc
    obtain ⟨k, hk, k1, k2⟩ := hR.find hc
    rcases Nat.lt_trichotomy k m with h5 | h5 | h5
    · have := hR.lt h5 hm
      have := hin.1
      omega
    · subst h5; omega
    · have := hR.lt h5 hk
      omega
  · intro k hk
    by_cases hkm : k = m
    · subst hkm; omega
    · have := h.pre k (by omega)
      omega
  · intro k h5 h6
    have := hR.lt (a := m) (b := k) (by omega) h6
    omega

theorem Scan.done {i j : Nat} (h : Scan L i j) (hi : ∀ d ∈ D, d < (i : Int)) : j = L.length := by
  apply Classical.byContradiction
  intro hn
  have hj : j < L.length := by have := h.le; omega
  have h1 := h.post j (Nat.le_refl _) hj
  have h2 := hR.inn hj
  have h3 := hi _ (h2.2 _ (Int.le_refl _) h2.1)
  omega
end

theorem scan_new {D : List Int} {L : List (Int × Int)} (hR : RunsAll D D.length L) (h0 : ∀ d ∈ D, 0 ≤ d) : Scan L 0 0 :=
  ⟨Nat.zero_le _, fun m hm => absurd hm (Nat.not_lt_zero _), fun m _ h2 => by
    have h3 := hR.inn h2
    exact h0 _ (h3.2 _ (Int.le_refl _) h3.1)⟩

theorem far_mem2 {q : QS} (h : QInv q) (d : Nat) (hd : d ≤ 1000000) : (d : Int) ∈ q.far ↔ (lookA q.A (beh q.next d)).isSome := by
  rw [(far_perm q).mem_iff]
  constructor
  · intro hm
    obtain ⟨p, hp, he⟩ := List.mem_map.1 hm
    have h1 := (h.inw.key p hp).1
    have e1 := beh_offs h.n0 h.n1 h1.1 h1.2
    have := lookA_of_mem hp
    unfold beh
    rw [← he]
    show (lookA q.A ((q.next + offs q.next p.1) % 4294967296)).isSome
    rw [e1]
    exact this
  · intro hl
    obtain ⟨c, hc⟩ := Option.isSome_iff_exists.1 hl
    have := List.mem_map_of_mem (f := fun p : Int × Nat => offs q.next p.1) (lookA_mem hc)
    have e := offs_beh2 (nx := q.next) d hd
    have h3 : offs q.next (beh q.next d) ∈ q.A.map fun p => offs q.next p.1 := this
    rw [e] at h3
    exact h3

theorem far_in {q : QS} (h : QInv q) : ∀ d ∈ q.far, 0 ≤ d ∧ d < q.room - q.s.size := by
  intro d hd
  rw [(far_perm q).mem_iff] at hd
  obtain ⟨p, hp, he⟩ := List.mem_map.1 hd
  have h2 := (h.inw.key p hp).2.2
  rw [← he]
  refine ⟨?_, h2⟩
  show 0 ≤ offs q.next p.1
  unfold offs
  exact Int.emod_nonneg _ (by decide)

/-- What a queue's stretches are, told by a scan. -/
structure QScan (q : QS) (L : List (Int × Int)) : Prop where
  is : q.stretches = L.map (told q.next)
  all : RunsAll q.far q.far.length L
theorem qscan {q : QS} (h : QInv q) : QScan q (runs q.far q.far.length) := ⟨rfl, runs_all q.far (far_up h) _ (Nat.le_refl _)⟩

end Go.Proofs.Ytbpmbmidjdhbpaa

/-
  The plain law of RecvqApart: stretches of rising numbers; what is put apart, again, and at next.
  No conditions.
-/
import Derived.Test.YtbpmbmidjdhbpaaStreamLaw
import Derived.Test.YtbpmbmidjdhbpaaRecvApart
set_option linter.unusedVariables false
set_option linter.unusedSimpArgs false
namespace Go.Proofs.Ytbpmbmidjdhbpaa
open Go.RowKit Go.Sort

/-- Stretches that rise and touch neither one another nor 0, of numbers that are there. -/
structure RunsOk (D : List Int) (n : Nat) (L : List (Int × Int)) : Prop where
  up : L.Pairwise (fun p r => p.2 < r.1)
  each : ∀ p ∈ L, 1 ≤ p.1 ∧ p.1 < p.2 ∧ p.2 ≤ 80 ∧ ∀ d, p.1 ≤ d → d < p.2 → d ∈ D
  sum : (L.map (fun p => p.2 - p.1)).sum = n
  last : 0 < n → ∃ M p, L = M ++ [p] ∧ p.2 = D.getD (n - 1) 0 + 1
  none : n = 0 → L = []

theorem getD_at (D : List Int) (i : Nat) (h : i < D.length) : D.getD i 0 = D[i] := by rw [List.getD_eq_getElem?_getD, List.getElem?_eq_getElem h]; rfl

theorem runs_ok (D : List Int) (hD : D.Pairwise (· < ·)) (hb : ∀ d ∈ D, 1 ≤ d ∧ d < 80) : ∀ i, i ≤ D.length → RunsOk D i (runs D i)
  | 0, _ => ⟨List.Pairwise.nil, fun p hp => (by cases hp), rfl, fun h => absurd h (Nat.lt_irrefl _), fun _ => rfl⟩
  | i + 1, hi => by
    have ih := runs_ok D hD hb i (by omega)
    have hmem : D.getD i 0 ∈ D := by rw [getD_at D _ (by omega)]; exact List.getElem_mem _
    have hbi := hb _ hmem
    have hlt : 0 < i → D.getD (i - 1) 0 < D.getD i 0 := fun h0 => by
      rw [getD_at D _ (by omega), getD_at D _ (by omega)]
      exact List.pairwise_iff_getElem.1 hD (i - 1) i (by omega) (by omega) (by omega)
    unfold runs
    split
    · rename_i hc
      obtain ⟨h0, hj⟩ := hc
      obtain ⟨M, p, he, hp2⟩ := ih.last h0
      have hup := ih.up
      have heach := ih.each
      have hsum := ih.sum
      rw [he] at hup heach hsum ⊢
      have h1 : (M ++ [p]).dropLast = M := by simp
      have h2 : (M ++ [p]).getLastD (0, 0) = p := by simp
      rw [h1, h2]
      have hp := heach p (by simp)
      rw [List.pairwise_append] at hup
      refine ⟨?_, ?_, ?_, ?_, fun h => absurd h (Nat.succ_ne_zero _)⟩
      · rw [List.pairwise_append]
        refine ⟨hup.1, List.pairwise_singleton _ _, fun a ha b hb' => ?_⟩
        rw [List.mem_singleton] at hb'
        subst hb'
        exact hup.2.2 a ha p (by simp)
      · intro r hr
        rcases List.mem_append.1 hr with h | h
        · exact heach r (List.mem_append_left _ h)
        · rw [List.mem_singleton] at h
          subst h
          refine ⟨hp.1, by show p.1 < D.getD i 0 + 1; omega, by show D.getD i 0 + 1 ≤ 80; omega, fun d d0 d1 => ?_⟩
          by_cases hd : d < p.2
          · exact hp.2.2.2 d d0 hd
          · have : d = D.getD i 0 := by
              have d1' : d < D.getD i 0 + 1 := d1
              omega
            rw [this]; exact hmem
      · simp only [List.map_append, List.map_cons, List.map_nil, List.sum_append, List.sum_cons, List.sum_nil] at hsum ⊢
        omega
      · intro _
        exact ⟨M, _, rfl, by simp⟩
    · rename_i hc
      refine ⟨?_, ?_, ?_, ?_, fun h => absurd h (Nat.succ_ne_zero _)⟩
      · rw [List.pairwise_append]
        refine ⟨ih.up, List.pairwise_singleton _ _, fun a ha b hb' => ?_⟩
        rw [List.mem_singleton] at hb'
        subst hb'
        show a.2 < D.getD i 0
        by_cases h0 : 0 < i
        · obtain ⟨M, p, he, hp2⟩ := ih.last h0
          have hl := hlt h0
          have hn : D.getD (i - 1) 0 ≠ D.getD i 0 - 1 := fun h => hc ⟨h0, h⟩
          have hup := ih.up
          have hp := ih.each p (by rw [he]; simp)
          rw [he] at ha hup
          rw [List.pairwise_append] at hup
          rcases List.mem_append.1 ha with h | h
          · have := hup.2.2 a h p (by simp)
            omega
          · rw [List.mem_singleton] at h
            subst h
            omega
        · rw [ih.none (by omega)] at ha
          cases ha
      · intro r hr
        rcases List.mem_append.1 hr with h | h
        · exact ih.each r h
        · rw [List.mem_singleton] at h
          subst h
          refine ⟨hbi.1, by show D.getD i 0 < D.getD i 0 + 1; omega, by show D.getD i 0 + 1 ≤ 80; omega, fun d d0 d1 => ?_⟩
          have : d = D.getD i 0 := by
            have d0' : D.getD i 0 ≤ d := d0
            have d1' : d < D.getD i 0 + 1 := d1
            omega
          rw [this]; exact hmem
      · have hsum := ih.sum
        simp only [List.map_append, List.map_cons, List.map_nil, List.sum_append, List.sum_cons, List.sum_nil] at hsum ⊢
        omega
      · intro _
        exact ⟨_, _, rfl, by simp⟩

/-- A number, so far behind next. -/
def beh (nx : Int) (d : Nat) : Int := (nx + (d : Int)) % 4294967296

theorem offs_beh {nx : Int} (d : Nat) (n0 : 0 ≤ nx) (n1 : nx < 4294967296) (hd : d ≤ 1000) : offs nx (beh nx d) = d := by
  unfold offs beh
  omega
theorem beh_offs {nx x : Int} (n0 : 0 ≤ nx) (n1 : nx < 4294967296) (x0 : 0 ≤ x) (x1 : x < 4294967296) : (nx + offs nx x) % 4294967296 = x := by
  unfold offs
  omega

theorem far_perm (q : QS) : q.far.Perm (q.A.map fun p => offs q.next p.1) := List.mergeSort_perm _ _
theorem far_length (q : QS) : q.far.length = q.A.length := by rw [(far_perm q).length_eq, List.length_map]

theorem far_nodup {q : QS} (h : QInv q) : (q.A.map fun p => offs q.next p.1).Nodup := by
  have hn := h.inw.nd
  have hk := h.inw.key
  have n0 := h.n0
  have n1 := h.n1
  generalize q.A = A at *
  generalize q.next = nx at *
  clear h
  induction A with
  | nil => exact List.nodup_nil
  | cons p A ih =>
    rw [List.map_cons, List.nodup_cons] at hn ⊢
    refine ⟨?_, ih hn.2 (fun r hr => hk r (List.mem_cons_of_mem _ hr))⟩
    intro hm
    obtain ⟨r, hr, he⟩ := List.mem_map.1 hm
    apply hn.1
    have h1 := (hk p List.mem_cons_self).1
    have h2 := (hk r (List.mem_cons_of_mem _ hr)).1
    have e1 := beh_offs n0 n1 h1.1 h1.2
    have e2 := beh_offs n0 n1 h2.1 h2.2
    rw [← e1, ← he, e2]
    exact List.mem_map_of_mem hr

theorem far_up {q : QS} (h : QInv q) : q.far.Pairwise (· < ·) := by
  have hs : q.far.Pairwise (fun a b => leI a b) := List.pairwise_mergeSort (fun a b c h1 h2 => by simp [leI] at *; omega) (fun a b => by simp [leI]; omega) _
  have hn : q.far.Nodup := (far_perm q).nodup_iff.2 (far_nodup h)
  have := hs.and hn
  refine this.imp ?_
  rintro a b ⟨h1, h2⟩
  simp [leI] at h1
  omega

theorem far_mem {q : QS} (h : QInv q) (d : Nat) (hd : d ≤ 1000) : (d : Int) ∈ q.far ↔ (lookA q.A (beh q.next d)).isSome := by
  rw [(far_perm q).mem_iff]
  constructor
  · intro hm
    obtain ⟨p, hp, he⟩ := List.mem_map.1 hm
    have h1 := (h.inw.key p hp).1
    have e1 := beh_offs h.n0 h.n1 h1.1 h1.2
    have := lookA_of_mem hp
    unfold beh
    rw [← he]
    show (lookA q.A ((q.next + offs q.next p.1) % 4294967296)).isSome
    rw [e1]
    exact this
  · intro hl
    obtain ⟨c, hc⟩ := Option.isSome_iff_exists.1 hl
    have := List.mem_map_of_mem (f := fun p : Int × Nat => offs q.next p.1) (lookA_mem hc)
    have e := offs_beh d h.n0 h.n1 hd
    have h3 : offs q.next (beh q.next d) ∈ q.A.map fun p => offs q.next p.1 := this
    rw [e] at h3
    exact h3

theorem far_bounds {q : QS} (h : QInv q) (hr : q.room = 80) (hs : q.s.size = 0) : ∀ d ∈ q.far, 1 ≤ d ∧ d < 80 := by
  intro d hd
  rw [(far_perm q).mem_iff] at hd
  obtain ⟨p, hp, he⟩ := List.mem_map.1 hd
  have h1 := h.pos p hp
  have h2 := (h.inw.key p hp).2.2
  rw [hr, hs] at h2
  rw [← he]
  show 1 ≤ offs q.next p.1 ∧ offs q.next p.1 < 80
  omega

/-- What a queue of RecvqApart is, ahead of what is put at next. -/
structure AInv (q : QS) : Prop where
  inv : QInv q
  next : q.next = 4294967276
  room : q.room = 80
  s : q.s = ⟨#[]⟩
  xs : ∀ p ∈ q.A, p.2 = 120

theorem AInv.size {q : QS} (h : AInv q) : q.s.size = 0 := by rw [h.s]; rfl
theorem AInv.far {q : QS} (h : AInv q) : q.far.Pairwise (· < ·) ∧ (∀ d ∈ q.far, 1 ≤ d ∧ d < 80) ∧ RunsOk q.far q.far.length (runs q.far q.far.length) :=
  have h2 := far_bounds h.inv h.room h.size
  ⟨far_up h.inv, h2, runs_ok q.far (far_up h.inv) h2 _ (Nat.le_refl _)⟩
theorem AInv.alen {q : QS} (h : AInv q) : q.A.length ≤ 80 := by
  have h1 := h.inv.inw.length h.inv.n0 h.inv.n1
  rw [h.room, h.size] at h1
  unfold mx at h1
  split at h1 <;> omega

theorem put_still {q : QS} (at_ : Int) (s : ByteArray) (hl : lookA (q.laid at_ s).A q.next = none) : q.put at_ s = { q with A := (q.laid at_ s).A, s := q.s ++ bytesOf [] } := by
  have hd : (q.laid at_ s).drained = (q.next, (q.laid at_ s).A, []) := drain_none hl _
  show (⟨(q.laid at_ s).drained.1, q.room, q.s ++ bytesOf (q.laid at_ s).drained.2.2, (q.laid at_ s).drained.2.1⟩ : QS) = _
  rw [hd]

/-- A piece of x that doesn't touch next. -/
theorem AInv.put {q : QS} (h : AInv q) (x : Nat) (hx : x < 90) (s : ByteArray) (hs : s.size ≤ 40) (h120 : ∀ j, j < s.size → (s.data.toList.getD j 0).toNat = 120) : AInv (q.put ((4294967276 + (1 + (x : Int))) % 4294967296) s) := by
  have hb := cutKeep_bounds (a := (4294967276 + (1 + (x : Int))) % 4294967296) (left := q.next) (show (0 : Int) ≤ s.size by omega) (show 0 ≤ q.room - q.s.size by rw [h.room, h.size]; decide)
  have hq := h.inv.put (at_ := (4294967276 + (1 + (x : Int))) % 4294967296) (s := s) (Int.emod_nonneg _ (by decide)) (Int.emod_lt_of_pos _ (by decide)) (by omega)
  have hA : (q.laid ((4294967276 + (1 + (x : Int))) % 4294967296) s).A = putA s ((4294967276 + (1 + (x : Int))) % 4294967296) (cutSkip ((4294967276 + (1 + (x : Int))) % 4294967296) s.size q.next (q.room - q.s.size)) q.A (cutKeep ((4294967276 + (1 + (x : Int))) % 4294967296) s.size q.next (q.room - q.s.size)).toNat := rfl
  generalize cutSkip ((4294967276 + (1 + (x : Int))) % 4294967296) s.size q.next (q.room - q.s.size) = skip at hb hA
  generalize cutKeep ((4294967276 + (1 + (x : Int))) % 4294967296) s.size q.next (q.room - q.s.size) = keep at hb hA
  have hno : lookA q.A q.next = none := by
    cases hl : lookA q.A q.next with
    | none => rfl
    | some c =>
      have h1 := h.inv.pos _ (lookA_mem hl)
      unfold offs at h1
      simp at h1
  have hl : lookA (q.laid ((4294967276 + (1 + (x : Int))) % 4294967296) s).A q.next = none := by
    rw [hA]
    refine lookA_putA_none s _ skip q.A q.next hno _ (fun j hj => ?_)
    rw [h.next]
    omega
  rw [put_still _ _ hl] at hq ⊢
  refine ⟨hq, h.next, h.room, by show q.s ++ bytesOf [] = _; rw [h.s]; rfl, fun p hp => ?_⟩
  have hp' : p ∈ (q.laid ((4294967276 + (1 + (x : Int))) % 4294967296) s).A := hp
  rw [hA] at hp'
  rcases putA_mem _ _ _ _ _ _ hp' with h1 | ⟨j, hj, he⟩
  · exact h.xs p h1
  · rw [he]
    exact h120 _ (by omega)

theorem addA_same {A : List (Int × Nat)} {k : Int} {c : Nat} (h : (lookA A k).isSome) : addA A k c = A := if_pos h
theorem putA_same (s : ByteArray) (at_ skip : Int) (A : List (Int × Nat)) : ∀ i : Nat, (∀ j : Nat, j < i → (lookA A ((at_ + (skip + j)) % 4294967296)).isSome) → putA s at_ skip A i = A
  | 0, _ => rfl
  | i + 1, h => by
    have ih := putA_same s at_ skip A i (fun j hj => h j (by omega))
    show addA (putA s at_ skip A i) _ _ = A
    rw [ih]
    exact addA_same (h i (by omega))

/-- A piece within a stretch changes nothing. -/
theorem AInv.again {q : QS} (h : AInv q) (a b : Nat) (s : ByteArray) (hs : a + s.size ≤ b) (hb : b ≤ 80) (hab : ∀ d : Nat, a ≤ d → d < b → (d : Int) ∈ q.far) : q.put ((4294967276 + (a : Int)) % 4294967296) s = q := by
  have hbd := cutKeep_bounds (a := (4294967276 + (a : Int)) % 4294967296) (left := q.next) (show (0 : Int) ≤ s.size by omega) (show 0 ≤ q.room - q.s.size by rw [h.room, h.size]; decide)
  have hA : (q.laid ((4294967276 + (a : Int)) % 4294967296) s).A = putA s ((4294967276 + (a : Int)) % 4294967296) (cutSkip ((4294967276 + (a : Int)) % 4294967296) s.size q.next (q.room - q.s.size)) q.A (cutKeep ((4294967276 + (a : Int)) % 4294967296) s.size q.next (q.room - q.s.size)).toNat := rfl
  generalize cutSkip ((4294967276 + (a : Int)) % 4294967296) s.size q.next (q.room - q.s.size) = skip at hbd hA
  generalize cutKeep ((4294967276 + (a : Int)) % 4294967296) s.size q.next (q.room - q.s.size) = keep at hbd hA
  obtain ⟨sk, rfl⟩ := Int.eq_ofNat_of_zero_le hbd.1
  have hsame : putA s ((4294967276 + (a : Int)) % 4294967296) sk q.A keep.toNat = q.A := by
    refine putA_same s _ _ q.A _ (fun j hj => ?_)
    have := (far_mem h.inv (a + (sk + j)) (by omega)).1 (hab _ (by omega) (by omega))
    unfold beh at this
    rw [h.next] at this
    rw [show ((sk : Int) + (j : Int)) = ((sk + j : Nat) : Int) by omega, modadd]
    exact this
  rw [hsame] at hA
  have hno : lookA q.A q.next = none := by
    cases hl : lookA q.A q.next with
    | none => rfl
    | some c =>
      have h1 := h.inv.pos _ (lookA_mem hl)
      unfold offs at h1
      simp at h1
  rw [put_still _ _ (by rw [hA]; exact hno), hA, show q.s ++ bytesOf [] = q.s by rw [h.s]; rfl]

/-- How many of the first so many are there. -/
theorem countP_next : ∀ (D : List Int) (k : Int), D.Nodup → D.countP (fun d => decide (d < k + 1)) = D.countP (fun d => decide (d < k)) + if k ∈ D then 1 else 0
  | [], k, _ => rfl
  | d :: D, k, hn => by
    rw [List.nodup_cons] at hn
    have ih := countP_next D k hn.2
    rw [List.countP_cons, List.countP_cons, ih]
    by_cases hd : d = k
    · subst hd
      rw [if_neg hn.1, if_pos List.mem_cons_self]
      have h1 : decide (d < d + 1) = true := decide_eq_true (by omega)
      have h2 : decide (d < d) = false := decide_eq_false (by omega)
      simp [h1, h2]
    · have e : (k ∈ d :: D) ↔ k ∈ D := by
        rw [List.mem_cons]
        exact ⟨fun h => h.resolve_left (fun h => hd h.symm), .inr⟩
      by_cases hk : k ∈ D
      · rw [if_pos hk, if_pos (e.2 hk)]
        by_cases h1 : d < k
        · have : d < k + 1 := by omega
          simp [h1, this]
        · have : ¬ d < k + 1 := by omega
          simp [h1, this]
      · rw [if_neg hk, if_neg (fun h => hk (e.1 h))]
        by_cases h1 : d < k
        · have : d < k + 1 := by omega
          simp [h1, this]
        · have : ¬ d < k + 1 := by omega
          simp [h1, this]

theorem AInv.count {q : QS} (h : AInv q) : q.far.countP (fun d => decide (d < ((80 : Nat) : Int))) = q.far.length ∧ q.far.countP (fun d => decide (d < ((0 : Nat) : Int))) = 0 := by
  constructor
  · rw [List.countP_eq_length]
    intro d hd
    have := h.far.2.1 d hd
    simp; omega
  · rw [List.countP_eq_zero]
    intro d hd
    have := h.far.2.1 d hd
    simp; omega

/-- Ninety of y, put at next: all of the window comes, each byte that lay apart as it came first. -/
theorem AInv.fill {q : QS} (h : AInv q) (s : ByteArray) (hs : s.size = 90) (h121 : ∀ j, j < 90 → (s.data.toList.getD j 0).toNat = 121) :
    QInv (q.put 4294967276 s) ∧ (q.put 4294967276 s).A = [] ∧ (q.put 4294967276 s).room = 80 ∧ (q.put 4294967276 s).s.size = 80 ∧ ∀ j : Nat, j < 80 → ((q.put 4294967276 s).s.data.toList.getD j 0).toNat = if (j : Int) ∈ q.far then 120 else 121 := by
  have hq := h.inv.put (at_ := 4294967276) (s := s) (by decide) (by decide) (by omega)
  obtain ⟨hd, hst, hc⟩ := laid_drained h.inv (at_ := 4294967276) (s := s) (by decide) (by decide) (by omega)
  have hiw := laid_inw h.inv (at_ := 4294967276) (s := s) (by decide) (by decide) (by omega)
  have hil := hiw.length h.inv.n0 h.inv.n1
  have hcm : q.came 4294967276 s = (q.laid 4294967276 s).drained.2.2.length := rfl
  have hA : (q.laid 4294967276 s).A = putA s 4294967276 0 q.A 80 := by
    show putA s 4294967276 (cutSkip 4294967276 s.size q.next (q.room - q.s.size)) q.A (cutKeep 4294967276 s.size q.next (q.room - q.s.size)).toNat = _
    rw [h.next, h.room, h.size, hs]
    rfl
  have hput : q.put 4294967276 s = ⟨(q.laid 4294967276 s).drained.1, q.room, q.s ++ bytesOf (q.laid 4294967276 s).drained.2.2, (q.laid 4294967276 s).drained.2.1⟩ := rfl
  rw [hcm] at hc
  rw [h.room, h.size] at hc hil
  rw [h.next] at hd
  rw [hput]
  rw [hput] at hq
  generalize (q.laid 4294967276 s).drained = r at hd hst hc hq ⊢
  have hold : ∀ j : Nat, j < 80 → lookA (putA s 4294967276 0 q.A 80) ((4294967276 + (j : Int)) % 4294967296) = some (if (j : Int) ∈ q.far then 120 else 121) := by
    intro j hj
    have hm := far_mem h.inv j (by omega)
    unfold beh at hm
    rw [h.next] at hm
    cases hl : lookA q.A ((4294967276 + (j : Int)) % 4294967296) with
    | some c =>
      rw [hl] at hm
      rw [if_pos (hm.2 rfl), lookA_putA_old s _ _ _ _ c hl]
      rw [show c = 120 from h.xs _ (lookA_mem hl)]
    | none =>
      rw [hl] at hm
      rw [if_neg (fun hx => by have := hm.1 hx; cases this), lookA_putA_new s _ _ _ _ hl 80 (by decide) j hj (by congr 1; omega)]
      congr 1
      have := h121 j (by omega)
      rw [← this]
      congr 2
      show (0 : Int).toNat + j = j
      simp
  rw [hA] at hd hil
  have hlen : r.2.2.length = 80 := by
    apply Classical.byContradiction
    intro hne
    have hlt : r.2.2.length < 80 := by omega
    have h1 := hd.gone r.1
    rw [hst, hd.next] at h1
    rw [if_neg (by
      rintro ⟨i, hi, he⟩
      have := modinj 4294967276 r.2.2.length i (by omega) (by omega) he
      omega), hold _ hlt] at h1
    cases h1
  have hr2 : r.2.1 = [] := by
    have := hd.len
    apply List.eq_nil_of_length_eq_zero
    unfold mx at hil
    split at hil <;> omega
  refine ⟨hq, hr2, h.room, ?_, fun j hj => ?_⟩
  · show (q.s ++ bytesOf r.2.2).size = 80
    rw [ByteArray.size_append, h.size, bytesOf_size, hlen]
  · have h1 := hd.here j (by omega)
    rw [hold j hj] at h1
    have h2 : (r.2.2.getD j 0) = if (j : Int) ∈ q.far then 120 else 121 := (Option.some.inj h1).symm
    show (((q.s ++ bytesOf r.2.2).data.toList).getD j 0).toNat = _
    have hsm : ∀ x ∈ r.2.2, x < 256 := by
      intro x hx
      obtain ⟨i, hi, rfl⟩ := List.mem_iff_getElem.1 hx
      have h3 := hd.here i hi
      rw [hold i (by omega)] at h3
      have h4 : r.2.2.getD i 0 = r.2.2[i] := by rw [List.getD_eq_getElem?_getD, List.getElem?_eq_getElem hi]; rfl
      rw [h4] at h3
      have h5 := (Option.some.inj h3).symm
      rw [h5]
      split <;> decide
    have hN : nums (q.s ++ bytesOf r.2.2) = r.2.2.map (fun (c : Nat) => (c : Int)) := by
      rw [nums_append, h.s]
      unfold bytesOf
      rw [nums_strOf _ (by
        intro c hc'
        obtain ⟨x, hx, rfl⟩ := List.mem_map.1 hc'
        have := hsm x hx
        omega)]
      rfl
    have h6 : (nums (q.s ++ bytesOf r.2.2))[j]? = some ((r.2.2.getD j 0 : Nat) : Int) := by
      rw [hN, List.getElem?_map, List.getD_eq_getElem?_getD, List.getElem?_eq_getElem (by omega)]
      rfl
    rw [← h2]
    unfold nums at h6
    rw [List.getElem?_map] at h6
    rw [List.getD_eq_getElem?_getD]
    generalize hx : (q.s ++ bytesOf r.2.2).data.toList[j]? = o at h6 ⊢
    cases o with
    | none => cases h6
    | some u =>
      have h7 := Option.some.inj h6
      show u.toNat = _
      have h8 : ((u.toNat : Nat) : Int) = ((r.2.2.getD j 0 : Nat) : Int) := h7
      omega

end Go.Proofs.Ytbpmbmidjdhbpaa

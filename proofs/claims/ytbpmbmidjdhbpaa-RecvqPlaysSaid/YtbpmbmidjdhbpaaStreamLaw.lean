/-
  The plain law of RecvqStream: pieces of one text, put into a queue.
  No conditions.
-/
import Derived.Test.YtbpmbmidjdhbpaaRecvInv
set_option linter.unusedVariables false
set_option linter.unusedSimpArgs false
namespace Go.Proofs.Ytbpmbmidjdhbpaa
open Go.RowKit

theorem extract_join (T : ByteArray) (a b c : Nat) (h1 : a ≤ b) (h2 : b ≤ c) : T.extract a b ++ T.extract b c = T.extract a c := by
  apply nums_inj
  rw [nums_append, nums_extract, nums_extract, nums_extract]
  rw [show c - a = (b - a) + (c - b) by omega, List.take_add, List.drop_drop, show a + (b - a) = b by omega]
theorem extract_twice (T : ByteArray) (a b i j : Nat) (h : a + j ≤ b) : (T.extract a b).extract i j = T.extract (a + i) (a + j) := by
  apply nums_inj
  rw [nums_extract, nums_extract, nums_extract, List.drop_take, List.take_take, List.drop_drop]
  congr 1
  omega

theorem putA_mem (s : ByteArray) (at_ skip : Int) (A : List (Int × Nat)) : ∀ (i : Nat) (p : Int × Nat), p ∈ putA s at_ skip A i → p ∈ A ∨ ∃ j : Nat, j < i ∧ p = ((at_ + (skip + j)) % 4294967296, (s.data.toList.getD (skip.toNat + j) 0).toNat)
  | 0, p, h => .inl h
  | i + 1, p, h => by
    have h' : p ∈ addA (putA s at_ skip A i) ((at_ + (skip + i)) % 4294967296) (s.data.toList.getD (skip.toNat + i) 0).toNat := h
    unfold addA at h'
    split at h'
    · rcases putA_mem s at_ skip A i p h' with h1 | ⟨j, hj, e⟩
      · exact .inl h1
      · exact .inr ⟨j, by omega, e⟩
    · rcases List.mem_append.1 h' with h1 | h1
      · rcases putA_mem s at_ skip A i p h1 with h1 | ⟨j, hj, e⟩
        · exact .inl h1
        · exact .inr ⟨j, by omega, e⟩
      · simp only [List.mem_singleton] at h1
        exact .inr ⟨i, by omega, h1⟩

def byteAt (T : ByteArray) (j : Nat) : Nat := (T.data.toList.getD j 0).toNat

theorem byteAt_extract (T : ByteArray) (a b i : Nat) (hb : b ≤ T.size) (hi : a + i < b) : ((T.extract a b).data.toList.getD i 0).toNat = byteAt T (a + i) := by
  have h1 := nums_extract T a b
  have h2 : (nums (T.extract a b))[i]? = (((nums T).drop a).take (b - a))[i]? := by rw [h1]
  rw [List.getElem?_take, if_pos (by omega), List.getElem?_drop] at h2
  have hT : a + i < T.data.toList.length := by
    have : T.data.toList.length = T.size := by simp
    omega
  have hE : i < (T.extract a b).data.toList.length := by
    have h3 : (T.extract a b).size = min b T.size - a := by rw [ByteArray.size_extract]
    have h4 : (T.extract a b).data.toList.length = (T.extract a b).size := Array.length_toList
    omega
  unfold nums at h2
  rw [List.getElem?_map, List.getElem?_map, List.getElem?_eq_getElem hT, List.getElem?_eq_getElem hE] at h2
  simp only [Option.map_some, Option.some.injEq] at h2
  unfold byteAt
  rw [List.getD, List.getD, List.getElem?_eq_getElem hT, List.getElem?_eq_getElem hE]
  simp only [Option.getD_some]
  exact Int.ofNat_inj.1 h2

/-- A queue that some pieces of a text went into: its first l bytes are there, r of them read. -/
structure SInv (T : ByteArray) (first : Int) (q : QS) (l r : Nat) (came : Nat → Bool) : Prop where
  inv : QInv q
  room : q.room = 100
  f0 : 0 ≤ first
  f1 : first < 4294967296
  next : q.next = (first + (l : Int)) % 4294967296
  lT : l ≤ T.size
  T3 : T.size ≤ 300
  rl : r ≤ l
  s : q.s = T.extract r l
  came : ∀ j, j ≤ 300 → (came j = true ↔ (j < l ∨ (lookA q.A ((first + (j : Int)) % 4294967296)).isSome = true))
  val : ∀ p ∈ q.A, ∃ j : Nat, j < T.size ∧ p.1 = (first + (j : Int)) % 4294967296 ∧ p.2 = byteAt T j

theorem SInv.size {T : ByteArray} {first : Int} {q : QS} {l r : Nat} {came : Nat → Bool} (h : SInv T first q l r came) : q.s.size = l - r := by
  rw [h.s, ByteArray.size_extract]
  have := h.lT
  omega

theorem SInv.stop {T : ByteArray} {first : Int} {q : QS} {l r : Nat} {came : Nat → Bool} (h : SInv T first q l r came) : came l = false := by
  rw [Bool.eq_false_iff]
  intro hc
  have h1 := (h.came l (by have := h.lT; have := h.T3; omega)).1 hc
  rcases h1 with h1 | h1
  · omega
  · cases hl : lookA q.A ((first + (l : Int)) % 4294967296) with
    | none => rw [hl] at h1; cases h1
    | some v =>
      have hp := h.inv.pos _ (lookA_mem hl)
      simp only [← h.next] at hp
      unfold offs at hp
      rw [Int.sub_self] at hp
      simp at hp

def cameP (came : Nat → Bool) (at_ e to : Nat) (j : Nat) : Bool := came j || (decide (at_ ≤ j) && decide (j < e) && decide (j < to))

theorem modadd (first : Int) (a x : Nat) : ((first + (a : Int)) % 4294967296 + (x : Int)) % 4294967296 = (first + ((a + x : Nat) : Int)) % 4294967296 := by
  rw [Int.emod_add_emod]
  congr 1
  omega
theorem modinj (first : Int) (a b : Nat) (ha : a ≤ 1000) (hb : b ≤ 1000) (h : (first + (a : Int)) % 4294967296 = (first + (b : Int)) % 4294967296) : a = b := by
  have h1 := Int.emod_emod_of_dvd (first + (a : Int) - (first + (b : Int))) (Int.dvd_refl 4294967296)
  have h2 : (first + (a : Int) - (first + (b : Int))) % 4294967296 = 0 := by
    rw [Int.sub_emod, h, Int.sub_self]
    rfl
  clear h h1
  have h3 : first + (a : Int) - (first + (b : Int)) = (a : Int) - (b : Int) := by omega
  rw [h3] at h2
  omega
theorem moddist (first : Int) (a l : Nat) (ha : a ≤ 1000) (hl : l ≤ 1000) : ((first + (l : Int)) % 4294967296 - (first + (a : Int)) % 4294967296) % 4294967296 = if a ≤ l then ((l - a : Nat) : Int) else 4294967296 - ((a - l : Nat) : Int) := by
  rw [← Int.sub_emod]
  have h3 : first + (l : Int) - (first + (a : Int)) = (l : Int) - (a : Int) := by omega
  rw [h3]
  clear h3
  split <;> omega

/-- What of a piece is kept. -/
theorem cut_form (first : Int) (at_ e l w : Nat) (he : at_ ≤ e) (h3 : e ≤ 300) (hl : l ≤ 300) (hw : w ≤ 100) :
    cutSkip ((first + at_) % 4294967296) ((e - at_ : Nat) : Int) ((first + l) % 4294967296) w = ((if at_ ≤ l then min (l - at_) (e - at_) else 0 : Nat) : Int) ∧
    cutKeep ((first + at_) % 4294967296) ((e - at_ : Nat) : Int) ((first + l) % 4294967296) w = ((if at_ ≤ l then min ((e - at_) - min (l - at_) (e - at_)) w else min (e - at_) (w - (at_ - l)) : Nat) : Int) := by
  unfold cutKeep cutSkip
  rw [moddist first at_ l (by omega) (by omega)]
  by_cases hal : at_ ≤ l
  · simp only [if_pos hal]
    rw [if_neg (by omega), if_neg (by omega)]
    have hm : mn ((l - at_ : Nat) : Int) ((e - at_ : Nat) : Int) = ((min (l - at_) (e - at_) : Nat) : Int) := by unfold mn; split <;> omega
    rw [hm]
    refine ⟨rfl, ?_⟩
    unfold mn
    split <;> omega
  · simp only [if_neg hal]
    rw [if_pos (by omega), if_pos (by omega)]
    refine ⟨rfl, ?_⟩
    unfold mx mn
    repeat' split
    all_goals omega

theorem cut_piece (first : Int) (at_ e l w : Nat) (he : at_ ≤ e) (h3 : e ≤ 300) (hl : l ≤ 300) (hw : w ≤ 100) (j : Nat) (hj : l ≤ j) (hj3 : j ≤ 300) :
    (∃ i : Nat, i < (cutKeep ((first + at_) % 4294967296) ((e - at_ : Nat) : Int) ((first + l) % 4294967296) w).toNat ∧ ((first + at_) % 4294967296 + (cutSkip ((first + at_) % 4294967296) ((e - at_ : Nat) : Int) ((first + l) % 4294967296) w + i)) % 4294967296 = (first + (j : Int)) % 4294967296) ↔ (at_ ≤ j ∧ j < e ∧ j < l + w) := by
  obtain ⟨hs, hk⟩ := cut_form first at_ e l w he h3 hl hw
  rw [hs, hk, Int.toNat_natCast]
  have hadd : ∀ (s i : Nat), ((first + (at_ : Int)) % 4294967296 + ((s : Int) + (i : Int))) % 4294967296 = (first + ((at_ + (s + i) : Nat) : Int)) % 4294967296 := fun s i => by
    rw [← modadd first at_ (s + i)]
    simp
  clear hs hk
  constructor
  · rintro ⟨i, hi, hx⟩
    rw [hadd] at hx
    have hi2 : i ≤ 300 := by split at hi <;> omega
    have hs2 : (if at_ ≤ l then min (l - at_) (e - at_) else 0 : Nat) ≤ 300 := by split <;> omega
    have := modinj first _ j (by omega) (by omega) hx
    clear hx hadd
    split at this <;> split at hi <;> omega
  · rintro ⟨h1, h2, h4⟩
    by_cases hal : at_ ≤ l
    · refine ⟨j - l, by rw [if_pos hal]; omega, ?_⟩
      rw [hadd, if_pos hal]
      congr 2
      clear hadd
      omega
    · refine ⟨j - at_, by rw [if_neg hal]; omega, ?_⟩
      rw [hadd, if_neg hal]
      congr 2
      clear hadd
      omega

theorem skip_piece (first : Int) (at_ e l w : Nat) (he : at_ ≤ e) (h3 : e ≤ 300) (hl : l ≤ 300) (hw : w ≤ 100) :
    ∃ s k : Nat, cutSkip ((first + at_) % 4294967296) ((e - at_ : Nat) : Int) ((first + l) % 4294967296) w = (s : Int) ∧ cutKeep ((first + at_) % 4294967296) ((e - at_ : Nat) : Int) ((first + l) % 4294967296) w = (k : Int) ∧ s + k ≤ e - at_ := by
  obtain ⟨hs, hk⟩ := cut_form first at_ e l w he h3 hl hw
  refine ⟨_, _, hs, hk, ?_⟩
  split <;> omega

theorem SInv.put {T : ByteArray} {first : Int} {q : QS} {l r : Nat} {came : Nat → Bool} (h : SInv T first q l r came) (at_ e : Nat) (hae : at_ ≤ e) (heT : e ≤ T.size) :
    SInv T first (q.put ((first + (at_ : Int)) % 4294967296) (T.extract at_ e)) (l + q.came ((first + (at_ : Int)) % 4294967296) (T.extract at_ e)) r (cameP came at_ e (l + (100 - (l - r)))) := by
  have hsz := h.size
  have hl3 := h.lT
  have hT3 := h.T3
  have hr := h.rl
  have hf0 := h.f0
  have hf1 := h.f1
  have hroom := h.room
  have hnext := h.next
  have hSsz : (T.extract at_ e).size = e - at_ := by rw [ByteArray.size_extract]; omega
  have n0 := Int.emod_nonneg (first + (at_ : Int)) (show (4294967296 : Int) ≠ 0 by decide)
  have n1 := Int.emod_lt_of_pos (first + (at_ : Int)) (show (0 : Int) < 4294967296 by decide)
  have hSz2 : (T.extract at_ e).size ≤ 65536 := by omega
  obtain ⟨hd, hst, hcw⟩ := laid_drained h.inv n0 n1 hSz2
  have hinv := h.inv.put n0 n1 hSz2
  have hlaid := laid_inw h.inv n0 n1 hSz2
  have hwin : (100 : Int) - (q.s.size : Int) = ((100 - (l - r) : Nat) : Int) := by
    have := h.inv.sz
    rw [hroom] at this
    omega
  have hcut := cut_piece first at_ e l (100 - (l - r)) hae (by omega) (by omega) (by omega)
  obtain ⟨sN, kN, hsk, hkp, hsum⟩ := skip_piece first at_ e l (100 - (l - r)) hae (by omega) (by omega) (by omega)
  have hA1 : (q.laid ((first + (at_ : Int)) % 4294967296) (T.extract at_ e)).A = putA (T.extract at_ e) ((first + (at_ : Int)) % 4294967296) (cutSkip ((first + at_) % 4294967296) ((e - at_ : Nat) : Int) ((first + l) % 4294967296) ((100 - (l - r) : Nat) : Int)) q.A (cutKeep ((first + at_) % 4294967296) ((e - at_ : Nat) : Int) ((first + l) % 4294967296) ((100 - (l - r) : Nat) : Int)).toNat := by
    show putA _ _ (cutSkip _ _ _ _) _ (cutKeep _ _ _ _).toNat = _
    rw [hSsz, hroom, hnext, hwin]
  rw [hsk, hkp, Int.toNat_natCast] at hA1
  rw [hsk, hkp, Int.toNat_natCast] at hcut
  have hkeep3 : kN ≤ 4294967296 := by omega
  -- what is laid
  have hval : ∀ p ∈ (q.laid ((first + (at_ : Int)) % 4294967296) (T.extract at_ e)).A, ∃ j : Nat, j < T.size ∧ p.1 = (first + (j : Int)) % 4294967296 ∧ p.2 = byteAt T j := by
    intro p hp
    rw [hA1] at hp
    rcases putA_mem _ _ _ _ _ p hp with h1 | ⟨i, hi, rfl⟩
    · exact h.val p h1
    · refine ⟨at_ + (sN + i), by omega, ?_, ?_⟩
      · show ((first + (at_ : Int)) % 4294967296 + ((sN : Int) + (i : Int))) % 4294967296 = _
        rw [← modadd first at_ (sN + i)]
        simp
      · show ((T.extract at_ e).data.toList.getD ((sN : Int).toNat + i) 0).toNat = _
        rw [Int.toNat_natCast]
        exact byteAt_extract T at_ e (sN + i) heT (by omega)
  have hlook : ∀ j, l ≤ j → j ≤ 300 → ((lookA (q.laid ((first + (at_ : Int)) % 4294967296) (T.extract at_ e)).A ((first + (j : Int)) % 4294967296)).isSome = true ↔ cameP came at_ e (l + (100 - (l - r))) j = true) := by
    intro j hj hj3
    rw [hA1]
    unfold cameP
    have hc := h.came j hj3
    have hcj : (∃ i : Nat, i < kN ∧ ((first + (at_ : Int)) % 4294967296 + ((sN : Int) + i)) % 4294967296 = (first + (j : Int)) % 4294967296) ↔ (at_ ≤ j ∧ j < e ∧ j < l + (100 - (l - r))) := hcut j hj hj3
    cases hl : lookA q.A ((first + (j : Int)) % 4294967296) with
    | some v =>
      rw [lookA_putA_old _ _ _ _ _ v hl]
      have : came j = true := hc.2 (.inr (by rw [hl]; rfl))
      simp [this]
    | none =>
      have hcf : came j = false := by
        rw [Bool.eq_false_iff]
        intro hx
        rcases hc.1 hx with h1 | h1
        · omega
        · rw [hl] at h1; cases h1
      rw [hcf, Bool.false_or]
      by_cases hin : at_ ≤ j ∧ j < e ∧ j < l + (100 - (l - r))
      · obtain ⟨i, hi, hx⟩ := hcj.2 hin
        rw [lookA_putA_new _ _ _ _ _ hl _ hkeep3 i hi hx]
        simp [hin]
      · rw [lookA_putA_none _ _ _ _ _ hl _ (fun i hi hx => hin (hcj.1 ⟨i, hi, hx⟩))]
        constructor
        · intro hx; cases hx
        · intro hx
          exfalso
          apply hin
          simpa [and_assoc] using hx
  -- what comes in order
  have hcm : q.came ((first + (at_ : Int)) % 4294967296) (T.extract at_ e) = (q.laid ((first + (at_ : Int)) % 4294967296) (T.extract at_ e)).drained.2.2.length := rfl
  have hput : q.put ((first + (at_ : Int)) % 4294967296) (T.extract at_ e) = ⟨(q.laid ((first + (at_ : Int)) % 4294967296) (T.extract at_ e)).drained.1, q.room, q.s ++ bytesOf (q.laid ((first + (at_ : Int)) % 4294967296) (T.extract at_ e)).drained.2.2, (q.laid ((first + (at_ : Int)) % 4294967296) (T.extract at_ e)).drained.2.1⟩ := rfl
  rw [hput] at hinv ⊢
  rw [hcm] at hcw ⊢
  clear hput hcm hA1 hkeep3 hcut hsk hkp hsum
  generalize (q.laid ((first + (at_ : Int)) % 4294967296) (T.extract at_ e)).drained = dr at *
  generalize (q.laid ((first + (at_ : Int)) % 4294967296) (T.extract at_ e)).A = A1 at *
  obtain ⟨r1, r2, r3⟩ := dr
  obtain ⟨d1, d2, d3, d4, d5⟩ := hd
  simp only at d1 d2 d3 d4 d5 hst hcw hinv ⊢
  have hcle : r3.length ≤ 100 := by rw [hroom] at hcw; omega
  -- each byte that comes is the text's
  have hbyte : ∀ i, i < r3.length → l + i < T.size ∧ r3.getD i 0 = byteAt T (l + i) := by
    intro i hi
    have hk := d2 i hi
    obtain ⟨j, hjT, hj1, hj2⟩ := hval _ (lookA_mem hk)
    simp only at hj1 hj2
    have hji : j = l + i := by
      rw [hnext, modadd] at hj1
      exact (modinj first _ _ (by omega) (by omega) hj1).symm
    subst hji
    exact ⟨hjT, hj2⟩
  have hlc : l + r3.length ≤ T.size := by
    rcases Nat.eq_zero_or_pos r3.length with h0 | h0
    · omega
    · have := (hbyte (r3.length - 1) (by omega)).1
      omega
  have hbs : bytesOf r3 = T.extract l (l + r3.length) := by
    apply nums_inj
    unfold bytesOf
    rw [nums_strOf _ (by
      intro c hc
      obtain ⟨b, hb, rfl⟩ := List.mem_map.1 hc
      obtain ⟨i, hi, hbi⟩ := List.getElem_of_mem hb
      have h2 := (hbyte i hi).2
      rw [List.getD, List.getElem?_eq_getElem hi, Option.getD_some, hbi] at h2
      rw [h2]
      have : byteAt T (l + i) < 256 := UInt8.toNat_lt _
      omega)]
    rw [nums_extract]
    apply List.ext_getElem?
    intro i
    by_cases hi : i < r3.length
    · have h2 := hbyte i hi
      have hT : l + i < T.data.toList.length := by
        have : T.data.toList.length = T.size := by simp
        omega
      rw [List.getElem?_map, List.getElem?_eq_getElem hi, List.getElem?_take, if_pos (by omega), List.getElem?_drop]
      unfold nums
      rw [List.getElem?_map, List.getElem?_eq_getElem hT]
      simp only [Option.map_some]
      have h3 := h2.2
      unfold byteAt at h3
      rw [List.getD, List.getD, List.getElem?_eq_getElem hi, List.getElem?_eq_getElem hT] at h3
      simp only [Option.getD_some] at h3
      rw [h3]
    · rw [List.getElem?_eq_none (by rw [List.length_map]; omega), List.getElem?_take, if_neg (by omega)]
  refine ⟨hinv, hroom, hf0, hf1, ?_, hlc, hT3, by omega, ?_, ?_, fun p hp => hval p (d4.subset hp)⟩
  · show r1 = (first + ((l + r3.length : Nat) : Int)) % 4294967296
    rw [d1, hnext, modadd]
  · show q.s ++ bytesOf r3 = T.extract r (l + r3.length)
    rw [h.s, hbs]
    exact extract_join T r l (l + r3.length) hr (by omega)
  · intro j hj3
    show _ ↔ (j < l + r3.length ∨ (lookA r2 _).isSome = true)
    by_cases hjl : j < l
    · have : came j = true := (h.came j hj3).2 (.inl hjl)
      unfold cameP
      simp [this]
      omega
    · have hlk := hlook j (by omega) hj3
      by_cases hjc : j < l + r3.length
      · have hsome : (lookA A1 ((first + (j : Int)) % 4294967296)).isSome = true := by
          have hk := d2 (j - l) (by omega)
          have e1 : (q.next + ((j - l : Nat) : Int)) % 4294967296 = (first + (j : Int)) % 4294967296 := by rw [hnext, modadd, show l + (j - l) = j by omega]
          rw [e1] at hk
          rw [hk]; rfl
        rw [← hlk, hsome]
        simp [hjc]
      · rw [← hlk, d3]
        have hno : ¬ ∃ i : Nat, i < r3.length ∧ (first + (j : Int)) % 4294967296 = (q.next + (i : Int)) % 4294967296 := by
          rintro ⟨i, hi, hx⟩
          rw [hnext, modadd] at hx
          have := modinj first _ _ (by omega) (by omega) hx
          omega
        rw [if_neg hno]
        constructor
        · exact fun hx => .inr hx
        · rintro (hx | hx)
          · omega
          · exact hx

theorem SInv.read {T : ByteArray} {first : Int} {q : QS} {l r : Nat} {came : Nat → Bool} (h : SInv T first q l r came) (most : Int) :
    SInv T first (q.read most) l (r + q.many most) came ∧ q.s.extract 0 (q.many most) = T.extract r (r + q.many most) ∧ r + q.many most ≤ l := by
  have hm := many_le q most
  have hs := h.size
  have hr := h.rl
  refine ⟨⟨(h.inv.read most).1, h.room, h.f0, h.f1, h.next, h.lT, h.T3, by omega, ?_, h.came, h.val⟩, ?_, by omega⟩
  · show q.s.extract (q.many most) q.s.size = T.extract (r + q.many most) l
    rw [hs]
    conv => lhs; rw [h.s]
    rw [extract_twice T r l (q.many most) (l - r) (by omega), show r + (l - r) = l by omega]
  · rw [h.s]
    rw [extract_twice T r l 0 (q.many most) (by omega)]
    rfl

end Go.Proofs.Ytbpmbmidjdhbpaa

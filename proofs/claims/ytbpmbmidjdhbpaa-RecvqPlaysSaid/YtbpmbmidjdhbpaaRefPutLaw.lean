/-
  The plain law of the reference queue's Put: by how far numbers lie behind next.
  No conditions.
-/
import Derived.Test.YtbpmbmidjdhbpaaRefQ
set_option linter.unusedVariables false
set_option linter.unusedSimpArgs false
namespace Go.Proofs.Ytbpmbmidjdhbpaa
open Go.RowKit

theorem offs_beh2 {nx : Int} (d : Nat) (hd : d ≤ 1000000) : offs nx (beh nx d) = d := by
  unfold offs beh
  omega
theorem beh_inj {nx : Int} (a b : Nat) (ha : a ≤ 1000000) (hb : b ≤ 1000000) (h : beh nx a = beh nx b) : a = b := by
  have h1 := offs_beh2 (nx := nx) a ha
  have h2 := offs_beh2 (nx := nx) b hb
  rw [h] at h1
  omega

/-- Where the kept bytes of a piece lie. -/
theorem put_where (q : QS) (hi : QInv q) (at_ : Int) (s : ByteArray) (a0 : 0 ≤ at_) (a1 : at_ < 4294967296) (hs : s.size ≤ 65536) (sk kp : Int) (hsk : sk = cutSkip at_ s.size q.next (q.room - q.s.size)) (hkp : kp = cutKeep at_ s.size q.next (q.room - q.s.size)) (d : Nat) (hd : (d : Int) = ((at_ + sk) % 4294967296 - q.next) % 4294967296) :
    ∀ i : Nat, i < kp.toNat → ((d + i : Nat) : Int) < q.room - q.s.size ∧ beh q.next (d + i) = (at_ + (sk + i)) % 4294967296 := by
  intro i hik
  have hr := hi.r2
  have hz := hi.sz
  have hb := cutKeep_bounds (a := at_) (left := q.next) (show (0 : Int) ≤ s.size by omega) (show 0 ≤ q.room - q.s.size by omega)
  have h0 := cut_offs at_ s.size q.next (q.room - q.s.size) a0 a1 hi.n0 hi.n1 (by omega) (by omega) (by omega) (by omega) 0 (by rw [← hkp]; omega)
  have h1 := cut_offs at_ s.size q.next (q.room - q.s.size) a0 a1 hi.n0 hi.n1 (by omega) (by omega) (by omega) (by omega) i (by rw [← hkp]; omega)
  rw [← hsk] at h0 h1 hb
  rw [← hkp] at hb
  clear hsk hkp
  have n0 := hi.n0
  have n1 := hi.n1
  have hk0 : kp ≤ 65536 := by omega
  clear hi
  have hw : q.room - (q.s.size : Int) ≤ 65536 := by omega
  unfold offs at h0 h1
  unfold beh
  generalize q.room - (q.s.size : Int) = win at *
  generalize q.next = nx at *
  have e0 : ((at_ + (sk + ((0 : Nat) : Int))) % 4294967296 - nx) % 4294967296 = (d : Int) := by rw [hd]; simp
  rw [e0] at h0
  have e1 : ((at_ + (sk + (i : Int))) % 4294967296 - nx) % 4294967296 = ((d : Int) + (i : Int)) % 4294967296 := by
    rw [hd]
    omega
  rw [e1] at h1
  have e2 : ((d : Int) + (i : Int)) % 4294967296 = (d : Int) + (i : Int) := by omega
  rw [e2] at h1
  refine ⟨by omega, ?_⟩
  omega

/-- One more byte. -/
theorem lay_one (nx : Int) (A : List (Int × Nat)) (e : Nat) (c : Nat) (x : Nat) (he : e ≤ 1000000) (hx : x ≤ 1000000) :
    lookA (addA A (beh nx e) c) (beh nx x) = if x = e then (lookA A (beh nx e)).or (some c) else lookA A (beh nx x) := by
  rw [lookA_addA]
  by_cases h : x = e
  · subst h
    rw [if_pos rfl, if_pos rfl]
  · rw [if_neg h, if_neg (fun h2 => h (beh_inj x e hx he h2.symm))]
    cases lookA A (beh nx x) <;> rfl

/-- What comes in order, and what is there behind it. -/
theorem put_comes (q : QS) (hi : QInv q) (at_ : Int) (s : ByteArray) (a0 : 0 ≤ at_) (a1 : at_ < 4294967296) (hs : s.size ≤ 65536) :
    (q.came at_ s : Int) ≤ q.room - q.s.size ∧
    (∀ i, i < q.came at_ s → lookA (q.laid at_ s).A (beh q.next i) = some ((q.laid at_ s).drained.2.2.getD i 0)) ∧
    lookA (q.laid at_ s).A (beh q.next (q.came at_ s)) = none ∧
    (q.put at_ s).next = beh q.next (q.came at_ s) ∧
    (∀ d, d ≤ 65536 → lookA (q.put at_ s).A (beh (q.put at_ s).next d) = lookA (q.laid at_ s).A (beh q.next (q.came at_ s + d))) ∧
    (∀ d : Nat, d ≤ 200000 → q.room - q.s.size ≤ (d : Int) → lookA (q.laid at_ s).A (beh q.next d) = none) := by
  obtain ⟨hd, hst, hc⟩ := laid_drained hi a0 a1 hs
  have hiw := laid_inw hi a0 a1 hs
  have hcm : q.came at_ s = (q.laid at_ s).drained.2.2.length := rfl
  have hpn : (q.put at_ s).next = (q.laid at_ s).drained.1 := rfl
  have hpA : (q.put at_ s).A = (q.laid at_ s).drained.2.1 := rfl
  have hr := hi.r2
  have hz := hi.sz
  have hc6 : q.came at_ s ≤ 65536 := by omega
  rw [hpn, hpA]
  rw [hcm] at hc hc6 ⊢
  generalize (q.laid at_ s).drained = r at hd hst hc hc6 ⊢
  generalize (q.laid at_ s).A = A at hd hst hiw ⊢
  have hnx : r.1 = beh q.next r.2.2.length := hd.next
  have hgone : ∀ d, d ≤ 65536 → lookA r.2.1 (beh r.1 d) = lookA A (beh q.next (r.2.2.length + d)) := by
    intro d hdd
    have hbb : beh r.1 d = beh q.next (r.2.2.length + d) := by
      rw [hnx]
      unfold beh
      exact modadd q.next r.2.2.length d
    rw [hbb, hd.gone, if_neg]
    rintro ⟨i, hil, he⟩
    have := beh_inj (nx := q.next) (r.2.2.length + d) i (by omega) (by omega) he
    omega
  refine ⟨hc, fun i hil => hd.here i hil, ?_, hnx, hgone, ?_⟩
  · have h1 := hgone 0 (by omega)
    have h2 : beh r.1 0 = r.1 := by
      rw [hnx]
      unfold beh
      omega
    rw [h2, hst] at h1
    exact h1.symm
  · intro d hdd hdw
    cases hl : lookA A (beh q.next d) with
    | none => rfl
    | some c =>
      have h1 := (hiw.key _ (lookA_mem hl)).2.2
      have h2 := offs_beh2 (nx := q.next) d (by omega)
      simp only at h1
      rw [h2] at h1
      omega

end Go.Proofs.Ytbpmbmidjdhbpaa

/-
  The plain law of a receive queue: a queue stays in bounds; its window's end stays as bytes come.
  No conditions.
-/
import Derived.Test.YtbpmbmidjdhbpaaRecvLaw
set_option linter.unusedVariables false
set_option linter.unusedSimpArgs false
namespace Go.Proofs.Ytbpmbmidjdhbpaa
open Go.RowKit

theorem nodup_bound : ∀ (N : Nat) (l : List Nat), l.Nodup → (∀ x ∈ l, x < N) → l.length ≤ N
  | 0, l, _, h => by
    cases l with
    | nil => exact Nat.le_refl _
    | cons x l => exact absurd (h x (by simp)) (Nat.not_lt_zero _)
  | N + 1, l, hn, h => by
    have h1 := nodup_bound N (l.filter (fun x => x != N)) (hn.sublist List.filter_sublist) (fun x hx => by
      have h2 := List.mem_filter.1 hx
      have h3 := h x h2.1
      have h4 : x ≠ N := by simpa using h2.2
      omega)
    have h2 : l.length ≤ (l.filter (fun x => x != N)).length + 1 := by
      clear h1 h
      induction l with
      | nil => simp
      | cons x l ih =>
        rw [List.nodup_cons] at hn
        by_cases hx : x = N
        · subst hx
          have e : (x :: l).filter (fun y => y != x) = l := by
            rw [List.filter_cons_of_neg (by simp)]
            apply List.filter_eq_self.2
            intro y hy
            have : y ≠ x := fun e => hn.1 (e ▸ hy)
            simpa using this
          rw [e]
          simp
        · rw [List.filter_cons_of_pos (by simpa using hx)]
          have := ih hn.2
          simp only [List.length_cons]
          omega
    omega

theorem InW.length {nx win : Int} {A : List (Int × Nat)} (h : InW nx win A) (n0 : 0 ≤ nx) (n1 : nx < 4294967296) : (A.length : Int) ≤ mx 0 win := by
  have hb : ∀ x ∈ A.map (fun p => (offs nx p.1).toNat), x < (mx 0 win).toNat := by
    intro x hx
    obtain ⟨p, hp, rfl⟩ := List.mem_map.1 hx
    have h1 := (h.key p hp).2.2
    have h2 : 0 ≤ offs nx p.1 := Int.emod_nonneg _ (by decide)
    unfold mx
    split <;> omega
  have hn : (A.map (fun p => (offs nx p.1).toNat)).Nodup := by
    have h1 : (A.map (fun p => (offs nx p.1).toNat)) = (A.map Prod.fst).map (fun k => (offs nx k).toNat) := by rw [List.map_map]; rfl
    rw [h1]
    refine List.pairwise_map.2 ?_
    refine List.Pairwise.imp_of_mem ?_ h.nd
    intro a b ha hb hab e
    obtain ⟨p, hp, rfl⟩ := List.mem_map.1 ha
    obtain ⟨r, hr, rfl⟩ := List.mem_map.1 hb
    apply hab
    have h3 := (h.key p hp).1
    have h4 := (h.key r hr).1
    unfold offs at e
    omega
  have := nodup_bound _ _ hn hb
  rw [List.length_map] at this
  unfold mx at *
  split <;> omega

/-- A queue in bounds. -/
structure QInv (q : QS) : Prop where
  n0 : 0 ≤ q.next
  n1 : q.next < 4294967296
  r2 : q.room ≤ 65536
  sz : (q.s.size : Int) ≤ q.room
  inw : InW q.next (q.room - q.s.size) q.A
  pos : ∀ p ∈ q.A, 1 ≤ offs q.next p.1

theorem QInv.len {q : QS} (h : QInv q) : q.A.length ≤ 65536 := by
  have h1 := h.inw.length h.n0 h.n1
  have h2 := h.r2
  unfold mx at h1
  split at h1 <;> omega

theorem QInv.keys {q : QS} (h : QInv q) : ∀ p ∈ q.A, 0 ≤ p.1 ∧ p.1 < 4294967296 := fun p hp => (h.inw.key p hp).1

theorem laid_inw {q : QS} (h : QInv q) {at_ : Int} {s : ByteArray} (a0 : 0 ≤ at_) (a1 : at_ < 4294967296) (hs : s.size ≤ 65536) : InW q.next (q.room - q.s.size) (q.laid at_ s).A :=
  h.inw.putA s at_ _ _ (fun j hj => cut_offs at_ s.size q.next (q.room - q.s.size) a0 a1 h.n0 h.n1 (by omega) (by omega) (by have := h.sz; omega) (by have := h.r2; omega) j hj)

theorem laid_drained {q : QS} (h : QInv q) {at_ : Int} {s : ByteArray} (a0 : 0 ≤ at_) (a1 : at_ < 4294967296) (hs : s.size ≤ 65536) : Drained q.next (q.laid at_ s).A (q.laid at_ s).drained ∧ lookA (q.laid at_ s).drained.2.1 (q.laid at_ s).drained.1 = none ∧ (q.came at_ s : Int) ≤ q.room - q.s.size := by
  have hi := laid_inw h a0 a1 hs
  have hl := hi.length h.n0 h.n1
  have hsz := h.sz
  have hr2 := h.r2
  have hl2 : (q.laid at_ s).A.length ≤ 65536 := by unfold mx at hl; split at hl <;> omega
  have hd := drain_law (q.laid at_ s).A.length q.next (q.laid at_ s).A h.n0 h.n1 hl2
  have hst := drain_stop (q.laid at_ s).A.length q.next (q.laid at_ s).A (Nat.le_refl _)
  refine ⟨hd, hst, ?_⟩
  have hln := hd.len
  have h0 : q.came at_ s = (drain (q.laid at_ s).A.length q.next (q.laid at_ s).A).2.2.length := rfl
  rw [h0]
  unfold mx at hl
  split at hl <;> omega

theorem QInv.put {q : QS} (h : QInv q) {at_ : Int} {s : ByteArray} (a0 : 0 ≤ at_) (a1 : at_ < 4294967296) (hs : s.size ≤ 65536) : QInv (q.put at_ s) := by
  obtain ⟨hd, hst, hc⟩ := laid_drained h a0 a1 hs
  have hi := laid_inw h a0 a1 hs
  have hsz := h.sz
  have hr2 := h.r2
  have hn0 := h.n0
  have hn1 := h.n1
  have hput : q.put at_ s = ⟨(q.laid at_ s).drained.1, q.room, q.s ++ bytesOf (q.laid at_ s).drained.2.2, (q.laid at_ s).drained.2.1⟩ := rfl
  have hcm : q.came at_ s = (q.laid at_ s).drained.2.2.length := rfl
  rw [hput]
  rw [hcm] at hc
  generalize (q.laid at_ s).A = A1 at *
  generalize (q.laid at_ s).drained = r at *
  obtain ⟨r1, r2, r3⟩ := r
  obtain ⟨h1, h2, h3, h4, h5⟩ := hd
  simp only at h1 h2 h3 h4 h5 hst hc ⊢
  have hbs := bytesOf_size r3
  have hb2 : (q.s ++ bytesOf r3).size = q.s.size + r3.length := by rw [ByteArray.size_append, hbs]
  have hoff : ∀ p ∈ r2, (r3.length : Int) < offs q.next p.1 := by
    intro p hp
    have hk := hi.key p (h4.subset hp)
    have hsome := lookA_of_mem hp
    have hnn : 0 ≤ offs q.next p.1 := Int.emod_nonneg _ (by decide)
    have hne1 : ¬ ∃ i : Nat, i < r3.length ∧ p.1 = (q.next + (i : Int)) % 4294967296 := by
      intro he
      rw [h3 p.1, if_pos he] at hsome
      cases hsome
    have hne2 : p.1 ≠ r1 := by
      intro e
      rw [e, hst] at hsome
      cases hsome
    rcases Int.lt_or_le (r3.length : Int) (offs q.next p.1) with hlt | hge
    · exact hlt
    · exfalso
      by_cases he : offs q.next p.1 = (r3.length : Int)
      · apply hne2
        rw [h1, ← he]
        unfold offs
        have := hk.1
        omega
      · apply hne1
        refine ⟨(offs q.next p.1).toNat, by omega, ?_⟩
        rw [Int.toNat_of_nonneg hnn]
        unfold offs
        have := hk.1
        omega
  have hoff2 : ∀ p ∈ r2, offs r1 p.1 = offs q.next p.1 - r3.length := by
    intro p hp
    have hk := hi.key p (h4.subset hp)
    have ho := hoff p hp
    rw [h1]
    unfold offs at ho ⊢
    have := hk.1
    omega
  refine ⟨by show 0 ≤ r1; rw [h1]; exact Int.emod_nonneg _ (by decide), by show r1 < _; rw [h1]; exact Int.emod_lt_of_pos _ (by decide), hr2, ?_, ⟨hi.nd.sublist (h4.map _), ?_⟩, ?_⟩
  · show ((q.s ++ bytesOf r3).size : Int) ≤ q.room
    rw [hb2]
    omega
  · intro p hp
    have hk := hi.key p (h4.subset hp)
    refine ⟨hk.1, hk.2.1, ?_⟩
    show offs r1 p.1 < q.room - ((q.s ++ bytesOf r3).size : Int)
    rw [hoff2 p hp, hb2]
    have := hk.2.2
    omega
  · intro p hp
    show 1 ≤ offs r1 p.1
    rw [hoff2 p hp]
    have := hoff p hp
    omega

theorem put_edge {q : QS} (h : QInv q) {at_ : Int} {s : ByteArray} (a0 : 0 ≤ at_) (a1 : at_ < 4294967296) (hs : s.size ≤ 65536) : (q.put at_ s).next = (q.next + (q.came at_ s : Int)) % 4294967296 ∧ ((q.put at_ s).s.size : Int) = q.s.size + (q.came at_ s : Int) ∧ (q.put at_ s).room = q.room := by
  obtain ⟨hd, hst, hc⟩ := laid_drained h a0 a1 hs
  refine ⟨hd.next, ?_, rfl⟩
  show ((q.s ++ bytesOf (q.laid at_ s).drained.2.2).size : Int) = _
  rw [ByteArray.size_append, bytesOf_size]
  rfl

theorem QInv.read {q : QS} (h : QInv q) (most : Int) : QInv (q.read most) ∧ ((q.read most).s.size : Int) = q.s.size - (q.many most : Int) ∧ (q.s.extract 0 (q.many most)).size = q.many most := by
  have hm := many_le q most
  have hs : (q.read most).s.size = q.s.size - q.many most := by
    show (q.s.extract (q.many most) q.s.size).size = _
    rw [ByteArray.size_extract]
    omega
  have hsz := h.sz
  refine ⟨⟨h.n0, h.n1, h.r2, ?_, ⟨h.inw.nd, fun p hp => ?_⟩, h.pos⟩, by omega, by rw [ByteArray.size_extract]; omega⟩
  · rw [hs]
    show ((q.s.size - q.many most : Nat) : Int) ≤ q.room
    omega
  · have hk := h.inw.key p hp
    refine ⟨hk.1, hk.2.1, ?_⟩
    rw [hs]
    show offs q.next p.1 < q.room - ((q.s.size - q.many most : Nat) : Int)
    have := hk.2.2
    omega

theorem QInv.new (first room : Int) (f0 : 0 ≤ first) (f1 : first < 4294967296) (r0 : 0 ≤ room) (r1 : room ≤ 65536) : QInv ⟨first, room, ⟨#[]⟩, []⟩ :=
  ⟨f0, f1, r1, r0, ⟨List.nodup_nil, fun p hp => (by cases hp)⟩, fun p hp => (by cases hp)⟩

end Go.Proofs.Ytbpmbmidjdhbpaa

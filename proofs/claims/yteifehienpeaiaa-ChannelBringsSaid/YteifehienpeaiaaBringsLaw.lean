/-
  The rounds at the end of the law ChannelBrings, by the states alone.
  No conditions.
-/
import Derived.Test.YteifehienpeaiaaPairLaw
set_option linter.unusedVariables false
set_option linter.unusedSimpArgs false
namespace Go.Proofs.Yteifehienpeaiaa
open Go.RowKit

/-- A run, one round longer. -/
theorem Run.snoc {A B : Nat → CS} {D0 D1 : List ByteArray} {T0 T1 : Nat → List ByteArray} {nw0 wt bt ep : Int} {N : Nat} (h : Run A B D0 D1 T0 T1 nw0 wt bt ep N) {a b : CS} {t0 t1 : List ByteArray} (h2 : Two a b D0 D1 t0 t1 (nw0 + 2 * (N + 1 : Nat)) wt bt ep) (p1 : Prog (A N) (B N) a b (nw0 + 2 * (N + 1 : Nat)) wt) (p2 : Prog (B N) (A N) b a (nw0 + 2 * (N + 1 : Nat)) wt) :
    Run (put A (N + 1) a) (put B (N + 1) b) D0 D1 (put T0 (N + 1) t0) (put T1 (N + 1) t1) nw0 wt bt ep (N + 1) := by
  refine ⟨fun i hi => ?_, fun i hi => ?_, fun i hi => ?_⟩
  · by_cases he : i = N + 1
    · subst he
      rw [put_at, put_at, put_at, put_at]
      exact h2
    · rw [put_ne _ _ he, put_ne _ _ he, put_ne _ _ he, put_ne _ _ he]
      exact h.two i (by omega)
  · by_cases he : i = N
    · subst he
      rw [put_at, put_at, put_ne _ _ (by omega), put_ne _ _ (by omega)]
      exact p1
    · rw [put_ne _ _ (show i ≠ N + 1 by omega), put_ne _ _ (show i ≠ N + 1 by omega), put_ne _ _ (show i + 1 ≠ N + 1 by omega), put_ne _ _ (show i + 1 ≠ N + 1 by omega)]
      exact h.ab i (by omega)
  · by_cases he : i = N
    · subst he
      rw [put_at, put_at, put_ne _ _ (by omega), put_ne _ _ (by omega)]
      exact p2
    · rw [put_ne _ _ (show i ≠ N + 1 by omega), put_ne _ _ (show i ≠ N + 1 by omega), put_ne _ _ (show i + 1 ≠ N + 1 by omega), put_ne _ _ (show i + 1 ≠ N + 1 by omega)]
      exact h.ba i (by omega)

/-- The pair behind k rounds. -/
structure RInv (S : PS) (k : Nat) : Prop where
  pt : Pt S 0 1
  giv : ∀ i, i < 2 → (S.L (2 + i)).length ≤ 100
  way : ∀ i, i < 2 → (S.L i).length ≤ 7000
  now : S.now ≤ 500 + 2 * k
  run : ∃ A B T0 T1 nw0, Run A B (S.L 2) (S.L 3) T0 T1 nw0 4 6 7 k ∧ A k = S.s 0 ∧ B k = S.s 1 ∧ T0 k = S.L 4 ∧ T1 k = S.L 5 ∧ nw0 + 2 * k = S.now ∧ (A 0).room ≤ 8 ∧ (B 0).room ≤ 8

theorem RInv.start {R : Int} {S : PS} {a : Nat} (h : DInv R S a) (ha : a ≤ 100) (hR : R ≤ 8) : RInv S 0 := by
  refine ⟨h.pt, fun i hi => Nat.le_trans (h.giv i hi) ha, fun i hi => by have := h.way i hi; omega, by have := h.now; omega, fun _ => S.s 0, fun _ => S.s 1, fun _ => S.L 4, fun _ => S.L 5, S.now, ⟨fun i hi => ?_, fun i hi => by omega, fun i hi => by omega⟩, rfl, rfl, rfl, rfl, by simp, by rw [h.room 0 (by decide)]; exact hR, by rw [h.room 1 (by decide)]; exact hR⟩
  have : i = 0 := by omega
  subst this
  simpa using h.pt.two

/-- Some of the letters on the way are taken. -/
theorem Pt.begun {S : PS} {k k' : Nat} (hp : Pt S k k') (i : Nat) :
    Two (S.s k') (takeAll (S.s k, S.L (4 + k)) ((S.L k).take i) S.now).1 (S.L (2 + k')) (S.L (2 + k)) (S.L (4 + k')) (takeAll (S.s k, S.L (4 + k)) ((S.L k).take i) S.now).2 S.now 4 6 7 ∧ Took' (S.s k) (takeAll (S.s k, S.L (4 + k)) ((S.L k).take i) S.now).1 ((S.L k).take i) S.now 7 :=
  Two.takeAll _ _ _ hp.two.swap (fun X hX => hp.wk X (List.mem_of_mem_take hX))

/-- All that is on the way to k is taken. -/
def PS.recv (S : PS) (k : Nat) : PS := { S with s := put S.s k (takeAll (S.s k, S.L (4 + k)) (S.L k) S.now).1, L := put (put S.L k []) (4 + k) (takeAll (S.s k, S.L (4 + k)) (S.L k) S.now).2 }
def PS.tickd (S : PS) (k : Nat) : PS := { S with s := put S.s k ((S.s k).ticks S.now), L := put S.L (1 - k) (S.L (1 - k) ++ (S.s k).outs S.now) }
def PS.part (S : PS) (k i : Nat) : PS := { S with s := put S.s k (takeAll (S.s k, S.L (4 + k)) ((S.L k).take i) S.now).1, L := put (put S.L k []) (4 + k) (takeAll (S.s k, S.L (4 + k)) ((S.L k).take i) S.now).2 }
def PS.round (S : PS) : PS := ((({ S with now := S.now + 2 } : PS).tickd 0).tickd 1).recv 0 |>.recv 1
theorem PS.part_all (S : PS) (k : Nat) : S.part k (S.L k).length = S.recv k := by
  unfold PS.part PS.recv
  rw [List.take_length]
theorem PS.part_succ (S : PS) (k i : Nat) (hk : k < 2) (h : i < (S.L k).length) : S.part k (i + 1) = { S.part k i with s := put (S.part k i).s k (took ((S.part k i).s k) ((S.L k).getD i ⟨#[]⟩) S.now).1, L := put (S.part k i).L (4 + k) ((S.part k i).L (4 + k) ++ (took ((S.part k i).s k) ((S.L k).getD i ⟨#[]⟩) S.now).2) } := by
  have hg : (S.L k).getD i ⟨#[]⟩ = (S.L k)[i] := by rw [List.getD_eq_getElem?_getD, List.getElem?_eq_getElem h]; rfl
  have e1 : (S.part k i).s k = (takeAll (S.s k, S.L (4 + k)) ((S.L k).take i) S.now).1 := put_at _ _ _
  have e2 : (S.part k i).L (4 + k) = (takeAll (S.s k, S.L (4 + k)) ((S.L k).take i) S.now).2 := put_at _ _ _
  rw [e1, e2, hg]
  unfold PS.part
  rw [List.take_succ_eq_append_getElem h, takeAll_snoc]
  congr 1
  · funext j
    unfold put
    by_cases hj : j = k
    · simp only [if_pos hj]
    · simp only [if_neg hj]
  · funext j
    unfold put
    by_cases hj : j = 4 + k
    · simp only [if_pos hj]
    · simp only [if_neg hj]
theorem PS.part_zero (S : PS) (k : Nat) (hk : k < 2) : S.part k 0 = { S with L := put S.L k [] } := by
  unfold PS.part
  show ({ s := put S.s k (S.s k), L := put (put S.L k []) (4 + k) (S.L (4 + k)), now := S.now } : PS) = _
  rw [put_same]
  congr 1
  funext j
  unfold put
  split
  · rename_i h; rw [if_neg (by omega), h]
  · rfl

theorem RInv.round {S : PS} {k : Nat} (h : RInv S k) (hk : k < 40) : RInv S.round (k + 1) := by
  obtain ⟨A, B, T0, T1, nw0, hrun, ea, eb, et0, et1, en, ra, rb⟩ := h.run
  have hnow := h.now
  have h0 := h.pt.two.time (nw' := S.now + 2) (by omega) (by omega)
  obtain ⟨h1, p1, p2⟩ := h0.round h.pt.wk h.pt.wk'
  have hnil : ∀ X ∈ ([] : List ByteArray), ∀ D t, LetIn D t 7 X := fun X hX => by cases hX
  refine ⟨⟨h1, fun X hX => (by cases hX), fun X hX => (by cases hX)⟩, ?_, ?_, ?_, put A (k + 1) (S.round.s 0), put B (k + 1) (S.round.s 1), put T0 (k + 1) (S.round.L 4), put T1 (k + 1) (S.round.L 5), nw0, ?_, put_at _ _ _, put_at _ _ _, put_at _ _ _, put_at _ _ _, ?_, ?_, ?_⟩
  · intro i hi
    have : i = 0 ∨ i = 1 := by omega
    rcases this with rfl | rfl
    · exact h.giv 0 hi
    · exact h.giv 1 hi
  · intro i hi
    have : i = 0 ∨ i = 1 := by omega
    rcases this with rfl | rfl
    · exact Nat.zero_le _
    · exact Nat.zero_le _
  · show S.now + 2 ≤ _
    push_cast
    omega
  · refine hrun.snoc ?_ ?_ ?_
    · rw [show nw0 + 2 * ((k + 1 : Nat) : Int) = S.now + 2 from by push_cast; omega]
      exact h1
    · rw [show nw0 + 2 * ((k + 1 : Nat) : Int) = S.now + 2 from by push_cast; omega, ea, eb]
      exact p1
    · rw [show nw0 + 2 * ((k + 1 : Nat) : Int) = S.now + 2 from by push_cast; omega, ea, eb]
      exact p2
  · show nw0 + 2 * ((k + 1 : Nat) : Int) = S.now + 2
    push_cast
    omega
  · rw [put_ne _ _ (by omega)]; exact ra
  · rw [put_ne _ _ (by omega)]; exact rb

/-- At the end all is taken and acknowledged. -/
theorem RInv.over {S : PS} (h : RInv S 40) : (S.s 0).last = (S.L 2).length ∧ (S.s 0).acked = (S.s 0).last ∧ (S.s 0).taken = (S.L 3).length ∧ (S.s 1).last = (S.L 3).length ∧ (S.s 1).acked = (S.s 1).last ∧ (S.s 1).taken = (S.L 2).length ∧ S.L 4 = S.L 3 ∧ S.L 5 = S.L 2 := by
  obtain ⟨A, B, T0, T1, nw0, hrun, ea, eb, et0, et1, en, ra, rb⟩ := h.run
  obtain ⟨b1, a1⟩ := hrun.over ra
  obtain ⟨b2, a2⟩ := hrun.swap.over rb
  rw [eb] at b1 a2
  rw [ea] at a1 b2
  have h1 := h.pt.two.ab.last
  have h2 := h.pt.two.ba.last
  have g1 := h.pt.two.ab.got
  have g2 := h.pt.two.ba.got
  replace h1 : (S.s 0).last = (S.L 2).length := h1
  replace h2 : (S.s 1).last = (S.L 3).length := h2
  replace g1 : S.L 5 = (S.L 2).take (S.s 1).taken.toNat := g1
  replace g2 : S.L 4 = (S.L 3).take (S.s 0).taken.toNat := g2
  refine ⟨h1, by omega, b2, h2, by omega, b1, ?_, ?_⟩
  · rw [g2, List.take_of_length_le (by omega)]
  · rw [g1, List.take_of_length_le (by omega)]

theorem RInv.right {S : PS} {k : Nat} (h : RInv S k) : RightOk S := ⟨(two_right h.pt.two.swap).1, (two_right h.pt.two).1⟩
theorem RInv.len {S : PS} {k : Nat} (h : RInv S k) : ∀ i, i < 6 → (S.L i).length ≤ 20000 := by
  intro i hi
  have : i = 0 ∨ i = 1 ∨ i = 2 ∨ i = 3 ∨ i = 4 ∨ i = 5 := by omega
  rcases this with rfl | rfl | rfl | rfl | rfl | rfl
  · have := h.way 0 (by decide); omega
  · have := h.way 1 (by decide); omega
  · have : (S.L 2).length ≤ 100 := h.giv 0 (by decide); omega
  · have : (S.L 3).length ≤ 100 := h.giv 1 (by decide); omega
  · have : (S.L 4).length ≤ 200 := (two_right h.pt.two.swap).2
    omega
  · have : (S.L 5).length ≤ 200 := (two_right h.pt.two).2
    omega

/-- A new pair. -/
theorem DInv.new {R : Int} (h : 1 ≤ R ∧ R ≤ 8) : DInv R (newPS R) 0 := by
  have hE : ∀ m : Int, 0 ≤ m ∧ m ≤ 1 → EInv (newEnd R m) 0 4 6 7 := fun m hm =>
    ⟨(PInv.new (room := R) (wait := 4) (beat := 6) (epoch := 7) (role := 3) (mark := m) (now := 0) ⟨⟨⟨h.1, by omega⟩, by decide, by decide⟩, by decide, by unfold wordB; simp; omega, by decide, by decide, by decide⟩).mono (Nat.zero_le _), fun q hq => (by cases hq), rfl, rfl, rfl, Int.le_refl _, fun x hx => (by cases hx), by show (0 : Int) ≤ 0 + 6; decide, by show (0 : Int) ≤ R; omega⟩
  have hD : ∀ m n : Int, Dir (newEnd R m) (newEnd R n) [] [] := fun m n => ⟨rfl, Int.le_refl _, Int.le_refl _, Int.le_refl _, fun k h1 h2 => (by change (0 : Int) < k at h1; change k ≤ 0 at h2; omega), fun x hx => (by cases hx), fun q hq => (by cases hq), rfl⟩
  refine ⟨⟨⟨hE 0 (by decide), hE 1 (by decide), hD 0 1, hD 1 0, by show (0 : Nat) ≤ 200; decide, by show (0 : Nat) ≤ 200; decide, Int.le_refl _, by show (0 : Int) ≤ _; decide⟩, fun X hX => (by cases hX), fun X hX => (by cases hX)⟩, fun i hi => Nat.le_refl _, fun i hi => Nat.le_refl _, by show (0 : Int) ≤ 5 * 0; decide, fun i hi => ?_⟩
  have : i = 0 ∨ i = 1 := by omega
  rcases this with rfl | rfl <;> rfl

/-- Blocks of strings, but one, are as they were. -/
def KeepT (v : Value) (W1 w : World) : Prop := ∀ b o, v.ownBlock ≠ some b → W1.heap[b]? = some (.cells o 9 (0, 0)) → w.heap[b]? = some (.cells o 9 (0, 0))
theorem KeepT.row {v u : Value} {W1 w : World} {base n : Nat} {xs : List Value} (h : KeepT v W1 w) (hr : W1.ownsRow base 9 1 u n xs) (hne : ∀ b, u.ownBlock = some b → v.ownBlock ≠ some b) : w.ownsRow base 9 1 u n xs := by
  refine ⟨hr.1, ?_⟩
  rcases hr.2 with h1 | ⟨g, cap, cur, rfl, hb, hg, rest⟩
  · exact .inl h1
  · exact .inr ⟨g, cap, cur, rfl, hb, h g cur (hne g rfl) hg, rest⟩
theorem took_len {S : PS} {k k' i : Nat} (hp : Pt S k k') (hk : k < 2) (hi : i < (S.L k).length) : (took ((S.part k i).s k) ((S.L k).getD i ⟨#[]⟩) S.now).2.length ≤ 200 ∧ ((S.part k i).L (4 + k)).length ≤ 200 ∧ PInv ((S.part k i).s k) 300 := by
  have h1 := (hp.begun (i + 1)).1
  have h2 := (hp.begun i).1
  have e1 : (S.part k i).s k = (takeAll (S.s k, S.L (4 + k)) ((S.L k).take i) S.now).1 := put_at _ _ _
  have e2 : (S.part k i).L (4 + k) = (takeAll (S.s k, S.L (4 + k)) ((S.L k).take i) S.now).2 := put_at _ _ _
  have hg : (S.L k).getD i ⟨#[]⟩ = (S.L k)[i] := by rw [List.getD_eq_getElem?_getD, List.getElem?_eq_getElem hi]; rfl
  have l1 := (two_right h1).2
  have l2 := (two_right h2).2
  rw [List.take_succ_eq_append_getElem hi, takeAll_snoc] at l1
  rw [e1, e2, hg]
  simp only [List.length_append] at l1
  exact ⟨by omega, l2, h2.eb.p⟩

end Go.Proofs.Yteifehienpeaiaa

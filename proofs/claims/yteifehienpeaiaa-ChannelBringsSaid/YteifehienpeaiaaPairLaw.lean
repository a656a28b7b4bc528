/-
  What the acts of the law ChannelBrings leave, by the states alone.
  No conditions.
-/
import Derived.Test.YteifehienpeaiaaPairCalls
set_option linter.unusedVariables false
set_option linter.unusedSimpArgs false
namespace Go.Proofs.Yteifehienpeaiaa
open Go.RowKit

/-- The pair seen from its end k. -/
structure Pt (S : PS) (k k' : Nat) : Prop where
  two : Two (S.s k) (S.s k') (S.L (2 + k)) (S.L (2 + k')) (S.L (4 + k)) (S.L (4 + k')) S.now 4 6 7
  wk : ∀ X ∈ S.L k, LetIn (S.L (2 + k')) (S.s k').taken 7 X
  wk' : ∀ X ∈ S.L k', LetIn (S.L (2 + k)) (S.s k).taken 7 X
theorem Pt.swap {S : PS} {k k' : Nat} (h : Pt S k k') : Pt S k' k := ⟨h.two.swap, h.wk', h.wk⟩

/-- The pair behind a acts. -/
structure DInv (R : Int) (S : PS) (a : Nat) : Prop where
  pt : Pt S 0 1
  giv : ∀ i, i < 2 → (S.L (2 + i)).length ≤ a
  way : ∀ i, i < 2 → (S.L i).length ≤ 70 * a
  now : S.now ≤ 5 * a
  room : ∀ i, i < 2 → (S.s i).room = R

theorem DInv.at_ {R : Int} {S : PS} {a k k' : Nat} (h : DInv R S a) (hk : (k = 0 ∧ k' = 1) ∨ (k = 1 ∧ k' = 0)) : Pt S k k' := by
  rcases hk with ⟨rfl, rfl⟩ | ⟨rfl, rfl⟩
  · exact h.pt
  · exact h.pt.swap
theorem DInv.mk' {R : Int} {S : PS} {a k k' : Nat} (hk : (k = 0 ∧ k' = 1) ∨ (k = 1 ∧ k' = 0)) (h : Pt S k k') (hg : (S.L (2 + k)).length ≤ a ∧ (S.L (2 + k')).length ≤ a) (hw : (S.L k).length ≤ 70 * a ∧ (S.L k').length ≤ 70 * a) (hn : S.now ≤ 5 * a) (hr : (S.s k).room = R ∧ (S.s k').room = R) : DInv R S a := by
  rcases hk with ⟨rfl, rfl⟩ | ⟨rfl, rfl⟩
  · refine ⟨h, fun i hi => ?_, fun i hi => ?_, hn, fun i hi => ?_⟩
    all_goals
      have : i = 0 ∨ i = 1 := by omega
      rcases this with rfl | rfl
    · exact hg.1
    · exact hg.2
    · exact hw.1
    · exact hw.2
    · exact hr.1
    · exact hr.2
  · refine ⟨h.swap, fun i hi => ?_, fun i hi => ?_, hn, fun i hi => ?_⟩
    all_goals
      have : i = 0 ∨ i = 1 := by omega
      rcases this with rfl | rfl
    · exact hg.2
    · exact hg.1
    · exact hw.2
    · exact hw.1
    · exact hr.2
    · exact hr.1
theorem DInv.mono {R : Int} {S : PS} {a b : Nat} (h : DInv R S a) (hb : a ≤ b) : DInv R S b :=
  ⟨h.pt, fun i hi => Nat.le_trans (h.giv i hi) hb, fun i hi => by have := h.way i hi; omega, by have := h.now; omega, h.room⟩
theorem two_right {a b : CS} {D0 D1 T0 T1 : List ByteArray} {nw wt bt ep : Int} (h : Two a b D0 D1 T0 T1 nw wt bt ep) : (∃ n, T1 = D0.take n ∧ n ≤ D0.length) ∧ T1.length ≤ 200 := by
  have h1 := h.ab.got
  have h2 := h.ab.takL
  have h3 := h.ab.last
  have h4 := h.d0
  refine ⟨⟨b.taken.toNat, h1, by omega⟩, ?_⟩
  rw [h1, List.length_take]
  omega
theorem DInv.right {R : Int} {S : PS} {a : Nat} (h : DInv R S a) : RightOk S := ⟨(two_right h.pt.two.swap).1, (two_right h.pt.two).1⟩
theorem DInv.len {R : Int} {S : PS} {a : Nat} (h : DInv R S a) (ha : a ≤ 200) : ∀ i, i < 6 → (S.L i).length ≤ 20000 := by
  intro i hi
  have : i = 0 ∨ i = 1 ∨ i = 2 ∨ i = 3 ∨ i = 4 ∨ i = 5 := by omega
  rcases this with rfl | rfl | rfl | rfl | rfl | rfl
  · have := h.way 0 (by decide); omega
  · have := h.way 1 (by decide); omega
  · have : (S.L 2).length ≤ a := h.giv 0 (by decide); omega
  · have : (S.L 3).length ≤ a := h.giv 1 (by decide); omega
  · have : (S.L 4).length ≤ 200 := (two_right h.pt.two.swap).2
    omega
  · have : (S.L 5).length ≤ 200 := (two_right h.pt.two).2
    omega
theorem DInv.p {R : Int} {S : PS} {a : Nat} (h : DInv R S a) {k : Nat} (hk : k < 2) : PInv (S.s k) 300 := by
  have : k = 0 ∨ k = 1 := by omega
  rcases this with rfl | rfl
  · exact h.pt.two.ea.p
  · exact h.pt.two.eb.p
theorem outs_le {s : CS} (h : PInv s 300) (now : Int) : (s.outs now).length ≤ 65 := by
  unfold CS.outs
  rw [List.length_append, List.length_map]
  have h1 := List.length_filter_le (s.ticked now).due s.O
  have h2 := h.ok.len
  split <;> simp only [List.length_cons, List.length_nil] <;> omega

section
variable {R : Int} {S : PS} {a k k' : Nat}

/-- A letter is sent. -/
theorem DInv.send (h : DInv R S a) (ha : a < 100) (hk : (k = 0 ∧ k' = 1) ∨ (k = 1 ∧ k' = 0)) (d : ByteArray) (hd : d.size ≤ 4096) (hf : ¬ (S.s k).room ≤ (S.s k).O.length) (b : Nat) :
    DInv R { S with s := put S.s k ((S.s k).sent d S.now b), L := put (put S.L (2 + k) (S.L (2 + k) ++ [d])) k' (S.L k' ++ [sendX (S.s k) d S.now]) } (a + 1) := by
  have hp := h.at_ hk
  have hg1 := h.giv k (by omega)
  have hg2 := h.giv k' (by omega)
  have hw1 := h.way k (by omega)
  have hw2 := h.way k' (by omega)
  have hr1 := h.room k (by omega)
  have hr2 := h.room k' (by omega)
  have hn := h.now
  obtain ⟨h1, h2⟩ := hp.two.sent d hd (by omega) (by omega) b
  have hX : sendX (S.s k) d S.now = ((S.s k).ticked S.now).letter 1 ((S.s k).last + 1) d := if_neg hf
  have hnew : ∀ X ∈ S.L k' ++ [sendX (S.s k) d S.now], LetIn (S.L (2 + k) ++ [d]) ((S.s k).sent d S.now b).taken 7 X := by
    intro X hX'
    rcases List.mem_append.1 hX' with hX' | hX'
    · exact (hp.wk' X hX').mono ⟨[d], rfl⟩ (Int.le_refl _)
    · simp only [List.mem_singleton] at hX'
      rw [hX', hX]
      exact h2
  refine DInv.mk' hk ?_ ?_ ?_ (by show S.now ≤ _; omega) ?_
  all_goals rcases hk with ⟨rfl, rfl⟩ | ⟨rfl, rfl⟩
  · exact ⟨h1, hp.wk, hnew⟩
  · exact ⟨h1, hp.wk, hnew⟩
  · exact ⟨by show (S.L (2 + 0) ++ [d]).length ≤ _; rw [List.length_append]; simp only [List.length_cons, List.length_nil]; omega, by show (S.L (2 + 1)).length ≤ _; omega⟩
  · exact ⟨by show (S.L (2 + 1) ++ [d]).length ≤ _; rw [List.length_append]; simp only [List.length_cons, List.length_nil]; omega, by show (S.L (2 + 0)).length ≤ _; omega⟩
  · exact ⟨by show (S.L 0).length ≤ _; omega, by show (S.L 1 ++ [_]).length ≤ _; rw [List.length_append]; simp only [List.length_cons, List.length_nil]; omega⟩
  · exact ⟨by show (S.L 1).length ≤ _; omega, by show (S.L 0 ++ [_]).length ≤ _; rw [List.length_append]; simp only [List.length_cons, List.length_nil]; omega⟩
  · exact ⟨hr1, hr2⟩
  · exact ⟨hr1, hr2⟩

/-- An end's tick. -/
theorem Pt.tick (hp : Pt S k k') (hk : (k = 0 ∧ k' = 1) ∨ (k = 1 ∧ k' = 0)) : Pt { S with s := put S.s k ((S.s k).ticks S.now), L := put S.L k' (S.L k' ++ (S.s k).outs S.now) } k k' := by
  obtain ⟨h1, h2⟩ := hp.two.tick
  have hnew : ∀ X ∈ S.L k' ++ (S.s k).outs S.now, LetIn (S.L (2 + k)) ((S.s k).ticks S.now).taken 7 X := by
    intro X hX'
    rcases List.mem_append.1 hX' with hX' | hX'
    · exact hp.wk' X hX'
    · exact h2 X hX'
  rcases hk with ⟨rfl, rfl⟩ | ⟨rfl, rfl⟩
  · exact ⟨h1, hp.wk, hnew⟩
  · exact ⟨h1, hp.wk, hnew⟩

/-- Ticks go by. -/
theorem DInv.tick2 (h : DInv R S a) (ha : a < 100) (n : Int) (hn : 1 ≤ n ∧ n ≤ 5) :
    DInv R { s := put (put S.s 0 ((S.s 0).ticks (S.now + n))) 1 ((S.s 1).ticks (S.now + n)), L := put (put S.L 1 (S.L 1 ++ (S.s 0).outs (S.now + n))) 0 (S.L 0 ++ (S.s 1).outs (S.now + n)), now := S.now + n } (a + 1) := by
  have hnow := h.now
  have h0 : Pt { S with now := S.now + n } 0 1 := ⟨h.pt.two.time (nw' := S.now + n) (by omega) (by omega), h.pt.wk, h.pt.wk'⟩
  have h1 := h0.tick (.inl ⟨rfl, rfl⟩)
  have h2 := h1.swap.tick (.inr ⟨rfl, rfl⟩)
  have o0 := outs_le (h.p (k := 0) (by decide)) (S.now + n)
  have o1 := outs_le (h.p (k := 1) (by decide)) (S.now + n)
  have w0 := h.way 0 (by decide)
  have w1 := h.way 1 (by decide)
  refine DInv.mk' (k := 0) (k' := 1) (.inl ⟨rfl, rfl⟩) h2.swap ⟨?_, ?_⟩ ⟨?_, ?_⟩ (by show S.now + n ≤ _; push_cast; omega) ⟨h.room 0 (by decide), h.room 1 (by decide)⟩
  · show (S.L (2 + 0)).length ≤ _
    have := h.giv 0 (by decide)
    omega
  · show (S.L (2 + 1)).length ≤ _
    have := h.giv 1 (by decide)
    omega
  · show (S.L 0 ++ (S.s 1).outs (S.now + n)).length ≤ _
    rw [List.length_append]
    omega
  · show (S.L 1 ++ (S.s 0).outs (S.now + n)).length ≤ _
    rw [List.length_append]
    omega

/-- A letter goes off its way. -/
theorem DInv.cut (h : DInv R S a) (hk : (k = 0 ∧ k' = 1) ∨ (k = 1 ∧ k' = 0)) (n : Nat) : DInv R { S with L := put S.L k ((S.L k).take n ++ (S.L k).drop (n + 1)) } a := by
  have hp := h.at_ hk
  have hg1 := h.giv k (by omega)
  have hg2 := h.giv k' (by omega)
  have hw1 := h.way k (by omega)
  have hw2 := h.way k' (by omega)
  have hr1 := h.room k (by omega)
  have hr2 := h.room k' (by omega)
  have hl : ((S.L k).take n ++ (S.L k).drop (n + 1)).length ≤ (S.L k).length := by
    rw [List.length_append, List.length_take, List.length_drop]
    omega
  have hnew : ∀ X ∈ (S.L k).take n ++ (S.L k).drop (n + 1), LetIn (S.L (2 + k')) (S.s k').taken 7 X := by
    intro X hX
    rcases List.mem_append.1 hX with hX | hX
    · exact hp.wk X (List.mem_of_mem_take hX)
    · exact hp.wk X (List.mem_of_mem_drop hX)
  refine DInv.mk' hk ?_ ?_ ?_ h.now ⟨hr1, hr2⟩
  all_goals rcases hk with ⟨rfl, rfl⟩ | ⟨rfl, rfl⟩
  · exact ⟨hp.two, hnew, hp.wk'⟩
  · exact ⟨hp.two, hnew, hp.wk'⟩
  · exact ⟨hg1, hg2⟩
  · exact ⟨hg1, hg2⟩
  · exact ⟨Nat.le_trans hl hw1, hw2⟩
  · exact ⟨Nat.le_trans hl hw1, hw2⟩

/-- A letter is taken. -/
theorem Pt.take (hp : Pt S k k') (hk : (k = 0 ∧ k' = 1) ∨ (k = 1 ∧ k' = 0)) (X : ByteArray) (hX : LetIn (S.L (2 + k')) (S.s k').taken 7 X) :
    Pt { S with s := put S.s k (took (S.s k) X S.now).1, L := put S.L (4 + k) (S.L (4 + k) ++ (took (S.s k) X S.now).2) } k k' ∧ Took (S.s k) (took (S.s k) X S.now).1 X S.now 7 := by
  obtain ⟨h1, h2⟩ := hp.two.swap.took hX
  refine ⟨?_, h2⟩
  have hm : ∀ Y ∈ S.L k', LetIn (S.L (2 + k)) (took (S.s k) X S.now).1.taken 7 Y := fun Y hY => (hp.wk' Y hY).mono ⟨[], (List.append_nil _).symm⟩ h2.up
  rcases hk with ⟨rfl, rfl⟩ | ⟨rfl, rfl⟩
  · exact ⟨h1.swap, hp.wk, hm⟩
  · exact ⟨h1.swap, hp.wk, hm⟩
theorem DInv.take (h : DInv R S a) (hk : (k = 0 ∧ k' = 1) ∨ (k = 1 ∧ k' = 0)) (X : ByteArray) (hX : LetIn (S.L (2 + k')) (S.s k').taken 7 X) :
    DInv R { S with s := put S.s k (took (S.s k) X S.now).1, L := put S.L (4 + k) (S.L (4 + k) ++ (took (S.s k) X S.now).2) } a := by
  have hp := h.at_ hk
  have hg1 := h.giv k (by omega)
  have hg2 := h.giv k' (by omega)
  have hw1 := h.way k (by omega)
  have hw2 := h.way k' (by omega)
  have hr1 := h.room k (by omega)
  have hr2 := h.room k' (by omega)
  obtain ⟨h1, h2⟩ := hp.take hk X hX
  refine DInv.mk' hk h1 ?_ ?_ h.now ?_
  all_goals rcases hk with ⟨rfl, rfl⟩ | ⟨rfl, rfl⟩
  · exact ⟨hg1, hg2⟩
  · exact ⟨hg1, hg2⟩
  · exact ⟨hw1, hw2⟩
  · exact ⟨hw1, hw2⟩
  · exact ⟨h2.room.trans hr1, hr2⟩
  · exact ⟨h2.room.trans hr1, hr2⟩

/-- What is no letter changes nothing. -/
theorem PS.take_bad (hk : (k = 0 ∧ k' = 1) ∨ (k = 1 ∧ k' = 0)) (X : ByteArray) (hX : ¬ DecOk X) : ({ S with s := put S.s k (took (S.s k) X S.now).1, L := put S.L (4 + k) (S.L (4 + k) ++ (took (S.s k) X S.now).2) } : PS) = S := by
  rw [took_bad hX, List.append_nil, put_same, put_same]
end

/-- A letter whose last byte is turned is none. -/
theorem turned_none {S T : ByteArray} {x y : Int} {A : List Int} (hS : DecOk S) (h1 : nums S = A ++ [x]) (h2 : nums T = A ++ [y]) (hxy : x ≠ y) : ¬ DecOk T := by
  intro hT
  have hlS : (nums S).length = S.size := by unfold nums; simp
  have hlT : (nums T).length = T.size := by unfold nums; simp
  have hA : A.length + 1 = S.size := by rw [← hlS, h1]; simp
  have hAT : A.length + 1 = T.size := by rw [← hlT, h2]; simp
  have h20 := hS.long
  have hnum : ∀ off m, off + m ≤ A.length → numAt S off m = numAt T off m := by
    intro off m hm
    unfold numAt
    rw [h1, h2, List.drop_append_of_le_length (by omega), List.drop_append_of_le_length (by omega), List.take_append_of_le_length (by rw [List.length_drop]; omega), List.take_append_of_le_length (by rw [List.length_drop]; omega)]
  have hex : S.extract 16 (S.size - 4) = T.extract 16 (T.size - 4) := by
    apply nums_inj
    rw [nums_extract, nums_extract, h1, h2]
    rw [show S.size - 4 = T.size - 4 from by omega, List.drop_append_of_le_length (by omega), List.drop_append_of_le_length (by omega), List.take_append_of_le_length (by rw [List.length_drop]; omega), List.take_append_of_le_length (by rw [List.length_drop]; omega)]
  have e := hS.whole
  rw [hnum 0 1 (by omega), hnum 1 4 (by omega), hnum 5 1 (by omega), hnum 6 4 (by omega), hnum 10 4 (by omega), hex] at e
  have e2 := e.symm.trans hT.whole
  rw [e2, h2] at h1
  have := (List.append_inj' h1 rfl).2
  injection this with this
  exact hxy this.symm

end Go.Proofs.Yteifehienpeaiaa

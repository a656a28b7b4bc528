/-
  Two ends of a channel, by their states alone: once nothing is lost, all comes.
  No conditions.
-/
import Derived.Test.YteifehienpeaiaaProtoTwo
set_option linter.unusedVariables false
set_option linter.unusedSimpArgs false
namespace Go.Proofs.Yteifehienpeaiaa
open Go.RowKit

/-- The letters of a list are taken, one after the other. -/
def takeAll (p : CS × List ByteArray) (l : List ByteArray) (nw : Int) : CS × List ByteArray := l.foldl (fun p S => ((took p.1 S nw).1, p.2 ++ (took p.1 S nw).2)) p
theorem takeAll_cons (p : CS × List ByteArray) (S : ByteArray) (l : List ByteArray) (nw : Int) : takeAll p (S :: l) nw = takeAll ((took p.1 S nw).1, p.2 ++ (took p.1 S nw).2) l nw := rfl
theorem takeAll_snoc (p : CS × List ByteArray) (S : ByteArray) (l : List ByteArray) (nw : Int) : takeAll p (l ++ [S]) nw = ((took (takeAll p l nw).1 S nw).1, (takeAll p l nw).2 ++ (took (takeAll p l nw).1 S nw).2) := by
  unfold takeAll
  rw [List.foldl_append]
  rfl

/-- What a list of letters does to the end that takes it. -/
structure Took' (b b' : CS) (l : List ByteArray) (nw ep : Int) : Prop where
  up : b.taken ≤ b'.taken
  last : b'.last = b.last
  acku : b.acked ≤ b'.acked
  stay : ∀ x ∈ b.O, x ∈ b'.O ∨ x.key ≤ b'.acked
  bat : b'.bat = b.bat ∨ b'.bat = nw
  room : b'.room = b.room
  next : ∀ r n ak d, letBytes 1 ep r n ak d ∈ l → letterB 1 ep r n ak d = true → n ≤ b.taken + 1 → n ≤ b'.taken
  ack : ∀ k r n ak d, letBytes k ep r n ak d ∈ l → letterB k ep r n ak d = true → ak ≤ b.last → ak ≤ b'.acked

theorem Two.takeAll {a : CS} {D0 D1 T0 : List ByteArray} {nw wt bt ep : Int} : ∀ (l : List ByteArray) (b : CS) (T1 : List ByteArray), Two a b D0 D1 T0 T1 nw wt bt ep → (∀ S ∈ l, LetIn D0 a.taken ep S) →
    Two a (takeAll (b, T1) l nw).1 D0 D1 T0 (takeAll (b, T1) l nw).2 nw wt bt ep ∧ Took' b (takeAll (b, T1) l nw).1 l nw ep
  | [], b, T1, h, _ => ⟨h, ⟨Int.le_refl _, rfl, Int.le_refl _, fun x hx => .inl hx, .inl rfl, rfl, fun _ _ _ _ hm => (by cases hm), fun _ _ _ _ _ hm => (by cases hm)⟩⟩
  | S :: l, b, T1, h, hS => by
    obtain ⟨h1, t1⟩ := h.took (hS S List.mem_cons_self)
    obtain ⟨h2, t2⟩ := Two.takeAll l _ _ h1 (fun X hX => hS X (List.mem_cons_of_mem _ hX))
    rw [takeAll_cons]
    refine ⟨h2, ⟨Int.le_trans t1.up t2.up, t2.last.trans t1.last, Int.le_trans t1.acku t2.acku, ?_, ?_, t2.room.trans t1.room, ?_, ?_⟩⟩
    · intro x hx
      rcases t1.stay x hx with h3 | h3
      · exact t2.stay x h3
      · exact .inr (Int.le_trans h3 t2.acku)
    · rcases t2.bat with e | e
      · rcases t1.bat with e' | e'
        · exact .inl (e.trans e')
        · exact .inr (e.trans e')
      · exact .inr e
    · intro r n ak d hm hl hn
      rcases List.mem_cons.1 hm with hm | hm
      · exact Int.le_trans (t1.next r n ak d hm.symm hl hn) t2.up
      · have := t1.up
        exact t2.next r n ak d hm hl (by omega)
    · intro k r n ak d hm hl hn
      rcases List.mem_cons.1 hm with hm | hm
      · exact Int.le_trans (t1.ack k r n ak d hm.symm hl hn) t2.acku
      · exact t2.ack k r n ak d hm hl (by rw [t1.last]; exact hn)

/-- How far a round brings the direction from a to b. -/
structure Prog (a b a' b' : CS) (t wt : Int) : Prop where
  up : b.taken ≤ b'.taken
  last : a'.last = a.last
  due : ∀ x ∈ a.O, x.key = b.taken + 1 → x.at_ + wt ≤ t → b.taken + 1 ≤ b'.taken
  stay : ∀ x ∈ a.O, ¬ x.at_ + wt ≤ t → x ∈ a'.O ∨ x.key ≤ b'.taken
  ack : b.bat ≤ t → b.taken ≤ a'.acked
  acku : a.acked ≤ a'.acked
  bat : ¬ b.bat ≤ t → b'.bat ≤ b.bat

theorem Two.prog {a b : CS} {D0 D1 T0 T1 : List ByteArray} {t wt bt ep : Int} {Wa Wb : List ByteArray} (h : Two a b D0 D1 T0 T1 t wt bt ep) (hWa : ∀ S ∈ Wa, LetIn D1 b.taken ep S) (hWb : ∀ S ∈ Wb, LetIn D0 a.taken ep S) {a1 b1 : CS}
    (ha1 : a1 = a.ticks t) (hb1 : b1 = b.ticks t) {a2 b2 : CS} (ta : Took' a1 a2 (Wa ++ b.outs t) t ep) (tb : Took' b1 b2 (Wb ++ a.outs t) t ep) (hack : a2.acked ≤ b2.taken) : Prog a b a2 b2 t wt := by
  subst ha1 hb1
  have hna := ticked_now h.ea.n h.n1
  have hnb := ticked_now h.eb.n h.n1
  have hoa := h.ea.p.ok.ticked t
  have hob := h.eb.p.ok.ticked t
  have hea : (a.ticked t).epoch = ep := h.ea.e
  have heb : (b.ticked t).epoch = ep := h.eb.e
  refine ⟨tb.up, ta.last, ?_, ?_, ?_, ta.acku, ?_⟩
  · intro x hx hk hdue
    have hL : letterB 1 (a.ticked t).epoch (a.ticked t).role x.key (a.ticked t).taken x.data = true := by
      have hkk := h.ea.p.ok.key x hx
      have := hoa.e0; have := hoa.e1; have := hoa.o0; have := hoa.o1; have := hoa.t0; have := hoa.t1
      unfold letterB wordB roleB
      simp only [Bool.and_eq_true, Bool.or_eq_true, decide_eq_true_eq, beq_iff_eq]
      refine ⟨⟨⟨⟨⟨?_, ?_⟩, ?_⟩, ?_⟩, ?_⟩, .inl ⟨trivial, ?_⟩⟩ <;> omega
    rw [hea] at hL
    have hm : letBytes 1 ep (a.ticked t).role x.key (a.ticked t).taken x.data ∈ Wb ++ a.outs t := by
      refine List.mem_append_right _ (List.mem_append_left _ ?_)
      refine List.mem_map.2 ⟨x, List.mem_filter.2 ⟨hx, ?_⟩, by unfold CS.letter; rw [hea]⟩
      unfold CS.due
      rw [hna]
      show decide (x.at_ + a.wait ≤ t) = true
      rw [h.ea.w]
      simpa using hdue
    have := tb.next _ _ _ _ hm hL (by show x.key ≤ b.taken + 1; omega)
    omega
  · intro x hx hnd
    have hm : x ∈ (a.ticks t).O := by
      refine List.mem_map.2 ⟨x, hx, ?_⟩
      unfold CS.upd
      rw [if_neg]
      unfold CS.due
      rw [hna]
      show ¬ decide (x.at_ + a.wait ≤ t) = true
      rw [h.ea.w]
      simpa using hnd
    rcases ta.stay x hm with h1 | h1
    · exact .inl h1
    · exact .inr (Int.le_trans h1 hack)
  · intro hb
    have hL : letterB 2 (b.ticked t).epoch (b.ticked t).role b.mark (b.ticked t).taken ⟨#[]⟩ = true := by
      have := hob.e0; have := hob.e1; have := hob.o0; have := hob.o1; have := hob.t0; have := hob.t1
      have hm0 : 0 ≤ b.mark := hob.m0
      have hm1 : b.mark ≤ 4294967295 := hob.m1
      unfold letterB wordB roleB
      simp only [Bool.and_eq_true, Bool.or_eq_true, decide_eq_true_eq, beq_iff_eq]
      refine ⟨⟨⟨⟨⟨?_, ?_⟩, ?_⟩, ?_⟩, ?_⟩, .inr ⟨trivial, ?_⟩⟩ <;> first | omega | rfl | decide
    rw [heb] at hL
    have hm : letBytes 2 ep (b.ticked t).role b.mark (b.ticked t).taken ⟨#[]⟩ ∈ Wa ++ b.outs t := by
      refine List.mem_append_right _ (List.mem_append_right _ ?_)
      rw [hnb, if_pos hb]
      exact List.mem_singleton.2 (by unfold CS.letter; rw [heb])
    exact ta.ack _ _ _ _ _ hm hL (by show b.taken ≤ a.last; exact h.ab.takL)
  · intro hb
    have hbat : (b.ticks t).bat = b.bat := by
      show (if b.bat ≤ (b.ticked t).now then _ else _) = _
      rw [hnb, if_neg hb]
    rcases tb.bat with e | e
    · rw [e, hbat]; exact Int.le_refl _
    · rw [e]; omega

theorem Two.round {a b : CS} {D0 D1 T0 T1 : List ByteArray} {t wt bt ep : Int} {Wa Wb : List ByteArray} (h : Two a b D0 D1 T0 T1 t wt bt ep) (hWa : ∀ S ∈ Wa, LetIn D1 b.taken ep S) (hWb : ∀ S ∈ Wb, LetIn D0 a.taken ep S) :
    Two (Go.Proofs.Yteifehienpeaiaa.takeAll (a.ticks t, T0) (Wa ++ b.outs t) t).1 (Go.Proofs.Yteifehienpeaiaa.takeAll (b.ticks t, T1) (Wb ++ a.outs t) t).1 D0 D1 (Go.Proofs.Yteifehienpeaiaa.takeAll (a.ticks t, T0) (Wa ++ b.outs t) t).2 (Go.Proofs.Yteifehienpeaiaa.takeAll (b.ticks t, T1) (Wb ++ a.outs t) t).2 t wt bt ep ∧
    Prog a b (Go.Proofs.Yteifehienpeaiaa.takeAll (a.ticks t, T0) (Wa ++ b.outs t) t).1 (Go.Proofs.Yteifehienpeaiaa.takeAll (b.ticks t, T1) (Wb ++ a.outs t) t).1 t wt ∧
    Prog b a (Go.Proofs.Yteifehienpeaiaa.takeAll (b.ticks t, T1) (Wb ++ a.outs t) t).1 (Go.Proofs.Yteifehienpeaiaa.takeAll (a.ticks t, T0) (Wa ++ b.outs t) t).1 t wt := by
  obtain ⟨h1, o1⟩ := h.tick
  obtain ⟨h2, o2⟩ := h1.swap.tick
  have h3 := h2.swap
  obtain ⟨h4, t4⟩ := Two.takeAll (Wa ++ b.outs t) _ _ h2 (fun S hS => by
    rcases List.mem_append.1 hS with hS | hS
    · exact (hWa S hS).mono ⟨[], (List.append_nil _).symm⟩ (Int.le_refl _)
    · exact (o2 S hS).mono ⟨[], (List.append_nil _).symm⟩ (Int.le_refl _))
  obtain ⟨h5, t5⟩ := Two.takeAll (Wb ++ a.outs t) _ _ h4.swap (fun S hS => by
    rcases List.mem_append.1 hS with hS | hS
    · exact (hWb S hS).mono ⟨[], (List.append_nil _).symm⟩ t4.up
    · exact (o1 S hS).mono ⟨[], (List.append_nil _).symm⟩ t4.up)
  exact ⟨h5, h.prog hWa hWb rfl rfl t4 t5 h5.ab.ackT, h.swap.prog hWb hWa rfl rfl t5 t4 h5.ba.ackT⟩

/-! ### Rounds -/

/-- What the rounds do: a run of states, two ticks apart. -/
structure Run (A B : Nat → CS) (D0 D1 : List ByteArray) (T0 T1 : Nat → List ByteArray) (nw0 wt bt ep : Int) (N : Nat) : Prop where
  two : ∀ i, i ≤ N → Two (A i) (B i) D0 D1 (T0 i) (T1 i) (nw0 + 2 * i) wt bt ep
  ab : ∀ i, i < N → Prog (A i) (B i) (A (i + 1)) (B (i + 1)) (nw0 + 2 * (i + 1 : Nat)) wt
  ba : ∀ i, i < N → Prog (B i) (A i) (B (i + 1)) (A (i + 1)) (nw0 + 2 * (i + 1 : Nat)) wt
theorem Run.swap {A B : Nat → CS} {D0 D1 : List ByteArray} {T0 T1 : Nat → List ByteArray} {nw0 wt bt ep : Int} {N : Nat} (h : Run A B D0 D1 T0 T1 nw0 wt bt ep N) : Run B A D1 D0 T1 T0 nw0 wt bt ep N := ⟨fun i hi => (h.two i hi).swap, h.ba, h.ab⟩

section
variable {A B : Nat → CS} {D0 D1 : List ByteArray} {T0 T1 : Nat → List ByteArray} {nw0 bt ep : Int} {N : Nat}

theorem Run.up (h : Run A B D0 D1 T0 T1 nw0 4 bt ep N) (i : Nat) : ∀ j, i + j ≤ N → (B i).taken ≤ (B (i + j)).taken ∧ (A i).acked ≤ (A (i + j)).acked
  | 0, _ => ⟨Int.le_refl _, Int.le_refl _⟩
  | j + 1, hj => by
    obtain ⟨h1, h2⟩ := h.up i j (by omega)
    have hp := h.ab (i + j) (by omega)
    exact ⟨Int.le_trans h1 hp.up, Int.le_trans h2 hp.acku⟩

/-- Within two rounds the next letter is taken. -/
theorem Run.two_more (h : Run A B D0 D1 T0 T1 nw0 4 bt ep N) (i : Nat) (hi : i + 2 ≤ N) (hl : (B i).taken < D0.length) : (B i).taken + 1 ≤ (B (i + 2)).taken := by
  have h0 := h.two i (by omega)
  have p0 := h.ab i (by omega)
  have p1 := h.ab (i + 1) (by omega)
  have hlast := h0.ab.last
  obtain ⟨x, hx, hk⟩ := h0.ab.all ((B i).taken + 1) (by have := h0.ab.ackT; omega) (by omega)
  by_cases hd : x.at_ + 4 ≤ nw0 + 2 * ((i + 1 : Nat) : Int)
  · have h1 := p0.due x hx hk hd
    have h2 := p1.up
    show (B i).taken + 1 ≤ (B (i + 1 + 1)).taken
    omega
  · by_cases ht : (B i).taken + 1 ≤ (B (i + 1)).taken
    · have h2 := p1.up
      show (B i).taken + 1 ≤ (B (i + 1 + 1)).taken
      omega
    · have h1 := p0.up
      have he : (B (i + 1)).taken = (B i).taken := by omega
      rcases p0.stay x hx hd with hs | hs
      · have hat := h0.ea.ats x hx
        have hn := h0.ea.n
        have := p1.due x hs (by rw [he]; exact hk) (by omega)
        show (B i).taken + 1 ≤ (B (i + 1 + 1)).taken
        omega
      · omega

theorem Run.all_taken (h : Run A B D0 D1 T0 T1 nw0 4 bt ep N) : ∀ (m i : Nat), i + 2 * m ≤ N → D0.length ≤ (B i).taken + m → (B (i + 2 * m)).taken = D0.length
  | 0, i, hi, hm => by
    have h0 := (h.two i (by omega)).ab
    have := h0.takL
    have := h0.last
    show (B i).taken = _
    omega
  | m + 1, i, hi, hm => by
    have h0 := (h.two i (by omega)).ab
    have ht := h0.takL
    have hl := h0.last
    rw [show i + 2 * (m + 1) = (i + 2) + 2 * m from by omega]
    by_cases hc : (B i).taken < D0.length
    · have := h.two_more i (by omega) hc
      exact Run.all_taken h m (i + 2) (by omega) (by omega)
    · have := (h.up i 2 (by omega)).1
      exact Run.all_taken h m (i + 2) (by omega) (by omega)

/-- Within three rounds what was taken is acknowledged. -/
theorem Run.acked (h : Run A B D0 D1 T0 T1 nw0 4 bt ep N) : ∀ (c i : Nat), i + (c + 1) ≤ N → (B i).taken = D0.length → (B i).bat ≤ nw0 + 2 * i + 2 * (c + 1 : Nat) → (A (i + (c + 1))).acked = D0.length
  | c, i, hi, ht, hb => by
    have p0 := h.ab i (by omega)
    by_cases hd : (B i).bat ≤ nw0 + 2 * ((i + 1 : Nat) : Int)
    · have h1 := p0.ack hd
      have h2 := (h.up (i + 1) c (by omega)).2
      rw [show i + 1 + c = i + (c + 1) from by omega] at h2
      have h3 := h.two (i + (c + 1)) (by omega)
      have h4 := h3.ab.ackT
      have h5 := h3.ab.takL
      have h6 := h3.ab.last
      omega
    · match c with
      | 0 => omega
      | c + 1 =>
        have h1 := p0.bat hd
        have h2 := p0.up
        have h3 := (h.two (i + 1) (by omega)).ab
        have h4 := h3.takL
        have h5 := h3.last
        have := Run.acked h c (i + 1) (by omega) (by omega) (by omega)
        rw [show i + (c + 1 + 1) = i + 1 + (c + 1) from by omega]
        exact this

/-- At the end of forty rounds all is taken and acknowledged. -/
theorem Run.over (h : Run A B D0 D1 T0 T1 nw0 4 6 ep 40) (hr : (A 0).room ≤ 8) : (B 40).taken = D0.length ∧ (A 40).acked = D0.length := by
  have h0 := (h.two 0 (by omega)).ab
  have hc : (D0.length : Int) ≤ (B 0).taken + 8 := by
    have hlen := count_keys (D0.length - (A 0).acked.toNat) (A 0).O (A 0).acked (fun n n1 n2 => h0.all n n1 (by
      have := h0.last
      have := h0.ack0
      omega))
    have := h0.ackT
    have := h0.ack0
    have hol := (h.two 0 (by omega)).ea.ol
    omega
  have h1 := h.all_taken 8 0 (by omega) (by omega)
  have e1 := (h.two 16 (by omega)).eb
  have hb1 := e1.bat
  have hb2 := e1.n
  have hb3 := e1.b
  have h2 := h.acked 2 16 (by omega) h1 (by push_cast; push_cast at hb2; omega)
  have h3 := h.up 19 21 (by omega)
  have h4 := (h.two 40 (by omega)).ab
  have h5 := h4.ackT
  have h6 := h4.takL
  have h7 := h4.last
  have h8 := h3.2
  have e2 : (A (16 + (2 + 1))).acked = (A 19).acked := rfl
  have e3 : (A (19 + 21)).acked = (A 40).acked := rfl
  omega
end

end Go.Proofs.Yteifehienpeaiaa

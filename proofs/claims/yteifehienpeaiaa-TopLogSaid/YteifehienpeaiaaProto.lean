/-
  Two ends of a channel, by their states alone: what is brought at one is a beginning of what was given at the other.
  No conditions.
-/
import Derived.Test.YteifehienpeaiaaChanInv
set_option linter.unusedVariables false
set_option linter.unusedSimpArgs false
namespace Go.Proofs.Yteifehienpeaiaa
open Go.RowKit

/-- A list that holds every number of a stretch is as long as it. -/
theorem count_keys : ∀ (m : Nat) (O : List Sn) (a : Int), (∀ n : Int, a < n → n ≤ a + m → ∃ x ∈ O, x.key = n) → m ≤ O.length
  | 0, _, _, _ => Nat.zero_le _
  | m + 1, O, a, h => by
    obtain ⟨x, hx, hk⟩ := h (a + ((m + 1 : Nat) : Int)) (by omega) (Int.le_refl _)
    have ih := count_keys m (O.filter (fun y => y.key != a + ((m + 1 : Nat) : Int))) a (fun n h1 h2 => by
      obtain ⟨y, hy, hyk⟩ := h n h1 (by omega)
      refine ⟨y, List.mem_filter.2 ⟨hy, ?_⟩, hyk⟩
      simp only [bne_iff_ne]
      omega)
    have hlt : (O.filter (fun y => y.key != a + ((m + 1 : Nat) : Int))).length < O.length := List.length_filter_lt_length_iff_exists.2 ⟨x, hx, by simp [hk]⟩
    omega
/-- Unlike numbers out of a stretch are no more than it has. -/
theorem count_early : ∀ (m : Nat) (E : List (Int × ByteArray)) (t : Int), DistE E → (∀ q ∈ E, t < q.1 ∧ q.1 ≤ t + m) → E.length ≤ m
  | 0, [], _, _, _ => Nat.le_refl _
  | 0, q :: E, t, _, h => by have := h q List.mem_cons_self; omega
  | m + 1, E, t, hd, h => by
    have ih := count_early m (delE E (t + ((m + 1 : Nat) : Int))) t (hd.del _) (fun q hq => by
      obtain ⟨h1, h2⟩ := List.mem_filter.1 hq
      have := h q h1
      simp only [bne_iff_ne] at h2
      omega)
    cases hl : lookE E (t + ((m + 1 : Nat) : Int)) with
    | none =>
      have : delE E (t + ((m + 1 : Nat) : Int)) = E := by
        apply delE_absent
        intro hm
        obtain ⟨q, hq, he⟩ := List.mem_map.1 hm
        unfold lookE at hl
        rw [Option.map_eq_none_iff, List.find?_eq_none] at hl
        exact hl q hq (by simpa using he)
      rw [this] at ih
      omega
    | some d =>
      have := delE_one hd hl
      omega

theorem delE_mem {E : List (Int × ByteArray)} {n : Int} {q : Int × ByteArray} (h : q ∈ delE E n) : q ∈ E ∧ q.1 ≠ n := by
  obtain ⟨h1, h2⟩ := List.mem_filter.1 h
  exact ⟨h1, by simpa using h2⟩

/-- What lies ahead of its turn is what was given. -/
def Held (D : List ByteArray) (t : Int) (E : List (Int × ByteArray)) : Prop := ∀ q ∈ E, t < q.1 ∧ q.1 ≤ D.length ∧ D[(q.1 - 1).toNat]? = some q.2

theorem drain_data : ∀ (f : Nat) (t : Int) (E : List (Int × ByteArray)) (D : List ByteArray), 0 ≤ t → t ≤ D.length → Held D t E →
    (drainE f t E).1 ≤ D.length ∧ Held D (drainE f t E).1 (drainE f t E).2.1 ∧ D.take t.toNat ++ (drainE f t E).2.2 = D.take (drainE f t E).1.toNat ∧ t ≤ (drainE f t E).1
  | 0, t, E, D, h0, h1, h => ⟨h1, h, List.append_nil _, Int.le_refl _⟩
  | f + 1, t, E, D, h0, h1, h => by
    cases hl : lookE E (t + 1) with
    | none =>
      rw [drainE_none hl]
      exact ⟨h1, h, List.append_nil _, Int.le_refl _⟩
    | some d =>
      rw [drainE_some hl]
      obtain ⟨q1, q2, q3⟩ := h _ (lookE_mem hl)
      simp only at q2 q3
      obtain ⟨e1, e2, e3, e4⟩ := drain_data f (t + 1) (delE E (t + 1)) D (by omega) (by omega) (fun q hq => by
        obtain ⟨h1, h2⟩ := delE_mem hq
        have := h q h1
        exact ⟨by omega, this.2⟩)
      refine ⟨e1, e2, ?_, by omega⟩
      rw [← e3, show (t + 1).toNat = t.toNat + 1 from by omega]
      rw [show (t + 1 - 1).toNat = t.toNat from by omega] at q3
      have hlt : t.toNat < D.length := by omega
      rw [List.take_succ_eq_append_getElem hlt, List.append_assoc]
      congr 1
      rw [List.getElem?_eq_getElem hlt] at q3
      rw [Option.some.inj q3]
      rfl

theorem drain_rng : ∀ (f : Nat) (t : Int) (E : List (Int × ByteArray)) (u : Int), (∀ q ∈ E, t < q.1 ∧ q.1 ≤ u) → ∀ q ∈ (drainE f t E).2.1, (drainE f t E).1 < q.1 ∧ q.1 ≤ u
  | 0, t, E, u, h => h
  | f + 1, t, E, u, h => by
    cases hl : lookE E (t + 1) with
    | none => rw [drainE_none hl]; exact h
    | some d =>
      rw [drainE_some hl]
      exact drain_rng f (t + 1) (delE E (t + 1)) u (fun q hq => by
        obtain ⟨h1, h2⟩ := delE_mem hq
        have := h q h1
        omega)
theorem drain_up (f : Nat) (t : Int) (E : List (Int × ByteArray)) : t ≤ (drainE f t E).1 := by
  induction f generalizing t E with
  | zero => exact Int.le_refl _
  | succ f ih =>
    cases hl : lookE E (t + 1) with
    | none => rw [drainE_none hl]; exact Int.le_refl _
    | some d => rw [drainE_some hl]; have := ih (t + 1) (delE E (t + 1)); simp only; omega

/-- From a to b: D was given at a, T was brought at b. -/
structure Dir (a b : CS) (D T : List ByteArray) : Prop where
  last : a.last = D.length
  ack0 : 0 ≤ a.acked
  ackT : a.acked ≤ b.taken
  takL : b.taken ≤ a.last
  all : ∀ n : Int, a.acked < n → n ≤ a.last → ∃ x ∈ a.O, x.key = n
  low : ∀ x ∈ a.O, a.acked < x.key ∧ x.key ≤ a.last ∧ D[(x.key - 1).toNat]? = some x.data
  held : Held D b.taken b.E
  got : T = D.take b.taken.toNat

/-- What the receiver's side of a direction is. -/
theorem Dir.rcv {a b b' : CS} {D T : List ByteArray} (h : Dir a b D T) (ht : b'.taken = b.taken) (hE : b'.E = b.E) : Dir a b' D T :=
  ⟨h.last, h.ack0, by rw [ht]; exact h.ackT, by rw [ht]; exact h.takL, h.all, h.low, by rw [ht, hE]; exact h.held, by rw [ht]; exact h.got⟩
/-- What the sender's side of a direction is. -/
theorem Dir.snd {a a' b : CS} {D T : List ByteArray} (h : Dir a b D T) (h1 : a'.last = a.last) (h2 : a'.acked = a.acked) (h3 : ∀ y ∈ a'.O, ∃ x ∈ a.O, y.key = x.key ∧ y.data = x.data) (h4 : ∀ x ∈ a.O, ∃ y ∈ a'.O, y.key = x.key) : Dir a' b D T := by
  refine ⟨by rw [h1]; exact h.last, by rw [h2]; exact h.ack0, by rw [h2]; exact h.ackT, by rw [h1]; exact h.takL, ?_, ?_, h.held, h.got⟩
  · intro n n1 n2
    rw [h2] at n1
    rw [h1] at n2
    obtain ⟨x, hx, hk⟩ := h.all n n1 n2
    obtain ⟨y, hy, hyk⟩ := h4 x hx
    exact ⟨y, hy, hyk.trans hk⟩
  · intro y hy
    obtain ⟨x, hx, e1, e2⟩ := h3 y hy
    rw [h1, h2, e1, e2]
    exact h.low x hx

theorem Dir.sent {a b : CS} {D T : List ByteArray} (h : Dir a b D T) (d : ByteArray) (now : Int) (k : Nat) : Dir (a.sent d now k) b (D ++ [d]) T := by
  have hl := h.last
  have h0 := h.ack0
  have h1 := h.ackT
  have h2 := h.takL
  refine ⟨?_, h.ack0, h.ackT, ?_, ?_, ?_, ?_, ?_⟩
  · show a.last + 1 = _
    rw [List.length_append, hl]
    rfl
  · show b.taken ≤ a.last + 1
    omega
  · intro n n1 n2
    show ∃ x ∈ a.O ++ [_], x.key = n
    replace n2 : n ≤ a.last + 1 := n2
    by_cases hn : n ≤ a.last
    · obtain ⟨x, hx, hk⟩ := h.all n n1 hn
      exact ⟨x, List.mem_append_left _ hx, hk⟩
    · exact ⟨_, List.mem_append_right _ (List.mem_singleton.2 rfl), by show a.last + 1 = n; omega⟩
  · intro x hx
    rcases List.mem_append.1 hx with hx | hx
    · obtain ⟨e1, e2, e3⟩ := h.low x hx
      refine ⟨e1, by show x.key ≤ a.last + 1; omega, ?_⟩
      rw [List.getElem?_append_left (by omega)]
      exact e3
    · simp only [List.mem_singleton] at hx
      subst hx
      refine ⟨by show a.acked < a.last + 1; omega, Int.le_refl _, ?_⟩
      show (D ++ [d])[(a.last + 1 - 1).toNat]? = some d
      rw [List.getElem?_append_right (by omega), show (a.last + 1 - 1).toNat - D.length = 0 from by omega]
      rfl
  · intro q hq
    obtain ⟨e1, e2, e3⟩ := h.held q hq
    have hql := e1
    refine ⟨e1, by rw [List.length_append]; push_cast; omega, ?_⟩
    rw [List.getElem?_append_left (by omega)]
    exact e3
  · rw [List.take_append_of_le_length (by omega)]
    exact h.got

theorem Dir.ticks {a b : CS} {D T : List ByteArray} (h : Dir a b D T) (now : Int) : Dir (a.ticks now) b D T := by
  refine h.snd rfl rfl (fun y hy => ?_) (fun x hx => ?_)
  · obtain ⟨x, hx, rfl⟩ := List.mem_map.1 hy
    exact ⟨x, hx, (upd_key _ x).1, (upd_key _ x).2.2⟩
  · exact ⟨_, List.mem_map_of_mem hx, (upd_key _ x).1⟩

/-- The sender takes an acknowledgement. -/
theorem Dir.acks {a b : CS} {D T : List ByteArray} (h : Dir a b D T) (n : Int) (hn : n ≤ b.taken) : Dir (a.acks n) b D T := by
  unfold CS.acks
  split
  · exact h
  · rename_i hc
    have h0 := h.ack0
    refine ⟨h.last, by show 0 ≤ n; omega, hn, h.takL, ?_, ?_, h.held, h.got⟩
    · intro m m1 m2
      replace m1 : n < m := m1
      obtain ⟨x, hx, hk⟩ := h.all m (by omega) m2
      exact ⟨x, List.mem_filter.2 ⟨hx, by simp; omega⟩, hk⟩
    · intro x hx
      obtain ⟨h1, h2⟩ := List.mem_filter.1 hx
      exact ⟨by simpa using h2, (h.low x h1).2⟩
theorem acks_acked {s : CS} {n : Int} (h : n ≤ s.last) : n ≤ (s.acks n).acked ∧ s.acked ≤ (s.acks n).acked := by
  unfold CS.acks
  split
  · exact ⟨by omega, Int.le_refl _⟩
  · exact ⟨Int.le_refl _, by show s.acked ≤ n; omega⟩
theorem acks_more (s : CS) (n : Int) : s.acked ≤ (s.acks n).acked := by
  unfold CS.acks
  split
  · exact Int.le_refl _
  · show s.acked ≤ n; omega

/-- The receiver takes a letter with data. -/
theorem Dir.keeps_nexts {a b : CS} {D T : List ByteArray} (h : Dir a b D T) (n : Int) (d : ByteArray) (hd : 1 ≤ n ∧ n ≤ D.length ∧ D[(n - 1).toNat]? = some d) (h0 : 0 ≤ b.taken) : Dir a (b.keeps n d).nexts D (T ++ (b.keeps n d).news) := by
  have hk : ∃ E, b.keeps n d = { b with E := E } ∧ Held D b.taken E := by
    unfold CS.keeps
    split
    · exact ⟨b.E, rfl, h.held⟩
    · rename_i hc
      refine ⟨_, rfl, fun q hq => ?_⟩
      rcases List.mem_append.1 hq with hq | hq
      · exact h.held q hq
      · simp only [List.mem_singleton] at hq
        subst hq
        exact ⟨by show b.taken < n; have : ¬ n ≤ b.taken := fun e => hc (.inr (.inl e)); omega, hd.2⟩
  obtain ⟨E, hk, hH⟩ := hk
  rw [hk]
  have hl := h.last
  have h2 := h.takL
  obtain ⟨e1, e2, e3, e4⟩ := drain_data E.length b.taken E D h0 (by omega) hH
  refine ⟨h.last, h.ack0, ?_, ?_, h.all, h.low, e2, ?_⟩
  · show a.acked ≤ (drainE E.length b.taken E).1
    have := h.ackT
    omega
  · show (drainE E.length b.taken E).1 ≤ a.last
    omega
  · show T ++ (drainE E.length b.taken E).2.2 = D.take (drainE E.length b.taken E).1.toNat
    rw [h.got]
    exact e3

/-- The letter after the last that was taken is taken. -/
theorem next_taken {b : CS} {n : Int} {d : ByteArray} (hr : 1 ≤ b.room) (hn : n ≤ b.taken + 1) (hnx : lookE b.E (b.taken + 1) = none) : n ≤ (b.keeps n d).nexts.taken := by
  by_cases h1 : n ≤ b.taken
  · have hk : ∃ E, b.keeps n d = { b with E := E } := by
      unfold CS.keeps
      split
      · exact ⟨b.E, rfl⟩
      · exact ⟨_, rfl⟩
    obtain ⟨E, hk⟩ := hk
    rw [hk]
    show n ≤ (drainE E.length b.taken E).1
    have := drain_up E.length b.taken E
    omega
  · have hn1 : n = b.taken + 1 := by omega
    subst hn1
    have hk : b.keeps (b.taken + 1) d = { b with E := b.E ++ [(b.taken + 1, d)] } := by
      unfold CS.keeps
      rw [hnx]
      exact if_neg (by rintro (h | h | h); cases h; omega; omega)
    rw [hk]
    show b.taken + 1 ≤ (drainE (b.E ++ [(b.taken + 1, d)]).length b.taken (b.E ++ [(b.taken + 1, d)])).1
    have hl : lookE (b.E ++ [(b.taken + 1, d)]) (b.taken + 1) = some d := by
      unfold lookE at hnx ⊢
      rw [Option.map_eq_none_iff] at hnx
      rw [List.find?_append, hnx]
      simp
    rw [List.length_append, show b.E.length + [(b.taken + 1, d)].length = b.E.length + 1 from rfl, drainE_some hl]
    exact drain_up _ _ _
theorem keeps_up (b : CS) (n : Int) (d : ByteArray) : b.taken ≤ (b.keeps n d).nexts.taken := by
  have hk : ∃ E, b.keeps n d = { b with E := E } := by
    unfold CS.keeps
    split
    · exact ⟨b.E, rfl⟩
    · exact ⟨_, rfl⟩
  obtain ⟨E, hk⟩ := hk
  rw [hk]
  exact drain_up E.length b.taken E

end Go.Proofs.Yteifehienpeaiaa

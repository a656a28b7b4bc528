/-
  What stays true of an end's state: keys rise and are not acknowledged, what came early comes once.
  No conditions.
-/
import Derived.Test.YteifehienpeaiaaEarlyList
import Derived.Test.YteifehienpeaiaaTakeAll
import Derived.Test.YteifehienpeaiaaChanEpochs
set_option linter.unusedVariables false
set_option linter.unusedSimpArgs false
namespace Go.Proofs.Yteifehienpeaiaa
open Go.RowKit

theorem delE_one {E : List (Int × ByteArray)} {n : Int} {d : ByteArray} (h : DistE E) (hl : lookE E n = some d) : (delE E n).length + 1 = E.length := by
  obtain ⟨i, h2, _, h4⟩ := early_cut E n d h hl
  rw [h4, List.length_append, List.length_take, List.length_drop]
  omega

theorem drain_inv : ∀ (f : Nat) (t : Int) (E : List (Int × ByteArray)), E.length ≤ f → DistE E →
    lookE (drainE f t E).2.1 ((drainE f t E).1 + 1) = none ∧ (drainE f t E).1 + (drainE f t E).2.1.length = t + E.length ∧ DistE (drainE f t E).2.1 ∧ t ≤ (drainE f t E).1
  | 0, t, E, h, hd => by
    have : E = [] := List.eq_nil_of_length_eq_zero (by omega)
    subst this
    exact ⟨rfl, rfl, hd, Int.le_refl _⟩
  | f + 1, t, E, h, hd => by
    cases hl : lookE E (t + 1) with
    | none =>
      rw [drainE_none hl]
      exact ⟨hl, rfl, hd, Int.le_refl _⟩
    | some d =>
      rw [drainE_some hl]
      have h1 := delE_one hd hl
      obtain ⟨e1, e2, e3, e4⟩ := drain_inv f (t + 1) (delE E (t + 1)) (by omega) (hd.del _)
      exact ⟨e1, by rw [e2]; omega, e3, by omega⟩

/-- The state of an end behind a acts. -/
structure PInv (s : CS) (a : Nat) : Prop where
  ok : COk s
  up : (s.O.map (·.key)).Pairwise (· < ·)
  low : ∀ x ∈ s.O, s.acked < x.key ∧ x.key ≤ s.last
  a0 : 0 ≤ s.acked
  la : s.acked ≤ s.last
  l1 : s.last ≤ a
  dist : DistE s.E
  nx : lookE s.E (s.taken + 1) = none
  te : s.taken + s.E.length ≤ a

theorem PInv.mono {s : CS} {a b : Nat} (h : PInv s a) (hb : a ≤ b) : PInv s b :=
  ⟨h.ok, h.up, h.low, h.a0, h.la, by have := h.l1; omega, h.dist, h.nx, by have := h.te; omega⟩
theorem PInv.ticked {s : CS} {a : Nat} (h : PInv s a) (now : Int) : PInv (s.ticked now) a :=
  ⟨h.ok.ticked now, h.up, h.low, h.a0, h.la, h.l1, h.dist, h.nx, h.te⟩
theorem PInv.role {s : CS} {a : Nat} (h : PInv s a) {r : Int} (h0 : 0 ≤ r) (h1 : r ≤ 5) : PInv { s with role := r } a :=
  ⟨h.ok.role h0 h1, h.up, h.low, h.a0, h.la, h.l1, h.dist, h.nx, h.te⟩
theorem PInv.new {room wait beat epoch role mark now : Int} (h : NewOk room wait beat epoch role mark now) : PInv ⟨room, wait, beat, epoch, role, mark, now, now, 0, 0, 0, now, 0, 0, [], []⟩ 0 := by
  obtain ⟨⟨⟨r1, r2⟩, ⟨w1, w2⟩, ⟨b1, b2⟩⟩, he, hm, ho, n1, n2⟩ := h
  unfold wordB at he hm
  unfold roleB at ho
  simp only [Bool.and_eq_true, decide_eq_true_eq] at he hm ho
  exact ⟨⟨r1, r2, w1, w2, b1, b2, he.1, he.2, ho.1, ho.2, hm.1, hm.2, n1, n2, n1, by show now ≤ _; omega, by show (0 : Int) ≤ 0; decide, by show (0 : Int) ≤ 4294967295; decide, fun x hx => (by cases hx), fun x hx => (by cases hx), by show 0 ≤ 64; decide⟩, List.Pairwise.nil, fun x hx => (by cases hx), by show (0 : Int) ≤ 0; decide, by show (0 : Int) ≤ 0; decide, by show (0 : Int) ≤ 0; decide, List.nodup_nil, rfl, by show (0 : Int) + 0 ≤ 0; decide⟩

theorem PInv.sent {s : CS} {a : Nat} (h : PInv s a) (ha : a < 1000) (d : ByteArray) (hd : d.size ≤ 4096) (hf : s.O.length < s.room) (now : Int) (b : Nat) : PInv (s.sent d now b) (a + 1) := by
  have ho := h.ok.ticked now
  have hla := h.la
  have h0 := h.a0
  have hl1 := h.l1
  obtain ⟨r1, r2, w1, w2, b1, b2, e0, e1, o0, o1, m0, m1, n0, n1, bt0, bt1, t0, t1, at0, key, len⟩ := ho
  refine ⟨⟨r1, r2, w1, w2, b1, b2, e0, e1, o0, o1, m0, m1, n0, n1, bt0, bt1, t0, t1, ?_, ?_, ?_⟩, ?_, ?_, h0, by show s.acked ≤ s.last + 1; omega, by show s.last + 1 ≤ _; omega, h.dist, h.nx, by show s.taken + s.E.length ≤ _; have := h.te; omega⟩
  · intro x hx
    rcases List.mem_append.1 hx with h1 | h1
    · exact at0 x h1
    · simp only [List.mem_singleton] at h1
      subst h1
      exact ⟨n0, n1⟩
  · intro x hx
    rcases List.mem_append.1 hx with h1 | h1
    · exact key x h1
    · simp only [List.mem_singleton] at h1
      subst h1
      exact ⟨by show 1 ≤ s.last + 1; omega, by show s.last + 1 ≤ _; omega, hd⟩
  · show (s.O ++ [_]).length ≤ 64
    rw [List.length_append]
    simp only [List.length_cons, List.length_nil]
    replace r2 : s.room ≤ 64 := r2
    omega
  · show ((s.O ++ [(⟨s.last + 1, b, (s.ticked now).now, d⟩ : Sn)]).map (·.key)).Pairwise _
    rw [List.map_append, List.pairwise_append]
    refine ⟨h.up, by simp, ?_⟩
    intro a ha b hb
    obtain ⟨x, hx, rfl⟩ := List.mem_map.1 ha
    simp only [List.map_cons, List.map_nil, List.mem_singleton] at hb
    subst hb
    have := (h.low x hx).2
    omega
  · intro x hx
    rcases List.mem_append.1 hx with h1 | h1
    · have := h.low x h1
      show s.acked < x.key ∧ x.key ≤ s.last + 1
      omega
    · simp only [List.mem_singleton] at h1
      subst h1
      show s.acked < s.last + 1 ∧ s.last + 1 ≤ s.last + 1
      omega

theorem PInv.ticks {s : CS} {a : Nat} (h : PInv s a) (now : Int) : PInv (s.ticks now) a := by
  have ho := h.ok.ticked now
  obtain ⟨r1, r2, w1, w2, b1, b2, e0, e1, o0, o1, m0, m1, n0, n1, bt0, bt1, t0, t1, at0, key, len⟩ := ho
  have hm : ∀ y ∈ s.O.map (s.ticked now).upd, ∃ x ∈ s.O, y.key = x.key ∧ y.data = x.data ∧ (y.at_ = x.at_ ∨ y.at_ = (s.ticked now).now) := by
    intro y hy
    obtain ⟨x, hx, rfl⟩ := List.mem_map.1 hy
    refine ⟨x, hx, (upd_key _ x).1, (upd_key _ x).2.2, ?_⟩
    unfold CS.upd
    split
    · exact .inr rfl
    · exact .inl rfl
  refine ⟨⟨r1, r2, w1, w2, b1, b2, e0, e1, o0, o1, m0, m1, n0, n1, ?_, ?_, t0, t1, ?_, ?_, ?_⟩, ?_, ?_, h.a0, h.la, h.l1, h.dist, h.nx, h.te⟩
  · show 0 ≤ (if s.bat ≤ (s.ticked now).now then (s.ticked now).now + s.beat else s.bat)
    replace b1 : 1 ≤ s.beat := b1
    replace bt0 : 0 ≤ s.bat := bt0
    split <;> omega
  · show (if s.bat ≤ (s.ticked now).now then (s.ticked now).now + s.beat else s.bat) ≤ _
    replace b2 : s.beat ≤ _ := b2
    replace bt1 : s.bat ≤ _ := bt1
    split <;> omega
  · intro y hy
    obtain ⟨x, hx, _, _, e⟩ := hm y hy
    have := at0 x hx
    rcases e with e | e
    · rw [e]; exact this
    · rw [e]; exact ⟨n0, n1⟩
  · intro y hy
    obtain ⟨x, hx, e1, e2, _⟩ := hm y hy
    rw [e1, e2]
    exact key x hx
  · show (s.O.map _).length ≤ 64
    rw [List.length_map]
    exact len
  · show ((s.O.map (s.ticked now).upd).map (·.key)).Pairwise _
    rw [List.map_map, show ((·.key) ∘ (s.ticked now).upd : Sn → Int) = (·.key) from funext fun x => (upd_key _ x).1]
    exact h.up
  · intro y hy
    obtain ⟨x, hx, e1, _⟩ := hm y hy
    rw [e1]
    exact h.low x hx

theorem PInv.acks {s : CS} {a : Nat} (h : PInv s a) (n : Int) : PInv (s.acks n) a := by
  unfold CS.acks
  split
  · exact h
  · rename_i hn
    obtain ⟨r1, r2, w1, w2, b1, b2, e0, e1, o0, o1, m0, m1, n0, n1, bt0, bt1, t0, t1, at0, key, len⟩ := h.ok
    have h0 := h.a0
    exact ⟨⟨r1, r2, w1, w2, b1, b2, e0, e1, o0, o1, m0, m1, n0, n1, bt0, bt1, t0, t1, fun x hx => at0 x (List.mem_filter.1 hx).1, fun x hx => key x (List.mem_filter.1 hx).1, Nat.le_trans (List.length_filter_le _ _) len⟩,
      h.up.sublist ((List.filter_sublist).map _), fun x hx => ⟨by simpa using (List.mem_filter.1 hx).2, (h.low x (List.mem_filter.1 hx).1).2⟩, by show 0 ≤ n; omega, by show n ≤ s.last; omega, h.l1, h.dist, h.nx, h.te⟩

theorem PInv.hears {s : CS} {a : Nat} (h : PInv s a) (r n now : Int) : PInv (s.hears r n now) a := by
  have h1 := h.ticked now
  unfold CS.hears
  refine PInv.acks ?_ n
  obtain ⟨⟨r1, r2, w1, w2, b1, b2, e0, e1, o0, o1, m0, m1, n0, n1, bt0, bt1, t0, t1, at0, key, len⟩, u1, u2, u3, u4, u5, u6, u7, u8⟩ := h1
  exact ⟨⟨r1, r2, w1, w2, b1, b2, e0, e1, o0, o1, m0, m1, n0, n1, bt0, bt1, t0, t1, at0, key, len⟩, u1, u2, u3, u4, u5, u6, u7, u8⟩

theorem PInv.keeps_nexts {s : CS} {a : Nat} (h : PInv s a) (ha : a < 1000) (n : Int) (d : ByteArray) : PInv (s.keeps n d).nexts (a + 1) := by
  have hk : ∃ E, s.keeps n d = { s with E := E } ∧ DistE E ∧ s.taken + E.length ≤ (a : Int) + 1 := by
    unfold CS.keeps
    split
    · exact ⟨s.E, rfl, h.dist, by have := h.te; omega⟩
    · rename_i hn
      refine ⟨_, rfl, h.dist.add d (by cases hl : lookE s.E n with | none => rfl | some x => exact absurd (.inl (by rw [hl]; rfl)) hn), ?_⟩
      rw [List.length_append]
      have := h.te
      simp only [List.length_cons, List.length_nil]
      omega
  obtain ⟨E, hk, hd, hl⟩ := hk
  rw [hk]
  obtain ⟨e1, e2, e3, e4⟩ := drain_inv E.length s.taken E (Nat.le_refl _) hd
  obtain ⟨r1, r2, w1, w2, b1, b2, e0, e1', o0, o1, m0, m1, n0, n1, bt0, bt1, t0, t1, at0, key, len⟩ := h.ok
  exact ⟨⟨r1, r2, w1, w2, b1, b2, e0, e1', o0, o1, m0, m1, n0, n1, bt0, bt1, by show 0 ≤ (drainE E.length s.taken E).1; omega, by show (drainE E.length s.taken E).1 ≤ _; omega, at0, key, len⟩, h.up, h.low, h.a0, h.la, by show s.last ≤ _; have := h.l1; omega, e3, e1, by show (drainE E.length s.taken E).1 + ((drainE E.length s.taken E).2.1.length : Int) ≤ _; rw [e2]; push_cast; omega⟩

theorem PInv.takes {s : CS} {a : Nat} (h : PInv s a) (ha : a < 1000) (k r n ak : Int) (d : ByteArray) (now : Int) : PInv (s.takes k r n ak d now) (a + 1) := by
  have h1 := h.hears r ak now
  unfold CS.takes
  generalize s.hears r ak now = s1 at h1
  obtain ⟨⟨r1, r2, w1, w2, b1, b2, e0, e1, o0, o1, m0, m1, n0, n1, bt0, bt1, t0, t1, at0, key, len⟩, u1, u2, u3, u4, u5, u6, u7, u8⟩ := id h1
  split
  · have h2 : PInv { s1 with hmark := n } a := ⟨⟨r1, r2, w1, w2, b1, b2, e0, e1, o0, o1, m0, m1, n0, n1, bt0, bt1, t0, t1, at0, key, len⟩, u1, u2, u3, u4, u5, u6, u7, u8⟩
    exact h2.mono (Nat.le_succ a)
  · refine PInv.keeps_nexts ?_ ha n d
    exact ⟨⟨r1, r2, w1, w2, b1, b2, e0, e1, o0, o1, m0, m1, n0, n1, n0, by show s1.now ≤ _; omega, t0, t1, at0, key, len⟩, u1, u2, u3, u4, u5, u6, u7, u8⟩

theorem drain_len : ∀ (f : Nat) (t : Int) (E : List (Int × ByteArray)), (drainE f t E).2.2.length ≤ f
  | 0, t, E => Nat.le_refl _
  | f + 1, t, E => by
    cases hl : lookE E (t + 1) with
    | none => rw [drainE_none hl]; exact Nat.zero_le _
    | some d =>
      rw [drainE_some hl]
      have := drain_len f (t + 1) (delE E (t + 1))
      simp only [List.length_cons]
      omega
theorem brings_le {s : CS} {a : Nat} (h : PInv s a) (ha : a < 900) (k r n ak : Int) (d : ByteArray) (now : Int) : (s.brings k r n ak d now).length ≤ 1000 := by
  unfold CS.brings
  split
  · exact Nat.zero_le _
  · unfold CS.news CS.drained
    refine Nat.le_trans (drain_len _ _ _) ?_
    have h1 : (({ s.hears r ak now with bat := (s.hears r ak now).now } : CS).keeps n d).E.length ≤ s.E.length + 1 := by
      have he : ({ s.hears r ak now with bat := (s.hears r ak now).now } : CS).E = s.E := (hears_frame s r ak now).1
      generalize ({ s.hears r ak now with bat := (s.hears r ak now).now } : CS) = s1 at he
      unfold CS.keeps
      split
      · rw [he]; omega
      · show (s1.E ++ [(n, d)]).length ≤ _
        rw [List.length_append, he]
        exact Nat.le_refl _
    have h2 := h.te
    have h3 := h.ok.t0
    omega

end Go.Proofs.Yteifehienpeaiaa

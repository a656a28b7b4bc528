/-
  Two ends of a channel, by their states alone: what each call leaves.
  No conditions.
-/
import Derived.Test.YteifehienpeaiaaProto
set_option linter.unusedVariables false
set_option linter.unusedSimpArgs false
namespace Go.Proofs.Yteifehienpeaiaa
open Go.RowKit

def decB (S : ByteArray) : Bool := decide (20 ≤ S.size) && decide ((S.size : Int) - 20 = numAt S 14 2) && letterB (numAt S 0 1) (numAt S 1 4) (numAt S 5 1) (numAt S 6 4) (numAt S 10 4) (S.extract 16 (S.size - 4)) && decide (letBytes (numAt S 0 1) (numAt S 1 4) (numAt S 5 1) (numAt S 6 4) (numAt S 10 4) (S.extract 16 (S.size - 4)) = S)
theorem decB_iff (S : ByteArray) : decB S = true ↔ DecOk S := by
  unfold decB
  simp only [Bool.and_eq_true, decide_eq_true_eq]
  constructor
  · rintro ⟨⟨⟨h1, h2⟩, h3⟩, h4⟩
    exact ⟨h1, h2, h3, h4⟩
  · rintro ⟨h1, h2, h3, h4⟩
    exact ⟨⟨⟨h1, h2⟩, h3⟩, h4⟩

/-- Take: the state behind it, and what is brought. -/
def took (s : CS) (S : ByteArray) (now : Int) : CS × List ByteArray :=
  if decB S = true ∧ numAt S 1 4 = s.epoch then (s.takes (numAt S 0 1) (numAt S 5 1) (numAt S 6 4) (numAt S 10 4) (S.extract 16 (S.size - 4)) now, s.brings (numAt S 0 1) (numAt S 5 1) (numAt S 6 4) (numAt S 10 4) (S.extract 16 (S.size - 4)) now) else (s, [])
theorem took_let {s : CS} {k r n ak : Int} {d : ByteArray} (h : letterB k s.epoch r n ak d = true) (now : Int) : took s (letBytes k s.epoch r n ak d) now = (s.takes k r n ak d now, s.brings k r n ak d now) := by
  obtain ⟨e1, e2, e3, e4, e5, e6, e7⟩ := let_back h
  unfold took
  rw [if_pos ⟨(decB_iff _).2 (let_ok h), e2⟩, e1, e3, e4, e5, e7]
theorem took_bad {s : CS} {S : ByteArray} (h : ¬ DecOk S) (now : Int) : took s S now = (s, []) := by
  unfold took
  rw [if_neg (fun e => h ((decB_iff _).1 e.1))]

/-- A letter of one epoch, with data out of what was given, that acknowledges no more than was taken. -/
def LetIn (D : List ByteArray) (t ep : Int) (S : ByteArray) : Prop := ∃ k r n ak d, S = letBytes k ep r n ak d ∧ letterB k ep r n ak d = true ∧ ak ≤ t ∧ (k = 1 → n ≤ D.length ∧ D[(n - 1).toNat]? = some d)
theorem LetIn.mono {D D' : List ByteArray} {t t' ep : Int} {S : ByteArray} (h : LetIn D t ep S) (hD : ∃ X, D' = D ++ X) (ht : t ≤ t') : LetIn D' t' ep S := by
  obtain ⟨k, r, n, ak, d, e, hl, ha, hk⟩ := h
  obtain ⟨X, rfl⟩ := hD
  refine ⟨k, r, n, ak, d, e, hl, by omega, fun h1 => ?_⟩
  obtain ⟨h2, h3⟩ := hk h1
  refine ⟨by rw [List.length_append]; push_cast; omega, ?_⟩
  rw [List.getElem?_append_left (by
    apply Classical.byContradiction
    intro hn
    rw [List.getElem?_eq_none (by omega)] at h3
    cases h3)]
  exact h3
theorem LetIn.size {D : List ByteArray} {t ep : Int} {S : ByteArray} (h : LetIn D t ep S) : S.size ≤ 5000 ∧ 20 ≤ S.size ∧ DecOk S := by
  obtain ⟨k, r, n, ak, d, rfl, hl, _⟩ := h
  have hd : d.size ≤ 4096 := (letterB_bounds hl).2.2.2.2.2
  exact ⟨by rw [let_size]; omega, by rw [let_size]; omega, let_ok hl⟩

/-- What stays true of an end: nw is not ahead of the tick that it is told next. -/
structure EInv (s : CS) (nw wt bt ep : Int) : Prop where
  p : PInv s 300
  rng : ∀ q ∈ s.E, s.taken < q.1 ∧ q.1 ≤ s.taken + s.room
  e : s.epoch = ep
  w : s.wait = wt
  b : s.beat = bt
  n : s.now ≤ nw
  ats : ∀ x ∈ s.O, x.at_ ≤ s.now
  bat : s.bat ≤ s.now + s.beat
  ol : (s.O.length : Int) ≤ s.room

theorem EInv.el {s : CS} {nw wt bt ep : Int} (h : EInv s nw wt bt ep) : s.E.length ≤ 64 := by
  have h1 := count_early s.room.toNat s.E s.taken h.p.dist (fun q hq => by
    have := h.rng q hq
    have := h.p.ok.r1
    omega)
  have := h.p.ok.r2
  omega
theorem PInv.norm {s : CS} {a : Nat} (h : PInv s a) (hl : s.last ≤ 300) (ht : s.taken + s.E.length ≤ 300) : PInv s 300 := ⟨h.ok, h.up, h.low, h.a0, h.la, hl, h.dist, h.nx, ht⟩

/-- Both ends: D0 was given at a, D1 at b; T0 was brought at a, T1 at b. -/
structure Two (a b : CS) (D0 D1 T0 T1 : List ByteArray) (nw wt bt ep : Int) : Prop where
  ea : EInv a nw wt bt ep
  eb : EInv b nw wt bt ep
  ab : Dir a b D0 T1
  ba : Dir b a D1 T0
  d0 : D0.length ≤ 200
  d1 : D1.length ≤ 200
  n0 : 0 ≤ nw
  n1 : nw ≤ 1099511627776

theorem Two.swap {a b : CS} {D0 D1 T0 T1 : List ByteArray} {nw wt bt ep : Int} (h : Two a b D0 D1 T0 T1 nw wt bt ep) : Two b a D1 D0 T1 T0 nw wt bt ep := ⟨h.eb, h.ea, h.ba, h.ab, h.d1, h.d0, h.n0, h.n1⟩
theorem EInv.time {s : CS} {nw nw' wt bt ep : Int} (h : EInv s nw wt bt ep) (hn : nw ≤ nw') : EInv s nw' wt bt ep := ⟨h.p, h.rng, h.e, h.w, h.b, by have := h.n; omega, h.ats, h.bat, h.ol⟩
theorem Two.time {a b : CS} {D0 D1 T0 T1 : List ByteArray} {nw nw' wt bt ep : Int} (h : Two a b D0 D1 T0 T1 nw wt bt ep) (hn : nw ≤ nw') (h1 : nw' ≤ 1099511627776) : Two a b D0 D1 T0 T1 nw' wt bt ep :=
  ⟨h.ea.time hn, h.eb.time hn, h.ab, h.ba, h.d0, h.d1, by have := h.n0; omega, h1⟩

theorem ticked_now {s : CS} {nw : Int} (h : s.now ≤ nw) (h1 : nw ≤ 1099511627776) : (s.ticked nw).now = nw := by
  show mx s.now (mn nw 1099511627776) = nw
  unfold mx mn
  omega

section
variable {a b : CS} {D0 D1 T0 T1 : List ByteArray} {nw wt bt ep : Int}

theorem Two.sent (h : Two a b D0 D1 T0 T1 nw wt bt ep) (d : ByteArray) (hd : d.size ≤ 4096) (hf : a.O.length < a.room) (hl : D0.length < 200) (k : Nat) :
    Two (a.sent d nw k) b (D0 ++ [d]) D1 T0 T1 nw wt bt ep ∧ LetIn (D0 ++ [d]) a.taken ep ((a.ticked nw).letter 1 (a.last + 1) d) := by
  have hp := h.ea.p.sent (by decide) d hd hf nw k
  have hnw := ticked_now h.ea.n h.n1
  have hlast := h.ab.last
  refine ⟨⟨⟨hp.norm (by show a.last + 1 ≤ 300; omega) h.ea.p.te, h.ea.rng, h.ea.e, h.ea.w, h.ea.b, by show (a.ticked nw).now ≤ nw; omega, ?_, ?_, by show ((a.O ++ [_]).length : Int) ≤ a.room; rw [List.length_append]; simp only [List.length_cons, List.length_nil]; omega⟩, h.eb, h.ab.sent d nw k, h.ba.rcv rfl rfl, by rw [List.length_append]; show D0.length + 1 ≤ _; omega, h.d1, h.n0, h.n1⟩, ?_⟩
  · intro x hx
    show x.at_ ≤ (a.ticked nw).now
    rcases List.mem_append.1 hx with hx | hx
    · have := h.ea.ats x hx
      have := h.ea.n
      omega
    · simp only [List.mem_singleton] at hx
      subst hx
      exact Int.le_refl _
  · show a.bat ≤ (a.ticked nw).now + a.beat
    have := h.ea.bat
    have := h.ea.n
    omega
  · have ho := (h.ea.p.ok.ticked nw)
    have hL : letterB 1 (a.ticked nw).epoch (a.ticked nw).role (a.last + 1) (a.ticked nw).taken d = true := by
      have := ho.e0; have := ho.e1; have := ho.o0; have := ho.o1; have := ho.t0; have := ho.t1
      unfold letterB wordB roleB
      simp only [Bool.and_eq_true, Bool.or_eq_true, decide_eq_true_eq, beq_iff_eq]
      refine ⟨⟨⟨⟨⟨?_, ?_⟩, ?_⟩, ?_⟩, ?_⟩, .inl ⟨trivial, ?_⟩⟩ <;> omega
    have he : (a.ticked nw).epoch = ep := h.ea.e
    rw [he] at hL
    refine ⟨1, _, _, _, d, by unfold CS.letter; rw [he], hL, Int.le_refl _, fun _ => ⟨by rw [List.length_append]; show a.last + 1 ≤ ((D0.length + 1 : Nat) : Int); omega, ?_⟩⟩
    rw [List.getElem?_append_right (by omega), show (a.last + 1 - 1).toNat - D0.length = 0 from by omega]
    rfl

theorem Two.tick (h : Two a b D0 D1 T0 T1 nw wt bt ep) : Two (a.ticks nw) b D0 D1 T0 T1 nw wt bt ep ∧ ∀ S ∈ a.outs nw, LetIn D0 a.taken ep S := by
  have hp := h.ea.p.ticks nw
  have hnw := ticked_now h.ea.n h.n1
  refine ⟨⟨⟨hp, h.ea.rng, h.ea.e, h.ea.w, h.ea.b, by show (a.ticked nw).now ≤ nw; omega, ?_, ?_, by show ((a.O.map _).length : Int) ≤ a.room; rw [List.length_map]; exact h.ea.ol⟩, h.eb, h.ab.ticks nw, h.ba.rcv rfl rfl, h.d0, h.d1, h.n0, h.n1⟩, ?_⟩
  · intro y hy
    obtain ⟨x, hx, rfl⟩ := List.mem_map.1 hy
    show ((a.ticked nw).upd x).at_ ≤ (a.ticked nw).now
    unfold CS.upd
    split
    · exact Int.le_refl _
    · have := h.ea.ats x hx
      have := h.ea.n
      omega
  · show (if a.bat ≤ (a.ticked nw).now then (a.ticked nw).now + a.beat else a.bat) ≤ (a.ticked nw).now + a.beat
    have := h.ea.bat
    have := h.ea.n
    split <;> omega
  · intro S hS
    have ho := h.ea.p.ok.ticked nw
    have he : (a.ticked nw).epoch = ep := h.ea.e
    have := ho.e0; have := ho.e1; have := ho.o0; have := ho.o1; have := ho.t0; have := ho.t1; have := ho.m0; have := ho.m1
    rcases List.mem_append.1 hS with hS | hS
    · obtain ⟨x, hx, rfl⟩ := List.mem_map.1 hS
      have hx := (List.mem_filter.1 hx).1
      obtain ⟨l1, l2, l3⟩ := h.ab.low x hx
      have hk := h.ea.p.ok.key x hx
      have hL : letterB 1 (a.ticked nw).epoch (a.ticked nw).role x.key (a.ticked nw).taken x.data = true := by
        unfold letterB wordB roleB
        simp only [Bool.and_eq_true, Bool.or_eq_true, decide_eq_true_eq, beq_iff_eq]
        refine ⟨⟨⟨⟨⟨?_, ?_⟩, ?_⟩, ?_⟩, ?_⟩, .inl ⟨trivial, ?_⟩⟩ <;> omega
      rw [he] at hL
      exact ⟨1, _, _, _, _, by unfold CS.letter; rw [he], hL, Int.le_refl _, fun _ => ⟨by rw [← h.ab.last]; exact l2, l3⟩⟩
    · split at hS
      · simp only [List.mem_singleton] at hS
        subst hS
        have hL : letterB 2 (a.ticked nw).epoch (a.ticked nw).role a.mark (a.ticked nw).taken ⟨#[]⟩ = true := by
          replace this : a.mark ≤ 4294967295 := this
          have hm : 0 ≤ a.mark := ho.m0
          unfold letterB wordB roleB
          simp only [Bool.and_eq_true, Bool.or_eq_true, decide_eq_true_eq, beq_iff_eq]
          refine ⟨⟨⟨⟨⟨?_, ?_⟩, ?_⟩, ?_⟩, ?_⟩, .inr ⟨trivial, ?_⟩⟩ <;> first | omega | rfl | decide
        rw [he] at hL
        exact ⟨2, _, _, _, _, by unfold CS.letter; rw [he], hL, Int.le_refl _, fun e => by cases e⟩
      · cases hS

/-- What a letter does to the end that takes it. -/
structure Took (b b' : CS) (S : ByteArray) (nw ep : Int) : Prop where
  up : b.taken ≤ b'.taken
  last : b'.last = b.last
  acku : b.acked ≤ b'.acked
  stay : ∀ x ∈ b.O, x ∈ b'.O ∨ x.key ≤ b'.acked
  bat : b'.bat = b.bat ∨ b'.bat = nw
  room : b'.room = b.room
  next : ∀ r n ak d, S = letBytes 1 ep r n ak d → letterB 1 ep r n ak d = true → n ≤ b.taken + 1 → n ≤ b'.taken
  ack : ∀ k r n ak d, S = letBytes k ep r n ak d → letterB k ep r n ak d = true → ak ≤ b.last → ak ≤ b'.acked

theorem hears_stay (b : CS) (r ak nw : Int) : ∀ x ∈ b.O, x ∈ (b.hears r ak nw).O ∨ x.key ≤ (b.hears r ak nw).acked := by
  intro x hx
  unfold CS.hears CS.acks
  split
  · exact .inl hx
  · by_cases hk : x.key ≤ ak
    · exact .inr hk
    · exact .inl (List.mem_filter.2 ⟨hx, by simp; omega⟩)
theorem hears_more (b : CS) (r ak nw : Int) : (b.hears r ak nw).last = b.last ∧ b.acked ≤ (b.hears r ak nw).acked ∧ (b.hears r ak nw).bat = b.bat ∧ (ak ≤ b.last → ak ≤ (b.hears r ak nw).acked) ∧ (b.hears r ak nw).epoch = b.epoch ∧ (b.hears r ak nw).wait = b.wait ∧ (b.hears r ak nw).beat = b.beat := by
  have h1 := acks_more ({ b.ticked nw with hat := (b.ticked nw).now, hrole := r } : CS) ak
  have h2 := @acks_acked ({ b.ticked nw with hat := (b.ticked nw).now, hrole := r } : CS) ak
  refine ⟨?_, h1, ?_, fun h => (h2 h).1, ?_, ?_, ?_⟩
  all_goals
    unfold CS.hears CS.acks
    split <;> rfl

/-- keeps and nexts leave all but what came. -/
theorem keeps_nexts_same (b : CS) (n : Int) (d : ByteArray) : ∃ t E, (b.keeps n d).nexts = { b with taken := t, E := E } := by
  have hk : ∃ E, b.keeps n d = { b with E := E } := by
    unfold CS.keeps
    split
    · exact ⟨b.E, rfl⟩
    · exact ⟨_, rfl⟩
  obtain ⟨E, hk⟩ := hk
  rw [hk]
  exact ⟨_, _, rfl⟩
theorem keeps_nexts_rng (b : CS) (n : Int) (d : ByteArray) (h : ∀ q ∈ b.E, b.taken < q.1 ∧ q.1 ≤ b.taken + b.room) : ∀ q ∈ (b.keeps n d).nexts.E, (b.keeps n d).nexts.taken < q.1 ∧ q.1 ≤ (b.keeps n d).nexts.taken + b.room := by
  have hk : ∃ E, b.keeps n d = { b with E := E } ∧ ∀ q ∈ E, b.taken < q.1 ∧ q.1 ≤ b.taken + b.room := by
    unfold CS.keeps
    split
    · exact ⟨b.E, rfl, h⟩
    · rename_i hc
      refine ⟨_, rfl, fun q hq => ?_⟩
      rcases List.mem_append.1 hq with hq | hq
      · exact h q hq
      · simp only [List.mem_singleton] at hq
        subst hq
        have h1 : ¬ n ≤ b.taken := fun e => hc (.inr (.inl e))
        have h2 : ¬ b.room < n - b.taken := fun e => hc (.inr (.inr e))
        exact ⟨by show b.taken < n; omega, by show n ≤ b.taken + b.room; omega⟩
  obtain ⟨E, hk, hE⟩ := hk
  rw [hk]
  intro q hq
  have h1 := drain_rng E.length b.taken E (b.taken + b.room) hE q hq
  have h2 := drain_up E.length b.taken E
  exact ⟨h1.1, by show q.1 ≤ (drainE E.length b.taken E).1 + b.room; omega⟩

theorem Two.took (h : Two a b D0 D1 T0 T1 nw wt bt ep) {S : ByteArray} (hS : LetIn D0 a.taken ep S) :
    Two a (took b S nw).1 D0 D1 T0 (T1 ++ (took b S nw).2) nw wt bt ep ∧ Took b (took b S nw).1 S nw ep := by
  obtain ⟨k, r, n, ak, d, rfl, hl, ha, hd⟩ := hS
  have hL := hl
  rw [← h.eb.e] at hL
  have hnw := ticked_now h.eb.n h.n1
  have hbb := letterB_bounds hl
  obtain ⟨m1, m2, m3, m4, m5, m6, m7⟩ := hears_more b r ak nw
  obtain ⟨f1, f2, f3, f4⟩ := hears_frame b r ak nw
  have hst := hears_stay b r ak nw
  have hpi := h.eb.p.takes (by decide) k r n ak d nw
  have hrm : (b.hears r ak nw).room = b.room := f3
  have hdir : Dir (b.hears r ak nw) a D1 T0 := by
    have h1 : Dir ({ b.ticked nw with hat := (b.ticked nw).now, hrole := r } : CS) a D1 T0 := h.ba.snd rfl rfl (fun y hy => ⟨y, hy, rfl, rfl⟩) (fun x hx => ⟨x, hx, rfl⟩)
    exact h1.acks ak ha
  have hO : ∀ x ∈ (b.hears r ak nw).O, x ∈ b.O := by
    intro x hx
    unfold CS.hears CS.acks at hx
    split at hx
    · exact hx
    · exact (List.mem_filter.1 hx).1
  have hol : ((b.hears r ak nw).O.length : Int) ≤ (b.hears r ak nw).room := by
    rw [hrm]
    have h1 : (b.hears r ak nw).O.length ≤ b.O.length := by
      unfold CS.hears CS.acks
      split
      · exact Nat.le_refl _
      · exact List.length_filter_le _ _
    have := h.eb.ol
    omega
  have hinj : ∀ k' r' n' ak' d', letBytes k ep r n ak d = letBytes k' ep r' n' ak' d' → letterB k' ep r' n' ak' d' = true → k = k' ∧ n = n' ∧ ak = ak' := by
    intro k' r' n' ak' d' he hl'
    obtain ⟨e1, _, _, e4, e5, _⟩ := let_back hl
    obtain ⟨g1, _, _, g4, g5, _⟩ := let_back hl'
    rw [he] at e1 e4 e5
    exact ⟨e1.symm.trans g1, e4.symm.trans g4, e5.symm.trans g5⟩
  rw [show letBytes k ep r n ak d = letBytes k b.epoch r n ak d from by rw [h.eb.e], took_let hL]
  rw [show letBytes k b.epoch r n ak d = letBytes k ep r n ak d from by rw [h.eb.e]]
  have hlastb := h.ba.last
  have htl := h.ab.takL
  have halast := h.ab.last
  have hd0 := h.d0
  have hd1 := h.d1
  have hroom := h.eb.p.ok.r2
  have hroom1 := h.eb.p.ok.r1
  by_cases hk2 : k = 2
  · have e1 : b.takes k r n ak d nw = { b.hears r ak nw with hmark := n } := by unfold CS.takes; rw [if_pos hk2]
    have e2 : b.brings k r n ak d nw = [] := by unfold CS.brings; rw [if_pos hk2]
    rw [e1] at hpi
    have hel := h.eb.el
    have htl' : b.taken ≤ D0.length := by omega
    rw [e1, e2, List.append_nil]
    refine ⟨⟨h.ea, ⟨hpi.norm (by show (b.hears r ak nw).last ≤ 300; rw [m1]; omega) (by show (b.hears r ak nw).taken + ((b.hears r ak nw).E.length : Int) ≤ 300; rw [f1, f2]; omega), ?_, m5.trans h.eb.e, m6.trans h.eb.w, m7.trans h.eb.b, by show (b.hears r ak nw).now ≤ nw; rw [f4]; omega, ?_, ?_, hol⟩, h.ab.rcv f2 f1, ⟨hdir.last, hdir.ack0, hdir.ackT, hdir.takL, hdir.all, hdir.low, hdir.held, hdir.got⟩, h.d0, h.d1, h.n0, h.n1⟩, ⟨by show b.taken ≤ (b.hears r ak nw).taken; rw [f2]; exact Int.le_refl _, m1, m2, hst, .inl m3, hrm, ?_, ?_⟩⟩
    · intro q hq
      show (b.hears r ak nw).taken < q.1 ∧ q.1 ≤ (b.hears r ak nw).taken + (b.hears r ak nw).room
      rw [f2, f3]
      replace hq : q ∈ (b.hears r ak nw).E := hq
      rw [f1] at hq
      exact h.eb.rng q hq
    · intro x hx
      show x.at_ ≤ (b.hears r ak nw).now
      have := h.eb.ats x (hO x hx)
      have := h.eb.n
      rw [f4]
      omega
    · show (b.hears r ak nw).bat ≤ (b.hears r ak nw).now + (b.hears r ak nw).beat
      have := h.eb.bat
      have := h.eb.n
      rw [m3, m7, f4]
      omega
    · intro r' n' ak' d' he hl' hn
      have := (hinj 1 r' n' ak' d' he hl').1
      omega
    · intro k' r' n' ak' d' he hl' hn
      obtain ⟨_, _, e⟩ := hinj k' r' n' ak' d' he hl'
      rw [← e] at hn ⊢
      exact m4 hn
  · have hk1 : k = 1 := by have := hbb.1; omega
    have e1 : b.takes k r n ak d nw = (({ b.hears r ak nw with bat := (b.hears r ak nw).now } : CS).keeps n d).nexts := by unfold CS.takes; rw [if_neg hk2]
    have e2 : b.brings k r n ak d nw = (({ b.hears r ak nw with bat := (b.hears r ak nw).now } : CS).keeps n d).news := by unfold CS.brings; rw [if_neg hk2]
    rw [e1] at hpi
    rw [e1, e2]
    have hn1 : 1 ≤ n := by
      subst hk1
      have h5 := hl
      unfold letterB at h5
      simp at h5
      omega
    have hrcv : Dir a ({ b.hears r ak nw with bat := (b.hears r ak nw).now } : CS) D0 T1 := h.ab.rcv f2 f1
    have hnew := hrcv.keeps_nexts n d ⟨hn1, hd hk1⟩ (by show 0 ≤ (b.hears r ak nw).taken; rw [f2]; exact h.eb.p.ok.t0)
    have hrng := keeps_nexts_rng ({ b.hears r ak nw with bat := (b.hears r ak nw).now } : CS) n d (by
      intro q hq
      show (b.hears r ak nw).taken < q.1 ∧ q.1 ≤ (b.hears r ak nw).taken + (b.hears r ak nw).room
      rw [f2, f3]
      replace hq : q ∈ (b.hears r ak nw).E := hq
      rw [f1] at hq
      exact h.eb.rng q hq)
    have hup := keeps_up ({ b.hears r ak nw with bat := (b.hears r ak nw).now } : CS) n d
    have hnx := fun hn => @next_taken ({ b.hears r ak nw with bat := (b.hears r ak nw).now } : CS) n d (by show 1 ≤ (b.hears r ak nw).room; rw [f3]; exact hroom1) hn (by
      show lookE (b.hears r ak nw).E ((b.hears r ak nw).taken + 1) = none
      rw [f1, f2]
      exact h.eb.p.nx)
    replace hup : b.taken ≤ (({ b.hears r ak nw with bat := (b.hears r ak nw).now } : CS).keeps n d).nexts.taken := by
      rw [← f2]; exact hup
    replace hnx : n ≤ b.taken + 1 → n ≤ (({ b.hears r ak nw with bat := (b.hears r ak nw).now } : CS).keeps n d).nexts.taken := by
      intro hn
      refine hnx ?_
      show n ≤ (b.hears r ak nw).taken + 1
      rw [f2]
      exact hn
    obtain ⟨t, E, hsame⟩ := keeps_nexts_same ({ b.hears r ak nw with bat := (b.hears r ak nw).now } : CS) n d
    rw [hsame] at hpi hnew hrng hup hnx ⊢
    have htD := hnew.takL
    replace htD : t ≤ a.last := htD
    have hel : E.length ≤ 64 := by
      have h1 := count_early b.room.toNat E t hpi.dist (fun q hq => by
        have := hrng q hq
        simp only at this
        rw [f3] at this
        omega)
      omega
    refine ⟨⟨h.ea, ⟨hpi.norm (by show (b.hears r ak nw).last ≤ 300; rw [m1]; omega) (by show t + (E.length : Int) ≤ 300; omega), hrng, m5.trans h.eb.e, m6.trans h.eb.w, m7.trans h.eb.b, by show (b.hears r ak nw).now ≤ nw; rw [f4]; omega, ?_, ?_, hol⟩, hnew, ⟨hdir.last, hdir.ack0, hdir.ackT, hdir.takL, hdir.all, hdir.low, hdir.held, hdir.got⟩, h.d0, h.d1, h.n0, h.n1⟩, ⟨hup, m1, m2, hst, .inr (by show (b.hears r ak nw).now = nw; rw [f4]; exact hnw), hrm, ?_, ?_⟩⟩
    · intro x hx
      show x.at_ ≤ (b.hears r ak nw).now
      have := h.eb.ats x (hO x hx)
      have := h.eb.n
      rw [f4]
      omega
    · show (b.hears r ak nw).now ≤ (b.hears r ak nw).now + (b.hears r ak nw).beat
      have := h.eb.p.ok.b1
      rw [m7]
      omega
    · intro r' n' ak' d' he hl' hn
      obtain ⟨_, e, _⟩ := hinj 1 r' n' ak' d' he hl'
      rw [← e] at hn ⊢
      exact hnx hn
    · intro k' r' n' ak' d' he hl' hn
      obtain ⟨_, _, e⟩ := hinj k' r' n' ak' d' he hl'
      rw [← e] at hn ⊢
      exact m4 hn
end

end Go.Proofs.Yteifehienpeaiaa

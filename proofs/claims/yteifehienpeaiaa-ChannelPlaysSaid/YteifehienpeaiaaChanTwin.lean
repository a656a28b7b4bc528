/-
  An end and the reference end in one state: each call of both.
  Conditions: fewer than a thousand acts.
-/
import Derived.Test.YteifehienpeaiaaSameTexts
import Derived.Test.YteifehienpeaiaaChanInv
import Derived.Test.YteifehienpeaiaaRefTake
set_option linter.unusedVariables false
set_option linter.unusedSimpArgs false
set_option maxRecDepth 100000
namespace Go.Proofs.Yteifehienpeaiaa
open Go.RowKit

theorem foot_ref {w : World} {g mo me r : Nat} {s s' : CS} (h : EndAt w g mo me s) (hr : REAt w r s') : ∀ k, Foot g mo me s.O k → k ≠ r := by
  obtain ⟨wv, yv, wb, eb, hg, _⟩ := hr
  rintro k (rfl | rfl | rfl | ⟨x, hx, rfl⟩) e
  · have hc := h.cell
    rw [e, hg] at hc
    injection hc with hc
    injection hc with _ hc
    revert hc
    decide
  · exact map_cells h.omap hg e
  · exact map_cells h.emap hg e
  · have hc := h.sent x hx
    rw [e, hg] at hc
    injection hc with hc
    injection hc with _ hc
    revert hc
    decide
theorem foot_sent {w : World} {g mo me : Nat} {s : CS} (h : EndAt w g mo me s) {b : Nat} {cur : Array Value} (hb : w.heap[b]? = some (.cells cur 135 (0, 0))) : ¬ Foot g mo me s.O b := by
  rintro (rfl | rfl | rfl | ⟨x, hx, rfl⟩)
  · have hc := h.cell
    rw [hb] at hc
    injection hc with hc
    injection hc with _ hc
    revert hc
    decide
  · exact map_cells h.omap hb rfl
  · exact map_cells h.emap hb rfl
  · have hc := h.sent x hx
    rw [hb] at hc
    injection hc with hc
    injection hc with _ hc
    revert hc
    decide
theorem REAt.foot {w w' : World} {g mo me r : Nat} {s s' : CS} {S : Nat → Prop} (hr : REAt w r s') (h : EndAt w g mo me s) (hk : Only S w w') (hS : ∀ k, S k → Foot g mo me s.O k) : REAt w' r s' :=
  hr.only hk (fun e => foot_ref h hr r (hS r e) rfl) (fun b cur hb e => foot_sent h hb (hS b e))
theorem EndAt.ref {w w' : World} {g mo me r : Nat} {s : CS} (h : EndAt w g mo me s) (hne : ∀ k, Foot g mo me s.O k → k ≠ r) (hk : Only (fun k => k = r) w w') : EndAt w' g mo me s :=
  h.only hk (fun k hf e => hne k hf e)

/-- Both in one state, behind the world W. -/
structure TwinS (W w : World) (g mo me r a : Nat) (s : CS) : Prop where
  c : EndAt w g mo me s
  f : REAt w r s
  inv : PInv s a
  new : ∀ k, Foot g mo me s.O k → W.heap.size ≤ k
  rnew : W.heap.size ≤ r
  only : Only (fun _ => False) W w
def TwinC (W w : World) (g mo me r a : Nat) : Prop := ∃ s, TwinS W w g mo me r a s
theorem TwinS.keep {W w w' : World} {g mo me r a : Nat} {s : CS} (h : TwinS W w g mo me r a s) (hk : Only (fun _ => False) w w') : TwinS W w' g mo me r a s :=
  ⟨h.c.keep hk, h.f.keep hk, h.inv, h.new, h.rnew, h.only.trans hk⟩
theorem TwinS.mono {W w : World} {g mo me r a b : Nat} {s : CS} (h : TwinS W w g mo me r a s) (hb : a ≤ b) : TwinS W w g mo me r b s :=
  ⟨h.c, h.f, h.inv.mono hb, h.new, h.rnew, h.only⟩

/-- The world behind both calls: the end's blocks turned, then the reference end's. -/
theorem TwinS.both {W w w1 w2 : World} {g mo me r a b : Nat} {s s' : CS} {S : Nat → Prop} (h : TwinS W w g mo me r a s) (hc : EndAt w1 g mo me s') (hk1 : Only S w w1) (hS : ∀ k, S k → Foot g mo me s.O k) (hf : REAt w2 r s') (hk2 : Only (fun k => k = r) w1 w2) (hi : PInv s' b) (hn : ∀ k, Foot g mo me s'.O k → Foot g mo me s.O k ∨ w.heap.size ≤ k) : TwinS W w2 g mo me r b s' := by
  have hr1 := h.f.foot h.c hk1 hS
  refine ⟨hc.ref (foot_ref hc hr1) hk2, hf, hi, fun k hk => ?_, h.rnew, (h.only.then hk1 (fun k hlt e => ?_)).then hk2 (fun k hlt e => ?_)⟩
  · rcases hn k hk with h1 | h1
    · exact h.new k h1
    · exact Nat.le_trans h.only.size h1
  · have := h.new k (hS k e)
    omega
  · have := h.rnew
    omega

theorem foot_filter {g mo me : Nat} {O : List Sn} {p : Sn → Bool} : ∀ k, Foot g mo me (O.filter p) k → Foot g mo me O k := by
  rintro k (rfl | rfl | rfl | ⟨x, hx, rfl⟩)
  · exact .inl rfl
  · exact .inr (.inl rfl)
  · exact .inr (.inr (.inl rfl))
  · exact .inr (.inr (.inr ⟨x, (List.mem_filter.1 hx).1, rfl⟩))
theorem takes_O (s : CS) (k r n a : Int) (d : ByteArray) (now : Int) : (s.takes k r n a d now).O = s.O ∨ ∃ p : Sn → Bool, (s.takes k r n a d now).O = s.O.filter p := by
  have h1 : (s.hears r a now).O = s.O ∨ ∃ p : Sn → Bool, (s.hears r a now).O = s.O.filter p := by
    unfold CS.hears CS.acks
    split
    · exact .inl rfl
    · exact .inr ⟨_, rfl⟩
  have h2 : (s.takes k r n a d now).O = (s.hears r a now).O := by
    unfold CS.takes
    split
    · rfl
    · show (CS.nexts _).O = _
      unfold CS.nexts CS.keeps
      show (if _ then _ else _ : CS).O = _
      split <;> rfl
  rw [h2]
  exact h1

section
variable {W w : World} {g mo me r a : Nat} {s : CS}

theorem twin_send (h : TwinS W w g mo me r a s) (ha : a < 1000) (d : ByteArray) (now : Int) (hd : d.size ≤ 140737488355328) :
    Calls Try.prog 28 #[.pointer (some ⟨g, 0, none⟩), .string d, .int .i64 now] w fun e w1 => ∃ (S : ByteArray) (c : Int), e = .returned (.tuple #[.string S, .int .i64 c]) ∧ Only (Foot g mo me s.O) w w1 ∧
      Calls Try.prog 56 #[.pointer (some ⟨r, 0, none⟩), .string d, .int .i64 now] w1 fun e w2 => e = .returned (.tuple #[.string S, .int .i64 c]) ∧ Only (fun k => k = r) w1 w2 ∧ TwinC W w2 g mo me r (a + 1) := by
  by_cases h1 : 4096 < d.size
  · refine (send_long w g d now h1 hd).mono ?_
    rintro e w1 ⟨rfl, rfl⟩
    refine ⟨_, _, rfl, Only.refl _ _, ?_⟩
    refine (rsend_long w r d now h1 hd).mono ?_
    rintro e w2 ⟨rfl, rfl⟩
    exact ⟨rfl, Only.refl _ _, s, h.mono (Nat.le_succ a)⟩
  · by_cases h2 : s.room ≤ s.O.length
    · refine (send_full w g mo me s d now h.c (by omega) h2).mono ?_
      rintro e w1 ⟨rfl, hk1⟩
      refine ⟨_, _, rfl, hk1.mono (fun _ _ h => h.elim), ?_⟩
      refine (rsend_full w1 r s d now (h.f.keep hk1) (by omega) h2).mono ?_
      rintro e w2 ⟨rfl, hk2⟩
      exact ⟨rfl, hk2.mono (fun _ _ h => h.elim), s, ((h.keep hk1).keep hk2).mono (Nat.le_succ a)⟩
    · have hi := h.inv
      have hl1 := hi.l1
      have hla := hi.la
      have h0 := hi.a0
      refine (send_any w g mo me s d now h.c hi.ok (by omega) (by omega) ⟨by omega, by omega⟩ (fun x hx => by have := (hi.low x hx).2; omega)).mono ?_
      rintro e w1 ⟨b, rfl, hc, hb, hk1⟩
      have hS : ∀ k, (k = g ∨ k = mo) → Foot g mo me s.O k := fun k hk => hk.elim .inl (fun e => .inr (.inl e))
      have hr1 := h.f.foot h.c hk1 hS
      refine ⟨_, _, rfl, hk1.mono (fun k _ hk => hS k hk), ?_⟩
      refine (rsend_any w1 r s d now hr1 hi.ok (by omega) (by omega) ⟨by omega, by omega⟩ b).mono ?_
      rintro e w2 ⟨rfl, hf, hk2⟩
      refine ⟨rfl, hk2, s.sent d now b, h.both hc hk1 hS hf hk2 (hi.sent ha d (by omega) (by omega) now b) ?_⟩
      rintro k (rfl | rfl | rfl | ⟨x, hx, rfl⟩)
      · exact .inl (.inl rfl)
      · exact .inl (.inr (.inl rfl))
      · exact .inl (.inr (.inr (.inl rfl)))
      · rcases List.mem_append.1 hx with h1 | h1
        · exact .inl (.inr (.inr (.inr ⟨x, h1, rfl⟩)))
        · simp only [List.mem_singleton] at h1
          subst h1
          exact .inr hb

theorem twin_take (h : TwinS W w g mo me r a s) (ha : a < 100) (S : ByteArray) (now : Int) (hs : S.size ≤ 140737488355328) :
    Calls Try.prog 25 #[.pointer (some ⟨g, 0, none⟩), .string S, .int .i64 now] w fun e w1 => ∃ (v : Value) (L : List ByteArray) (c : Int), e = .returned (.tuple #[v, .int .i64 c]) ∧ Only (Foot g mo me s.O) w w1 ∧ w1.ownsRow w.heap.size 9 1 v L.length (L.map Value.string) ∧ L.length ≤ 1000 ∧
      Calls Try.prog 57 #[.pointer (some ⟨r, 0, none⟩), .string S, .int .i64 now] w1 fun e w2 => ∃ v', e = .returned (.tuple #[v', .int .i64 c]) ∧ Only (fun k => k = r) w1 w2 ∧ w2.ownsRow w1.heap.size 9 1 v' L.length (L.map Value.string) ∧ TwinC W w2 g mo me r (a + 1) := by
  by_cases h1 : DecOk S
  · by_cases h2 : numAt S 1 4 = s.epoch
    · have hi := h.inv
      have hte := hi.te
      have hl1 := hi.l1
      have ht0 := hi.ok.t0
      have hsh := letterB_bounds h1.shape
      refine (take_letter w g mo me s S now h.c hs h1 h2 (fun x hx => (hi.low x hx).1) hi.a0 (by omega) ht0 (by omega) (by omega) ⟨by have := hi.ok.r1; omega, hi.ok.r2⟩ _ _ _ _ _ rfl rfl rfl rfl rfl hsh.2.2.1.1 (by have := hsh.2.2.1.2; omega) hsh.1).mono ?_
      rintro e w1 ⟨v, rfl, hrow, hc, hk1⟩
      have hS : ∀ k, (k = g ∨ k = mo ∨ k = me) → Foot g mo me s.O k := fun k hk => hk.elim .inl (fun e => .inr (e.elim .inl (fun e => .inr (.inl e))))
      have hr1 := h.f.foot h.c hk1 hS
      have hpi := hi.takes (by omega : a < 1000) (numAt S 0 1) (numAt S 5 1) (numAt S 6 4) (numAt S 10 4) (S.extract 16 (S.size - 4)) now
      refine ⟨v, _, _, rfl, hk1.mono (fun k _ hk => hS k hk), hrow, ?_, ?_⟩
      · exact brings_le hi (by omega) _ _ _ _ _ _
      · refine (rtake_letter w1 r s S now hr1 hi.ok.len ⟨ht0, hi.ok.t1⟩ ⟨by have := hi.ok.r1; omega, hi.ok.r2⟩ hs h1 h2 hi.dist hi.nx (by omega) (by omega)).mono ?_
        rintro e w2 ⟨v', rfl, hrow', hf, hk2⟩
        refine ⟨v', rfl, hk2, hrow', _, h.both hc hk1 hS hf hk2 hpi ?_⟩
        intro k hk
        rcases takes_O s (numAt S 0 1) (numAt S 5 1) (numAt S 6 4) (numAt S 10 4) (S.extract 16 (S.size - 4)) now with e | ⟨p, e⟩
        · rw [e] at hk
          exact .inl hk
        · rw [e] at hk
          exact .inl (foot_filter k hk)
    · refine (take_epoch w g mo me s S now h.c hs h1 h2).mono ?_
      rintro e w1 ⟨rfl, hk1⟩
      refine ⟨_, [], _, rfl, hk1.mono (fun _ _ h => h.elim), World.ownsRow_nil _ _ _ _, by decide, ?_⟩
      refine (rtake_epoch w1 r s S now (h.f.keep hk1) hs h1 h2).mono ?_
      rintro e w2 ⟨rfl, hk2⟩
      exact ⟨_, rfl, hk2.mono (fun _ _ h => h.elim), World.ownsRow_nil _ _ _ _, s, ((h.keep hk1).keep hk2).mono (Nat.le_succ a)⟩
  · refine (take_bad w g S now hs h1).mono ?_
    rintro e w1 ⟨rfl, hk1⟩
    refine ⟨_, [], _, rfl, hk1.mono (fun _ _ h => h.elim), World.ownsRow_nil _ _ _ _, by decide, ?_⟩
    refine (rtake_bad w1 r S now hs h1).mono ?_
    rintro e w2 ⟨rfl, hk2⟩
    exact ⟨_, rfl, hk2.mono (fun _ _ h => h.elim), World.ownsRow_nil _ _ _ _, s, ((h.keep hk1).keep hk2).mono (Nat.le_succ a)⟩

theorem twin_tick (h : TwinS W w g mo me r a s) (now : Int) :
    Calls Try.prog 22 #[.pointer (some ⟨g, 0, none⟩), .int .i64 now] w fun e w1 => ∃ (v : Value) (L : List ByteArray), e = .returned v ∧ Only (Foot g mo me s.O) w w1 ∧ w1.ownsRow w.heap.size 9 1 v L.length (L.map Value.string) ∧ L.length ≤ 1000 ∧
      Calls Try.prog 58 #[.pointer (some ⟨r, 0, none⟩), .int .i64 now] w1 fun e w2 => ∃ v', e = .returned v' ∧ Only (fun k => k = r) w1 w2 ∧ w2.ownsRow w1.heap.size 9 1 v' L.length (L.map Value.string) ∧ TwinC W w2 g mo me r (a + 1) := by
  have hi := h.inv
  refine (etick_any w g mo me s now h.c hi.ok hi.up).mono ?_
  rintro e w1 ⟨v, rfl, hrow, hc, hk1⟩
  have hr1 := h.f.foot h.c hk1 (fun _ h => h)
  refine ⟨v, _, rfl, hk1, hrow, ?_, ?_⟩
  · unfold CS.outs
    rw [List.length_append, List.length_map]
    have h1 := List.length_filter_le (s.ticked now).due s.O
    have h2 := hi.ok.len
    split <;> simp only [List.length_cons, List.length_nil] <;> omega
  · refine (rgo_any w1 r s now hr1 hi.ok).mono ?_
    rintro e w2 ⟨v', rfl, hrow', hf, hk2⟩
    refine ⟨v', rfl, hk2, hrow', _, (h.both hc hk1 (fun _ h => h) hf hk2 (hi.ticks now) ?_).mono (Nat.le_succ a)⟩
    rintro k (rfl | rfl | rfl | ⟨x, hx, rfl⟩)
    · exact .inl (.inl rfl)
    · exact .inl (.inr (.inl rfl))
    · exact .inl (.inr (.inr (.inl rfl)))
    · obtain ⟨y, hy, rfl⟩ := List.mem_map.1 hx
      exact .inl (.inr (.inr (.inr ⟨y, hy, (upd_key _ y).2.1⟩)))

theorem twin_role (h : TwinS W w g mo me r a s) (ro : Int) :
    Calls Try.prog 21 #[.pointer (some ⟨g, 0, none⟩), .int .i64 ro] w fun e w1 => ∃ c : Int, e = .returned (.int .i64 c) ∧ Only (Foot g mo me s.O) w w1 ∧
      Calls Try.prog 59 #[.pointer (some ⟨r, 0, none⟩), .int .i64 ro] w1 fun e w2 => e = .returned (.int .i64 c) ∧ Only (fun k => k = r) w1 w2 ∧ TwinC W w2 g mo me r (a + 1) := by
  by_cases h1 : 0 ≤ ro ∧ ro ≤ 5
  · refine (role_any w g mo me s ro h.c h1.1 h1.2).mono ?_
    rintro e w1 ⟨rfl, hc, hk1⟩
    have hS : ∀ k, k = g → Foot g mo me s.O k := fun k hk => .inl hk
    refine ⟨_, rfl, hk1.mono (fun k _ hk => hS k hk), ?_⟩
    refine (rrole_ok w1 r s ro (h.f.foot h.c hk1 hS) h1.1 h1.2).mono ?_
    rintro e w2 ⟨rfl, hf, hk2⟩
    exact ⟨rfl, hk2, _, (h.both hc hk1 hS hf hk2 (h.inv.role h1.1 h1.2) (fun k hk => .inl hk)).mono (Nat.le_succ a)⟩
  · refine (role_bad w g mo me s ro h.c h1).mono ?_
    rintro e w1 ⟨rfl, rfl⟩
    refine ⟨_, rfl, Only.refl _ _, ?_⟩
    refine (rrole_bad w r ro h1).mono ?_
    rintro e w2 ⟨rfl, rfl⟩
    exact ⟨rfl, Only.refl _ _, s, h.mono (Nat.le_succ a)⟩
end

end Go.Proofs.Yteifehienpeaiaa

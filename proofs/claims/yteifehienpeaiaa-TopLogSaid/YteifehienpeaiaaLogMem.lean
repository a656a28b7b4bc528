/-
  TopLog in memory: two ends, a log and what was got; and the calls upon them.
  Conditions: numbers are of the kind int.
-/
import Derived.Test.YteifehienpeaiaaPairCalls
import Derived.Test.YteifehienpeaiaaBld
import Derived.Test.YteifehienpeaiaaLogInv
set_option linter.unusedVariables false
set_option linter.unusedSimpArgs false
set_option maxRecDepth 100000
namespace Go.Proofs.Yteifehienpeaiaa
open Go.RowKit

/-- Blocks of strings, and of rows of strings, are as they were. -/
def TextT (T : TypeId) : Prop := T = 9 ∨ T = 43
structure Texts (w w' : World) : Prop where
  keep : ∀ (k : Nat) (cs : Array Value) (T : TypeId), TextT T → w.heap[k]? = some (.cells cs T (0, 0)) → w'.heap[k]? = some (.cells cs T (0, 0))
  size : w.heap.size ≤ w'.heap.size
theorem Texts.refl (w : World) : Texts w w := ⟨fun _ _ _ _ h => h, Nat.le_refl _⟩
theorem Texts.trans {a b c : World} (h : Texts a b) (k : Texts b c) : Texts a c := ⟨fun i cs T hT hi => k.keep i cs T hT (h.keep i cs T hT hi), Nat.le_trans h.size k.size⟩
theorem Texts.only {Q : Nat → Prop} {w w' : World} (hk : Only Q w w') (hQ : ∀ (k : Nat) (cs : Array Value) (T : TypeId), TextT T → w.heap[k]? = some (.cells cs T (0, 0)) → ¬ Q k) : Texts w w' := ⟨fun k cs T hT h => hk.at h (hQ k cs T hT h), hk.size⟩
theorem Texts.of {w w' : World} (hk : Only (fun _ => False) w w') : Texts w w' := .only hk (fun _ _ _ _ _ h => h)
theorem Texts.row {w w' : World} {B n : Nat} {v : Value} {xs : List Value} (h : w.ownsRow B 9 1 v n xs) (k : Texts w w') : w'.ownsRow B 9 1 v n xs := by
  refine ⟨h.1, ?_⟩
  rcases h.2 with h1 | ⟨g, cap, cur, rfl, hb, hg, rest⟩
  · exact .inl h1
  · exact .inr ⟨g, cap, cur, rfl, hb, k.keep g cur 9 (.inl rfl) hg, rest⟩

theorem foot_ty {w : World} {g mo me : Nat} {s : CS} (h : EndAt w g mo me s) {b : Nat} {cur : Array Value} {T : TypeId} (hb : w.heap[b]? = some (.cells cur T (0, 0))) (h1 : T ≠ 102) (h2 : T ≠ 110) : ¬ Foot g mo me s.O b := by
  rintro (rfl | rfl | rfl | ⟨x, hx, rfl⟩)
  · have hc := h.cell
    rw [hb] at hc
    injection hc with hc
    injection hc with _ hc
    exact h1 hc
  · exact map_cells h.omap hb rfl
  · exact map_cells h.emap hb rfl
  · have hc := h.sent x hx
    rw [hb] at hc
    injection hc with hc
    injection hc with _ hc
    exact h2 hc
theorem erow_block {w : World} {B n b : Nat} {v : Value} {xs : List Value} (h : w.ownsRow B 83 3 v n xs) (hb : v.ownBlock = some b) : ∃ cur, w.heap[b]? = some (.cells cur 83 (0, 0)) := by
  obtain ⟨_, ⟨rfl, _⟩ | ⟨g, cap, c, rfl, _, hg, _⟩⟩ := h
  · cases hb
  · cases hb
    exact ⟨c, hg⟩
theorem ty_ne {w : World} {b c : Nat} {cs ds : Array Value} {T U : TypeId} (h : w.heap[b]? = some (.cells cs T (0, 0))) (k : w.heap[c]? = some (.cells ds U (0, 0))) (hTU : T ≠ U) : b ≠ c := by
  rintro rfl
  rw [h] at k
  injection k with k
  injection k with _ k
  exact hTU k

/-- Two ends, the log at lg, what was got at gg. -/
structure TW (W w : World) (g mo me : Nat → Nat) (lg gg : Nat) (lv gv : Value) (s : Nat → CS) (L G : List EV) : Prop where
  e : ∀ j, j < 2 → EndAt w (g j) (mo j) (me j) (s j)
  apart : ∀ k, Foot (g 0) (mo 0) (me 0) (s 0).O k → ¬ Foot (g 1) (mo 1) (me 1) (s 1).O k
  log : LogAt w W.heap.size lg lv L
  got : LogAt w W.heap.size gg gv G
  ne : lg ≠ gg
  sep : ∀ k, lv.ownBlock = some k → gv.ownBlock ≠ some k
  new : ∀ j, j < 2 → ∀ k, Foot (g j) (mo j) (me j) (s j).O k → W.heap.size ≤ k
  newl : W.heap.size ≤ lg
  newg : W.heap.size ≤ gg
  only : Only (fun _ => False) W w

section
variable {W w w' : World} {g mo me : Nat → Nat} {lg gg : Nat} {lv gv : Value} {s : Nat → CS} {L G : List EV} {j : Nat}

theorem TW.keep (h : TW W w g mo me lg gg lv gv s L G) (hk : Only (fun _ => False) w w') : TW W w' g mo me lg gg lv gv s L G :=
  ⟨fun j hj => (h.e j hj).keep hk, h.apart, h.log.mono hk, h.got.mono hk, h.ne, h.sep, h.new, h.newl, h.newg, h.only.trans hk⟩

theorem TW.foot_log (h : TW W w g mo me lg gg lv gv s L G) (hj : j < 2) {k : Nat} (hf : Foot (g j) (mo j) (me j) (s j).O k) : k ≠ lg ∧ k ≠ gg ∧ (∀ b, lv.ownBlock = some b → k ≠ b) ∧ (∀ b, gv.ownBlock = some b → k ≠ b) := by
  refine ⟨?_, ?_, ?_, ?_⟩
  · rintro rfl
    exact foot_ty (h.e j hj) h.log.cell (by decide) (by decide) hf
  · rintro rfl
    exact foot_ty (h.e j hj) h.got.cell (by decide) (by decide) hf
  · rintro b hb rfl
    obtain ⟨cur, hc⟩ := erow_block h.log.row hb
    exact foot_ty (h.e j hj) hc (by decide) (by decide) hf
  · rintro b hb rfl
    obtain ⟨cur, hc⟩ := erow_block h.got.row hb
    exact foot_ty (h.e j hj) hc (by decide) (by decide) hf

/-- A call of the end j. -/
theorem TW.call (h : TW W w g mo me lg gg lv gv s L G) (hj : j < 2) {s' : CS} {Q : Nat → Prop} (hk : Only Q w w') (hQ : ∀ k, Q k → Foot (g j) (mo j) (me j) (s j).O k) (he : EndAt w' (g j) (mo j) (me j) s') (hn : ∀ k, Foot (g j) (mo j) (me j) s'.O k → Foot (g j) (mo j) (me j) (s j).O k ∨ w.heap.size ≤ k) :
    TW W w' g mo me lg gg lv gv (put s j s') L G ∧ Texts w w' := by
  have hw := h.only.size
  have hother : ∀ i, i < 2 → i ≠ j → ∀ k, Foot (g i) (mo i) (me i) (s i).O k → ¬ Foot (g j) (mo j) (me j) (s j).O k := by
    intro i hi hij k h1 h2
    have : (i = 0 ∧ j = 1) ∨ (i = 1 ∧ j = 0) := by omega
    rcases this with ⟨rfl, rfl⟩ | ⟨rfl, rfl⟩
    · exact h.apart k h1 h2
    · exact h.apart k h2 h1
  refine ⟨⟨fun i hi => ?_, ?_, h.log.keep hk (fun e => (h.foot_log hj (hQ _ e)).1 rfl) (fun k hb e => (h.foot_log hj (hQ _ e)).2.2.1 k hb rfl), h.got.keep hk (fun e => (h.foot_log hj (hQ _ e)).2.1 rfl) (fun k hb e => (h.foot_log hj (hQ _ e)).2.2.2 k hb rfl), h.ne, h.sep, fun i hi k hf => ?_, h.newl, h.newg, h.only.then hk (fun k hlt e => by have := h.new j hj k (hQ k e); omega)⟩, .only hk (fun k cs T hT hc e => ?_)⟩
  · by_cases hij : i = j
    · subst hij
      rw [put_at]
      exact he
    · rw [put_ne _ _ hij]
      exact (h.e i hi).only hk (fun k hf e => hother i hi hij k hf (hQ k e))
  · intro k h1 h2
    have : j = 0 ∨ j = 1 := by omega
    rcases this with rfl | rfl
    · rw [put_at] at h1
      rw [put_ne _ _ (by decide)] at h2
      rcases hn k h1 with h3 | h3
      · exact h.apart k h3 h2
      · have := (h.e 1 (by decide)).lt k h2
        omega
    · rw [put_at] at h2
      rw [put_ne _ _ (by decide)] at h1
      rcases hn k h2 with h3 | h3
      · exact h.apart k h1 h3
      · have := (h.e 0 (by decide)).lt k h1
        omega
  · by_cases hij : i = j
    · subst hij
      rw [put_at] at hf
      rcases hn k hf with h3 | h3
      · exact h.new i hi k h3
      · omega
    · rw [put_ne _ _ hij] at hf
      exact h.new i hi k hf
  · exact foot_ty (h.e j hj) hc (by rcases hT with rfl | rfl <;> decide) (by rcases hT with rfl | rfl <;> decide) (hQ k e)

theorem tw_tick (h : TW W w g mo me lg gg lv gv s L G) (hj : j < 2) (hp : PInv (s j) 300) (now : Int) :
    Calls Try.prog 22 #[.pointer (some ⟨g j, 0, none⟩), .int .i64 now] w fun e w' => ∃ v, e = .returned v ∧ w'.ownsRow w.heap.size 9 1 v ((s j).outs now).length (((s j).outs now).map Value.string) ∧ TW W w' g mo me lg gg lv gv (put s j ((s j).ticks now)) L G ∧ Texts w w' := by
  refine (etick_any w (g j) (mo j) (me j) (s j) now (h.e j hj) hp.ok hp.up).mono ?_
  rintro e w1 ⟨v, rfl, hrow, hc, hk1⟩
  refine ⟨v, rfl, hrow, h.call hj hk1 (fun _ h => h) hc ?_⟩
  rintro k (rfl | rfl | rfl | ⟨y, hy, rfl⟩)
  · exact .inl (.inl rfl)
  · exact .inl (.inr (.inl rfl))
  · exact .inl (.inr (.inr (.inl rfl)))
  · obtain ⟨z, hz, rfl⟩ := List.mem_map.1 hy
    exact .inl (.inr (.inr (.inr ⟨z, hz, (upd_key _ z).2.1⟩)))

theorem tw_take (h : TW W w g mo me lg gg lv gv s L G) (hj : j < 2) (hp : PInv (s j) 300) (X : ByteArray) (hX : X.size ≤ 140737488355328) (now : Int) :
    Calls Try.prog 25 #[.pointer (some ⟨g j, 0, none⟩), .string X, .int .i64 now] w fun e w' => ∃ (v : Value) (c : Int), e = .returned (.tuple #[v, .int .i64 c]) ∧ w'.ownsRow w.heap.size 9 1 v (took (s j) X now).2.length ((took (s j) X now).2.map Value.string) ∧ TW W w' g mo me lg gg lv gv (put s j (took (s j) X now).1) L G ∧ Texts w w' := by
  by_cases hd : decB X = true ∧ numAt X 1 4 = (s j).epoch
  · obtain ⟨h1, h2⟩ := hd
    have hok := (decB_iff X).1 h1
    have hsh := letterB_bounds hok.shape
    have ht0 := hp.ok.t0
    have hl1 := hp.l1
    have hte := hp.te
    have htk : took (s j) X now = ((s j).takes (numAt X 0 1) (numAt X 5 1) (numAt X 6 4) (numAt X 10 4) (X.extract 16 (X.size - 4)) now, (s j).brings (numAt X 0 1) (numAt X 5 1) (numAt X 6 4) (numAt X 10 4) (X.extract 16 (X.size - 4)) now) := if_pos ⟨h1, h2⟩
    rw [htk]
    refine (take_letter w (g j) (mo j) (me j) (s j) X now (h.e j hj) hX hok h2 (fun x hx => (hp.low x hx).1) hp.a0 (by omega) ht0 (by omega) (by omega) ⟨by have := hp.ok.r1; omega, hp.ok.r2⟩ _ _ _ _ _ rfl rfl rfl rfl rfl hsh.2.2.1.1 (by have := hsh.2.2.1.2; omega) hsh.1).mono ?_
    rintro e w1 ⟨v, rfl, hrow, hc, hk1⟩
    have hS : ∀ k, (k = g j ∨ k = mo j ∨ k = me j) → Foot (g j) (mo j) (me j) (s j).O k := fun k hk => hk.elim .inl (fun e => .inr (e.elim .inl (fun e => .inr (.inl e))))
    refine ⟨v, 0, rfl, hrow, h.call hj hk1 hS hc ?_⟩
    intro k hk
    rcases takes_O2 (s j) (numAt X 0 1) (numAt X 5 1) (numAt X 6 4) (numAt X 10 4) (X.extract 16 (X.size - 4)) now with e | ⟨q, e⟩
    · rw [e] at hk
      exact .inl hk
    · rw [e] at hk
      exact .inl (foot_filter2 k hk)
  · have htk : took (s j) X now = (s j, []) := if_neg hd
    rw [htk, put_same]
    by_cases h1 : DecOk X
    · have h2 : ¬ numAt X 1 4 = (s j).epoch := fun e => hd ⟨(decB_iff X).2 h1, e⟩
      refine (take_epoch w (g j) (mo j) (me j) (s j) X now (h.e j hj) hX h1 h2).mono ?_
      rintro e w1 ⟨rfl, hk1⟩
      exact ⟨_, 260, rfl, World.ownsRow_nil _ _ _ _, h.keep hk1, .of hk1⟩
    · refine (take_bad w (g j) X now hX h1).mono ?_
      rintro e w1 ⟨rfl, hk1⟩
      exact ⟨_, 240, rfl, World.ownsRow_nil _ _ _ _, h.keep hk1, .of hk1⟩

theorem tw_full (h : TW W w g mo me lg gg lv gv s L G) (hj : j < 2) (d : ByteArray) (hd : d.size ≤ 4096) (now : Int) (hf : (s j).room ≤ (s j).O.length) :
    Calls Try.prog 28 #[.pointer (some ⟨g j, 0, none⟩), .string d, .int .i64 now] w fun e w' => e = .returned (.tuple #[.string ⟨#[]⟩, .int .i64 150]) ∧ TW W w' g mo me lg gg lv gv s L G ∧ Texts w w' := by
  refine (send_full w (g j) (mo j) (me j) (s j) d now (h.e j hj) hd hf).mono ?_
  rintro e w1 ⟨rfl, hk1⟩
  exact ⟨rfl, h.keep (hk1.mono (fun _ _ h => h)), .of hk1⟩

theorem tw_send (h : TW W w g mo me lg gg lv gv s L G) (hj : j < 2) (hp : PInv (s j) 300) (d : ByteArray) (hd : d.size ≤ 4096) (now : Int) (hf : ¬ (s j).room ≤ (s j).O.length) :
    Calls Try.prog 28 #[.pointer (some ⟨g j, 0, none⟩), .string d, .int .i64 now] w fun e w' => ∃ b, e = .returned (.tuple #[.string (((s j).ticked now).letter 1 ((s j).last + 1) d), .int .i64 0]) ∧ TW W w' g mo me lg gg lv gv (put s j ((s j).sent d now b)) L G ∧ Texts w w' := by
  have hl1 := hp.l1
  have hla := hp.la
  have h0 := hp.a0
  refine (send_any w (g j) (mo j) (me j) (s j) d now (h.e j hj) hp.ok hd (by omega) ⟨by omega, by omega⟩ (fun x hx => by have := (hp.low x hx).2; omega)).mono ?_
  rintro e w1 ⟨b, rfl, hc, hb, hk1⟩
  have hS : ∀ k, (k = g j ∨ k = mo j) → Foot (g j) (mo j) (me j) (s j).O k := fun k hk => hk.elim .inl (fun e => .inr (.inl e))
  refine ⟨b, rfl, h.call hj hk1 hS hc ?_⟩
  rintro k (rfl | rfl | rfl | ⟨y, hy, rfl⟩)
  · exact .inl (.inl rfl)
  · exact .inl (.inr (.inl rfl))
  · exact .inl (.inr (.inr (.inl rfl)))
  · rcases List.mem_append.1 hy with h1 | h1
    · exact .inl (.inr (.inr (.inr ⟨y, h1, rfl⟩)))
    · simp only [List.mem_singleton] at h1
      subst h1
      exact .inr hb

/-- An event that is added to what was got. -/
theorem tw_got (h : TW W w g mo me lg gg lv gv s L G) (x : EV) (hG : G.length ≤ 1000) (ht : takesB G x = true) :
    Calls Try.prog 35 #[.pointer (some ⟨gg, 0, none⟩), .agg #[.int .i64 x.kind, .int .i64 x.now, .string x.data]] w fun e w' => ∃ gv', e = .returned (.tuple #[.int .i64 (G.length + 1), .int .i64 0]) ∧ TW W w' g mo me lg gg lv gv' s L (G ++ [x]) ∧ Texts w w' ∧ Only (fun k => k = gg ∨ gv.ownBlock = some k) w w' ∧ (∀ b, gv'.ownBlock = some b → gv.ownBlock = some b ∨ w.heap.size ≤ b) := by
  have hx := ht
  unfold takesB at hx
  simp only [Bool.and_eq_true] at hx
  have hxd := ((evB_iff x).1 hx.1.1).2
  have hW := h.only.size
  refine (add_ok w W.heap.size gg gv G x h.got hW hG (by omega) ht).mono ?_
  rintro e w1 ⟨rfl, gv', h1, h2, hk⟩
  have hrowB : ∀ b, gv.ownBlock = some b → W.heap.size ≤ b := fun b hb => (h.got.row.lt b hb).1
  refine ⟨gv', rfl, ⟨fun i hi => (h.e i hi).only hk (fun k hf e => ?_), h.apart, h.log.keep hk ?_ (fun k hb e => ?_), h1, h.ne, fun k hb e => ?_, h.new, h.newl, h.newg, h.only.then hk (fun k hlt e => ?_)⟩, .only hk (fun k cs T hT hc e => ?_), hk, h2⟩
  · have := h.foot_log hi hf
    rcases e with e | e
    · exact this.2.1 e
    · exact this.2.2.2 k e rfl
  · rintro (e | e)
    · exact h.ne e
    · obtain ⟨cur, hc⟩ := erow_block h.got.row e
      exact ty_ne h.log.cell hc (by decide) rfl
  · rcases e with e | e
    · obtain ⟨cur, hc⟩ := erow_block h.log.row hb
      exact ty_ne hc h.got.cell (by decide) e
    · exact h.sep k hb e
  · rcases h2 k e with e | e
    · exact h.sep k hb e
    · have := (h.log.row.lt k hb).2
      omega
  · rcases e with e | e
    · have := h.newg
      omega
    · have := hrowB k e
      omega
  · rcases e with rfl | e
    · exact ty_ne hc h.got.cell (by rcases hT with rfl | rfl <;> decide) rfl
    · obtain ⟨cur, hc'⟩ := erow_block h.got.row e
      exact ty_ne hc hc' (by rcases hT with rfl | rfl <;> decide) rfl

/-- An event that is added to the log. -/
theorem tw_log (h : TW W w g mo me lg gg lv gv s L G) (x : EV) (hL : L.length ≤ 1000) (ht : takesB L x = true) :
    Calls Try.prog 35 #[.pointer (some ⟨lg, 0, none⟩), .agg #[.int .i64 x.kind, .int .i64 x.now, .string x.data]] w fun e w' => ∃ lv', e = .returned (.tuple #[.int .i64 (L.length + 1), .int .i64 0]) ∧ TW W w' g mo me lg gg lv' gv s (L ++ [x]) G := by
  have hx := ht
  unfold takesB at hx
  simp only [Bool.and_eq_true] at hx
  have hxd := ((evB_iff x).1 hx.1.1).2
  have hW := h.only.size
  refine (add_ok w W.heap.size lg lv L x h.log hW hL (by omega) ht).mono ?_
  rintro e w1 ⟨rfl, lv', h1, h2, hk⟩
  have hrowB : ∀ b, lv.ownBlock = some b → W.heap.size ≤ b := fun b hb => (h.log.row.lt b hb).1
  refine ⟨lv', rfl, ⟨fun i hi => (h.e i hi).only hk (fun k hf e => ?_), h.apart, h1, h.got.keep hk ?_ (fun k hb e => ?_), h.ne, fun k hb e => ?_, h.new, h.newl, h.newg, h.only.then hk (fun k hlt e => ?_)⟩⟩
  · have := h.foot_log hi hf
    rcases e with e | e
    · exact this.1 e
    · exact this.2.2.1 k e rfl
  · rintro (e | e)
    · exact h.ne e.symm
    · obtain ⟨cur, hc⟩ := erow_block h.log.row e
      exact ty_ne h.got.cell hc (by decide) rfl
  · rcases e with e | e
    · obtain ⟨cur, hc⟩ := erow_block h.got.row hb
      exact ty_ne hc h.log.cell (by decide) e
    · exact h.sep k e hb
  · rcases h2 k hb with e' | e'
    · exact h.sep k e' e
    · have := (h.got.row.lt k e).2
      omega
  · rcases e with e | e
    · have := h.newl
      omega
    · have := hrowB k e
      omega
end

end Go.Proofs.Yteifehienpeaiaa

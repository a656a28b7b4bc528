/-
  NeighOnce: what stays true of a cache's state beside what the law keeps, act by act: plain laws.
  Conditions: the cache is the law's; neighbours are 11 to 14.
-/
import Derived.Test.YthgkdfllddljcaaNeiTick
set_option linter.unusedVariables false
set_option linter.unusedSimpArgs false
set_option maxRecDepth 100000
namespace Go.Proofs.Ythgkdfllddljcaa
open Go.RowKit

theorem getI_put_same (T : List (Int × Value)) (a : Int) (v : Value) : getI (putI T a v) a = some v := by
  unfold putI
  split
  · rename_i h
    unfold getI at h ⊢
    rw [List.find?_map]
    cases hf : T.find? (fun p => p.1 == a) with
    | none => rw [hf] at h; cases h
    | some p =>
      have h1 := List.find?_some hf
      have e : ((fun p : Int × Value => p.1 == a) ∘ fun p => if (p.1 == a) = true then (a, v) else p) = fun p => p.1 == a := by
        funext q
        simp only [Function.comp]
        split
        · rename_i h; rw [h]; simp
        · rfl
      rw [e, hf]
      simp only [Option.map_some]
      rw [if_pos h1]
  · rename_i h
    unfold getI at h ⊢
    rw [List.find?_append]
    cases hf : T.find? (fun p => p.1 == a) with
    | none => simp
    | some p => rw [hf] at h; exact absurd rfl h
theorem getI_put_other (T : List (Int × Value)) (a b : Int) (v : Value) (hne : b ≠ a) : getI (putI T a v) b = getI T b := by
  unfold putI
  split
  · unfold getI
    rw [List.find?_map]
    have e : ((fun p : Int × Value => p.1 == b) ∘ fun p => if (p.1 == a) = true then (a, v) else p) = fun p => p.1 == b := by
      funext q
      simp only [Function.comp]
      split
      · rename_i h
        have h1 : q.1 = a := by simpa using h
        rw [h1]
      · rfl
    rw [e]
    cases hf : T.find? (fun p => p.1 == b) with
    | none => rfl
    | some p =>
      have h1 : p.1 = b := by simpa using List.find?_some hf
      simp only [Option.map_some]
      rw [if_neg (by rw [h1]; simpa using hne)]
  · unfold getI
    rw [List.find?_append]
    have : [(a, v)].find? (fun p => p.1 == b) = none := by
      rw [List.find?_eq_none]
      intro p hp
      rw [List.mem_singleton.1 hp]
      simpa using fun e : a = b => hne e.symm
    rw [this]
    cases T.find? (fun p => p.1 == b) <;> rfl

theorem LA_none {A : List (Int × Asked)} {a : Int} (h : A.find? (fun p => p.1 == a) = none) : LA A a = [] := by unfold LA; rw [h]; rfl
theorem LA_some {A : List (Int × Asked)} {a : Int} {q : Int × Asked} (h : A.find? (fun p => p.1 == a) = some q) : LA A a = q.2.L := by unfold LA; rw [h]; rfl
theorem LA_more (A : List (Int × Asked)) (a : Int) (x : Asked) (h : A.find? (fun p => p.1 == a) = none) (b : Int) : LA (A ++ [(a, x)]) b = if b = a then x.L else LA A b := by
  unfold LA
  rw [List.find?_append]
  by_cases e : b = a
  · subst e
    rw [h, if_pos rfl]
    simp
  · rw [if_neg e]
    have : [(a, x)].find? (fun p => p.1 == b) = none := by
      rw [List.find?_eq_none]
      intro p hp
      rw [List.mem_singleton.1 hp]
      simpa using fun e' : a = b => e e'.symm
    rw [this]
    cases A.find? (fun p => p.1 == b) <;> rfl
theorem LA_turn {A : List (Int × Asked)} {a : Int} {x x' : Asked} (h : A.find? (fun p => p.1 == a) = some (a, x)) (b : Int) : LA (setA A a x') b = if b = a then x'.L else LA A b := by
  unfold LA
  rw [find_setA]
  by_cases e : b = a
  · subst e
    rw [h, if_pos rfl]
    simp
  · rw [if_neg e]
    cases hf : A.find? (fun p => p.1 == b) with
    | none => rfl
    | some p =>
      have h1 : p.1 = b := by simpa using List.find?_some hf
      simp only [Option.map_some, Option.getD_some]
      rw [if_neg (by rw [h1]; exact e)]

theorem nodup_few : ∀ (l S : List Int), l.Nodup → (∀ x ∈ l, x ∈ S) → l.length ≤ S.length
  | [], S, _, _ => by simp
  | x :: l, S, hn, h => by
    rw [List.nodup_cons] at hn
    have hx := h x (by simp)
    have h1 := nodup_few l (S.erase x) hn.2 (fun y hy => by
      have hne : y ≠ x := fun e => hn.1 (by rw [← e]; exact hy)
      exact (List.mem_erase_of_ne hne).2 (h y (by simp [hy])))
    rw [List.length_erase_of_mem hx] at h1
    have : 0 < S.length := List.length_pos_of_mem hx
    rw [List.length_cons]
    omega

/-- What stays true of the law's cache: k acts are over; many packets wait or waited, gone are over. -/
structure SInv (s : NS) (T : List (Int × Value)) (k : Nat) (many gone : Int) : Prop where
  mac : s.mac = 2
  age : s.age = 50
  pat : s.pat = 4
  room : s.room = 9
  waits : s.waits = 30
  mine : s.mine = true
  now0 : 0 ≤ s.now
  now1 : s.now ≤ 3 * (k : Int)
  fresh : ∀ p ∈ s.K, s.now < p.2.2 + 50 → getI T p.1 = some (.int .i64 p.2.1)
  known : ∀ p ∈ s.K, 11 ≤ p.1 ∧ p.1 < 15 ∧ 0 ≤ p.2.2 ∧ p.2.2 ≤ s.now
  ask : ∀ p ∈ s.A, 11 ≤ p.1 ∧ p.1 < 15 ∧ p.2.L ≠ [] ∧ 0 ≤ p.2.at_ ∧ p.2.at_ ≤ s.now ∧ ∀ i ∈ p.2.L, 0 ≤ i ∧ i < 60
  cnt : many = gone + (s.waiting : Int)
  few : s.waiting ≤ 30
  gone0 : 0 ≤ gone
  many1 : many ≤ (k : Int)

theorem SInv.later {s : NS} {T : List (Int × Value)} {k : Nat} {many gone : Int} (h : SInv s T k many gone) (now : Int) (h1 : s.now ≤ now) (h2 : now ≤ s.now + 3) : SInv { s with now := now } T (k + 1) many gone :=
  ⟨h.mac, h.age, h.pat, h.room, h.waits, h.mine, by have := h.now0; show 0 ≤ now; omega, by have := h.now1; show now ≤ _; push_cast; omega, fun p hp hl => h.fresh p hp (by have : now < p.2.2 + 50 := hl; omega), fun p hp => by
    obtain ⟨a, b, c, d⟩ := h.known p hp
    exact ⟨a, b, c, by show p.2.2 ≤ now; omega⟩, fun p hp => by
    obtain ⟨a, b, c, d, e, f⟩ := h.ask p hp
    exact ⟨a, b, c, d, by show p.2.at_ ≤ now; omega, f⟩, h.cnt, h.few, h.gone0, by have := h.many1; push_cast; omega⟩

theorem SInv.ok {s : NS} {T : List (Int × Value)} {k : Nat} {many gone : Int} (h : SInv s T k many gone) (hk : k ≤ 100) : NOk s :=
  ⟨by rw [h.age]; decide, by rw [h.age]; decide, by rw [h.pat]; decide, by rw [h.pat]; decide, h.now0, by have := h.now1; omega, fun p hp => ⟨(h.known p hp).2.2.1, (h.known p hp).2.2.2⟩⟩

theorem SInv.find {s : NS} {T : List (Int × Value)} {k : Nat} {many gone : Int} (h : SInv s T k many gone) {a mc : Int} (hf : s.find a s.now = some mc) : getI T a = some (.int .i64 mc) := by
  unfold NS.find at hf
  cases hl : lookH s.K a with
  | none => rw [hl] at hf; cases hf
  | some y =>
    rw [hl] at hf
    simp only at hf
    split at hf
    · rename_i hlt
      rw [h.age] at hlt
      have := h.fresh _ (lookH_mem hl) hlt
      rw [this]
      cases hf; rfl
    · cases hf

theorem waiting_more (s : NS) (a : Int) (x : Asked) : NS.waiting { s with A := s.A ++ [(a, x)] } = s.waiting + x.L.length := by
  unfold NS.waiting
  simp
theorem waiting_del {s : NS} (hn : (s.A.map Prod.fst).Nodup) {a : Int} {x : Asked} (hx : (a, x) ∈ s.A) : s.waiting = x.L.length + NS.waiting { s with A := delA s.A a } := by
  have h := (Ticked.lose (Ticked.refl s) hn hx).many
  simp only [List.nil_append, List.length_map] at h
  exact h.symm
theorem waiting_set {s : NS} (hn : (s.A.map Prod.fst).Nodup) {a : Int} {x x' : Asked} (hx : (a, x) ∈ s.A) : NS.waiting { s with A := setA s.A a x' } + x.L.length = s.waiting + x'.L.length := by
  unfold NS.waiting setA
  obtain ⟨l1, l2, hl⟩ := List.append_of_mem hx
  simp only
  rw [hl] at hn ⊢
  simp only [List.map_append, List.map_cons, List.nodup_append, List.nodup_cons] at hn
  obtain ⟨_, ⟨hn2, _⟩, hn3⟩ := hn
  have e1 : l1.map (fun q => if q.1 = a then (q.1, x') else q) = l1 := (List.map_congr_left (g := id) fun q hq => if_neg (fun e => hn3 q.1 (List.mem_map_of_mem hq) a (by simp) e)).trans (List.map_id _)
  have e2 : l2.map (fun q => if q.1 = a then (q.1, x') else q) = l2 := (List.map_congr_left (g := id) fun q hq => if_neg (fun e => hn2 (by rw [← e]; exact List.mem_map_of_mem hq))).trans (List.map_id _)
  rw [List.map_append, List.map_cons, e1, e2]
  simp only [if_true, List.map_append, List.map_cons, List.sum_append, List.sum_cons]
  omega

theorem SInv.first {s : NS} {T : List (Int × Value)} {k : Nat} {many gone : Int} (h : SInv s T k many gone) (now : Int) (h1 : s.now ≤ now) (h2 : now ≤ s.now + 3) {to i : Int} (ht : 11 ≤ to ∧ to < 15) (hi : 0 ≤ i ∧ i < 60) (hw : s.waiting < 30) (blk : Nat) (ws : Value) :
    SInv { s with now := now, A := s.A ++ [(to, ⟨blk, now, false, ws, [i]⟩)] } T (k + 1) (many + 1) gone := by
  have h' := h.later now h1 h2
  refine ⟨h'.mac, h'.age, h'.pat, h'.room, h'.waits, h'.mine, h'.now0, h'.now1, h'.fresh, h'.known, fun p hp => ?_, ?_, ?_, h'.gone0, by have := h.many1; push_cast; omega⟩
  · rcases List.mem_append.1 hp with hp | hp
    · exact h'.ask p hp
    · rw [List.mem_singleton.1 hp]
      exact ⟨ht.1, ht.2, by simp, by have := h'.now0; exact this, Int.le_refl _, fun j hj => by rw [List.mem_singleton.1 hj]; exact hi⟩
  · have := waiting_more { s with now := now } to ⟨blk, now, false, ws, [i]⟩
    rw [this]
    have hc := h'.cnt
    simp only [List.length_singleton]
    push_cast
    omega
  · have := waiting_more { s with now := now } to ⟨blk, now, false, ws, [i]⟩
    rw [this]
    show s.waiting + 1 ≤ 30
    omega

theorem SInv.more {s : NS} {T : List (Int × Value)} {k : Nat} {many gone : Int} (h : SInv s T k many gone) (hn : (s.A.map Prod.fst).Nodup) (now : Int) (h1 : s.now ≤ now) (h2 : now ≤ s.now + 3) {to i : Int} {x : Asked} (hx : (to, x) ∈ s.A) (hi : 0 ≤ i ∧ i < 60) (hw : s.waiting < 30) (ws : Value) :
    SInv { s with now := now, A := setA s.A to { x with ws := ws, L := x.L ++ [i] } } T (k + 1) (many + 1) gone := by
  have h' := h.later now h1 h2
  have hx' : (to, x) ∈ ({ s with now := now } : NS).A := hx
  have hws := waiting_set (s := { s with now := now }) hn (x' := { x with ws := ws, L := x.L ++ [i] }) hx'
  simp only [List.length_append, List.length_singleton] at hws
  have hww : NS.waiting { s with now := now } = s.waiting := rfl
  refine ⟨h'.mac, h'.age, h'.pat, h'.room, h'.waits, h'.mine, h'.now0, h'.now1, h'.fresh, h'.known, fun p hp => ?_, ?_, by omega, h'.gone0, by have := h.many1; push_cast; omega⟩
  · rcases mem_setA hp with ⟨hp, _⟩ | ⟨rfl, _⟩
    · exact h'.ask p hp
    · obtain ⟨a, b, c, d, e, f⟩ := h'.ask _ hx'
      refine ⟨a, b, by simp, d, e, fun j hj => ?_⟩
      rcases List.mem_append.1 hj with hj | hj
      · exact f j hj
      · rw [List.mem_singleton.1 hj]; exact hi
  · have hc := h'.cnt
    omega

theorem SInv.learn {s : NS} {T : List (Int × Value)} {k : Nat} {many gone : Int} (h : SInv s T k many gone) {to m : Int} (ht : 11 ≤ to ∧ to < 15) : SInv (s.learn to m) (putI T to (.int .i64 m)) k many gone := by
  refine ⟨h.mac, h.age, h.pat, h.room, h.waits, h.mine, h.now0, h.now1, fun p hp hl => ?_, fun p hp => ?_, h.ask, h.cnt, h.few, h.gone0, h.many1⟩
  · rcases List.mem_append.1 hp with hp | hp
    · obtain ⟨h1, h2⟩ := List.mem_filter.1 hp
      unfold keepH at h2
      simp only [Bool.and_eq_true, bne_iff_ne] at h2
      rw [getI_put_other _ _ _ _ h2.1]
      exact h.fresh p h1 hl
    · rw [List.mem_singleton.1 hp]
      exact getI_put_same _ _ _
  · rcases List.mem_append.1 hp with hp | hp
    · exact h.known p (List.mem_filter.1 hp).1
    · rw [List.mem_singleton.1 hp]
      exact ⟨ht.1, ht.2, h.now0, Int.le_refl _⟩

theorem SInv.told {s : NS} {T : List (Int × Value)} {k : Nat} {many gone : Int} (h : SInv s T k many gone) (hn : (s.K.map Prod.fst).Nodup) {to m : Int} (hf : s.find to s.now = none) : SInv s (putI T to (.int .i64 m)) k many gone := by
  refine ⟨h.mac, h.age, h.pat, h.room, h.waits, h.mine, h.now0, h.now1, fun p hp hl => ?_, h.known, h.ask, h.cnt, h.few, h.gone0, h.many1⟩
  rw [getI_put_other _ _ _ _ ?_]
  · exact h.fresh p hp hl
  · intro e
    have hl2 : lookH s.K to = some p.2 := by
      unfold lookH
      have : s.K.find? (fun q => q.1 == to) = some p := by
        cases hfd : s.K.find? (fun q => q.1 == to) with
        | none =>
          have := List.find?_eq_none.1 hfd p hp
          simp [e] at this
        | some q =>
          have h1 := List.mem_of_find?_eq_some hfd
          have h2 : q.1 = to := by simpa using List.find?_some hfd
          rw [inj_nodup Prod.fst hn h1 hp (h2.trans e.symm)]
      rw [this]; rfl
    unfold NS.find at hf
    rw [hl2] at hf
    simp only at hf
    rw [if_pos (by rw [h.age]; exact hl)] at hf
    cases hf

theorem SInv.del {s : NS} {T : List (Int × Value)} {k : Nat} {many gone : Int} (h : SInv s T k many gone) (hn : (s.A.map Prod.fst).Nodup) {to : Int} {x : Asked} (hx : (to, x) ∈ s.A) : SInv { s with A := delA s.A to } T k many (gone + (x.L.length : Int)) := by
  have hw := waiting_del hn hx
  have hc := h.cnt
  have hfw := h.few
  have hg := h.gone0
  exact ⟨h.mac, h.age, h.pat, h.room, h.waits, h.mine, h.now0, h.now1, h.fresh, h.known, fun p hp => h.ask p (List.mem_filter.1 hp).1, by omega, by omega, by omega, h.many1⟩

theorem SInv.tick {s s' : NS} {T : List (Int × Value)} {k : Nat} {many gone : Int} {lost : List (Int × Int)} (h : SInv s T k many gone) (ht : Ticked s s' lost) : SInv s' T k many (gone + (lost.length : Int)) := by
  have hr := ht.rest
  have hK : s'.K = s.K := by have e := congrArg NS.K hr; exact e
  have hnow : s'.now = s.now := by have e := congrArg NS.now hr; exact e
  have hm := ht.many
  have hc := h.cnt
  have hfw := h.few
  have hg := h.gone0
  refine ⟨by have e := congrArg NS.mac hr; exact e.trans h.mac, by have e := congrArg NS.age hr; exact e.trans h.age, by have e := congrArg NS.pat hr; exact e.trans h.pat, by have e := congrArg NS.room hr; exact e.trans h.room, by have e := congrArg NS.waits hr; exact e.trans h.waits, by have e := congrArg NS.mine hr; exact e.trans h.mine, by rw [hnow]; exact h.now0, by rw [hnow]; exact h.now1, fun p hp hl => ?_, fun p hp => ?_, fun p hp => ?_, by omega, by omega, by omega, h.many1⟩
  · rw [hK] at hp; rw [hnow] at hl; exact h.fresh p hp hl
  · rw [hK] at hp; rw [hnow]; exact h.known p hp
  · obtain ⟨x, h1, h2, h3, h4, h5⟩ := ht.keys p hp
    obtain ⟨a, b, c, d, e, f⟩ := h.ask _ h1
    simp only at a b c d e f
    rw [hnow, h2]
    refine ⟨a, b, c, ?_, ?_, f⟩
    · rcases h5 with h5 | h5
      · rw [h5]; exact d
      · rw [h5]; exact h.now0
    · rcases h5 with h5 | h5
      · rw [h5]; exact e
      · rw [h5]; exact Int.le_refl _

theorem waiting_sum : ∀ (A : List (Int × Asked)), (A.map Prod.fst).Nodup → (∀ p ∈ A, 11 ≤ p.1 ∧ p.1 < 15) → (A.map fun p => p.2.L.length).sum = (LA A 11).length + (LA A 12).length + (LA A 13).length + (LA A 14).length
  | [], _, _ => rfl
  | p :: A, hn, h => by
    rw [List.map_cons, List.nodup_cons] at hn
    have ih := waiting_sum A hn.2 (fun q hq => h q (by simp [hq]))
    rw [List.map_cons, List.sum_cons, ih]
    have hp := h p (by simp)
    have hnone : LA A p.1 = [] := LA_none (List.find?_eq_none.2 (fun q hq e => hn.1 (by
      have e' : q.1 = p.1 := by simpa using e
      rw [← e']; exact List.mem_map_of_mem hq)))
    have hcons : ∀ b, LA (p :: A) b = if p.1 = b then p.2.L else LA A b := by
      intro b
      unfold LA
      by_cases e : p.1 = b
      · rw [List.find?_cons_of_pos (by simpa using e), if_pos e]; rfl
      · rw [List.find?_cons_of_neg (by simpa using e), if_neg e]
    rw [hcons, hcons, hcons, hcons]
    have hcase : p.1 = 11 ∨ p.1 = 12 ∨ p.1 = 13 ∨ p.1 = 14 := by omega
    rcases hcase with e | e | e | e <;> rw [e] at hnone ⊢ <;> simp [hnone] <;> omega

end Go.Proofs.Ythgkdfllddljcaa

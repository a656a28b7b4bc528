/-
  The plain law of BridgeRoads: what a bridge knows, and what was heard.
  No conditions.
-/
import Derived.Test.YtkmnjlegmgohfaaBridgeTake
set_option linter.unusedVariables false
set_option linter.unusedSimpArgs false
namespace Go.Proofs.Ytkmnjlegmgohfaa
open Go.RowKit

structure RI (s : BS) (hist : Int → Option (Int × Int)) : Prop where
  fresh : ∀ x p t, hist x = some (p, t) → s.now < t + s.age → lookH s.L x = some (p, t)
  told : ∀ x h, lookH s.L x = some h → hist x = some h
  rng : ∀ x p t, hist x = some (p, t) → 0 ≤ p ∧ p < 4 ∧ 0 ≤ t ∧ t ≤ s.now
  nd : (s.L.map Prod.fst).Nodup

def histPut (hist : Int → Option (Int × Int)) (f p now : Int) : Int → Option (Int × Int) := fun x => if x = f then some (p, now) else hist x

theorem lookH_filter (f age now x : Int) : ∀ L : List (Int × Int × Int), (L.map Prod.fst).Nodup → ∀ h, lookH (L.filter (keepH f age now)) x = some h ↔ (lookH L x = some h ∧ x ≠ f ∧ now < h.2 + age)
  | [], _, h => by simp [lookH]
  | p :: L, hn, h => by
    rw [List.map_cons, List.nodup_cons] at hn
    have ih := lookH_filter f age now x L hn.2 h
    by_cases hx : p.1 = x
    · have hnone : lookH L x = none := by
        cases hl : lookH L x with
        | none => rfl
        | some q => exact absurd (List.mem_map_of_mem (f := Prod.fst) (lookH_mem hl)) (by rw [← hx]; exact hn.1)
      have hL : lookH (p :: L) x = some p.2 := by unfold lookH; simp [hx]
      by_cases hk : keepH f age now p = true
      · have : lookH ((p :: L).filter (keepH f age now)) x = some p.2 := by rw [List.filter_cons_of_pos hk]; unfold lookH; simp [hx]
        rw [this, hL]
        unfold keepH at hk
        simp only [Bool.and_eq_true, bne_iff_ne, decide_eq_true_eq] at hk
        constructor
        · intro e; cases e; exact ⟨rfl, by rw [← hx]; exact hk.1, hk.2⟩
        · intro e; exact e.1
      · rw [List.filter_cons_of_neg hk, ih, hnone, hL]
        constructor
        · intro e; cases e.1
        · intro e
          exfalso
          apply hk
          unfold keepH
          obtain ⟨e1, e2, e3⟩ := e
          cases e1
          simp only [Bool.and_eq_true, bne_iff_ne, decide_eq_true_eq]
          exact ⟨by rw [hx]; exact e2, e3⟩
    · have hL : lookH (p :: L) x = lookH L x := by unfold lookH; simp [hx]
      rw [hL, ← ih]
      by_cases hk : keepH f age now p = true
      · rw [List.filter_cons_of_pos hk]
        have : lookH (p :: L.filter (keepH f age now)) x = lookH (L.filter (keepH f age now)) x := by unfold lookH; simp [hx]
        rw [this]
      · rw [List.filter_cons_of_neg hk]

theorem lookH_append (K : List (Int × Int × Int)) (f p now x : Int) : lookH (K ++ [(f, p, now)]) x = match lookH K x with | some h => some h | none => if x = f then some (p, now) else none := by
  unfold lookH
  rw [List.find?_append]
  cases hK : K.find? (fun p => p.1 == x) with
  | some q => simp
  | none =>
    by_cases hx : x = f
    · simp [hx]
    · have : (f == x) = false := by simpa using fun e => hx e.symm
      simp [this, hx]

theorem took_L {s : BS} {f p now : Int} (h : (s.L.length : Int) < s.room) : (s.took f p now).L = s.L.filter (keepH f s.age now) ++ [(f, p, now)] := by
  have h1 := List.length_filter_le (keepH f s.age now) s.L
  show (if ((s.L.filter (keepH f s.age now)).length : Int) < s.room then s.L.filter (keepH f s.age now) ++ [(f, p, now)] else s.L.filter (keepH f s.age now)) = _
  rw [if_pos (by omega)]

theorem RI.took {s : BS} {hist : Int → Option (Int × Int)} (h : RI s hist) (ho : BOk s) {f p now : Int} (hr : (s.L.length : Int) < s.room) (hp : 0 ≤ p ∧ p < 4) (hn : s.now ≤ now) : RI (s.took f p now) (histPut hist f p now) := by
  have hL := took_L (f := f) (p := p) (now := now) hr
  have ha : (s.took f p now).age = s.age := rfl
  have hw : (s.took f p now).now = now := rfl
  have a1 := ho.a1
  have n1 := ho.n1
  refine ⟨?_, ?_, ?_, ?_⟩
  · intro x q t hx hf
    rw [ha, hw] at hf
    rw [hL, lookH_append]
    unfold histPut at hx
    split at hx
    · rename_i e
      cases hx
      cases hl : lookH (s.L.filter (keepH f s.age now)) x with
      | none => simp [e]
      | some q => exact absurd e ((lookH_filter f s.age now x s.L h.nd q).1 hl).2.1
    · rename_i e
      have h1 := h.fresh x q t hx (by omega)
      have h2 := (lookH_filter f s.age now x s.L h.nd (q, t)).2 ⟨h1, e, hf⟩
      rw [h2]
  · intro x q hx
    rw [hL, lookH_append] at hx
    unfold histPut
    cases hl : lookH (s.L.filter (keepH f s.age now)) x with
    | some q' =>
      rw [hl] at hx
      cases hx
      have h1 := (lookH_filter f s.age now x s.L h.nd q).1 hl
      rw [if_neg h1.2.1]
      exact h.told x q h1.1
    | none =>
      rw [hl] at hx
      simp only at hx
      split at hx
      · rename_i e
        rw [if_pos e]; exact hx
      · cases hx
  · intro x q t hx
    rw [hw]
    unfold histPut at hx
    split at hx
    · cases hx; omega
    · have := h.rng x q t hx; omega
  · rw [hL, List.map_append, List.nodup_append]
    refine ⟨h.nd.sublist ((List.filter_sublist).map _), by simp, ?_⟩
    intro a ha b hb e
    simp only [List.map_cons, List.map_nil, List.mem_singleton] at hb
    obtain ⟨y, hy, rfl⟩ := List.mem_map.1 ha
    have := (List.mem_filter.1 hy).2
    unfold keepH at this
    simp only [Bool.and_eq_true, bne_iff_ne] at this
    exact this.1 (e.trans hb)

theorem RI.find {s : BS} {hist : Int → Option (Int × Int)} (h : RI s hist) (x : Int) : s.find x s.now = match hist x with | some (p, t) => if t + s.age ≤ s.now then none else some p | none => none := by
  unfold BS.find
  cases hx : hist x with
  | none =>
    cases hl : lookH s.L x with
    | none => rfl
    | some q => rw [h.told x q hl] at hx; cases hx
  | some q =>
    obtain ⟨p, t⟩ := q
    by_cases hf : t + s.age ≤ s.now
    · simp only [hf, if_true]
      cases hl : lookH s.L x with
      | none => rfl
      | some r =>
        have := h.told x r hl
        rw [hx] at this
        cases this
        simp [hf]
    · rw [h.fresh x p t hx (by omega)]

theorem getI_putI (l : List (Int × Value)) (k x : Int) (v : Value) : getI (putI l k v) x = if x = k then some v else getI l x := by
  unfold putI
  cases hg : getI l k with
  | none =>
    simp only [Option.isSome_none, Bool.false_eq_true, if_false]
    by_cases hx : x = k
    · rw [if_pos hx, hx]
      unfold getI at hg ⊢
      rw [List.find?_append]
      cases hf : l.find? (fun p => p.1 == k) with
      | none => simp
      | some q => rw [hf] at hg; cases hg
    · rw [if_neg hx]
      unfold getI
      rw [List.find?_append]
      have : (k == x) = false := by simpa using fun e => hx e.symm
      simp [this]
  | some u =>
    simp only [Option.isSome_some, if_true]
    have key : ∀ m : List (Int × Value), getI (m.map (fun p => if (p.1 == k) = true then (k, v) else p)) x = if x = k then (getI m k).map (fun _ => v) else getI m x := by
      intro m
      induction m with
      | nil => simp [getI]
      | cons q m ih =>
        unfold getI at ih ⊢
        by_cases h1 : q.1 = k
        · by_cases h2 : x = k
          · subst h2
            simp [h1]
          · have : (k == x) = false := by simpa using fun e => h2 e.symm
            have h3 : (q.1 == x) = false := by rw [h1]; exact this
            simp only [List.map_cons, h1, beq_self_eq_true, if_true, List.find?_cons, this, h3, h2, if_false] at ih ⊢
            exact ih
        · have h4 : (q.1 == k) = false := by simpa using h1
          by_cases h2 : q.1 = x
          · have h5 : ¬ x = k := by rw [← h2]; exact h1
            simp [h4, h2, h5]
          · have h6 : (q.1 == x) = false := by simpa using h2
            simp only [List.map_cons, h4, Bool.false_eq_true, if_false, List.find?_cons, h6] at ih ⊢
            exact ih
    rw [key l, hg]
    rfl

/-- The ports that a frame goes to are told in rising order, each of them one that may be. -/
def Good (l : List Int) (port : Int) : Prop := ∀ i, i < l.length → l.getD i 0 ≠ port ∧ 0 ≤ l.getD i 0 ∧ l.getD i 0 ≤ 3 ∧ (0 < i → l.getD (i - 1) 0 < l.getD i 0)

theorem good_iff (l : List Int) (port : Int) : Good l port ↔ ∀ i : Fin l.length, l.getD i 0 ≠ port ∧ 0 ≤ l.getD i 0 ∧ l.getD i 0 ≤ 3 ∧ (0 < i.1 → l.getD (i.1 - 1) 0 < l.getD i 0) :=
  ⟨fun h i => h i.1 i.2, fun h i hi => h ⟨i, hi⟩⟩

theorem roads_all (port a : Int) (gr kb : Bool) (h0 : 0 ≤ port) (h1 : port < 4) (h : gr = true ∨ kb = false) : (roads port gr kb a 4).length = 3 ∧ Good (roads port gr kb a 4) port := by
  have e : roads port gr kb a 4 = ([0, 1, 2, 3] : List Int).filter (fun p => p != port) := by
    unfold roads
    have : ((List.range 4).map (fun i : Nat => (i : Int))) = [0, 1, 2, 3] := rfl
    rw [this]
    apply List.filter_congr
    intro p _
    unfold roadB
    rcases h with h | h <;> simp [h]
  rw [e, good_iff]
  have hp : port = 0 ∨ port = 1 ∨ port = 2 ∨ port = 3 := by omega
  rcases hp with rfl | rfl | rfl | rfl <;> decide

theorem roads_one (port a : Int) (h0 : 0 ≤ port) (h1 : port < 4) (a0 : 0 ≤ a) (a1 : a < 4) : roads port false true a 4 = (if a = port then [] else [a]) ∧ Good (roads port false true a 4) port := by
  have hp : port = 0 ∨ port = 1 ∨ port = 2 ∨ port = 3 := by omega
  have ha : a = 0 ∨ a = 1 ∨ a = 2 ∨ a = 3 := by omega
  rw [good_iff]
  rcases hp with rfl | rfl | rfl | rfl <;> rcases ha with rfl | rfl | rfl | rfl <;> decide

/-- The state of the law's loop behind k rounds: the bridge's, the law's own maps, and the clock. -/
structure RSt (k : Nat) (s : BS) (t : Int) (H A : List (Int × Value)) (hist : Int → Option (Int × Int)) : Prop where
  t1 : s.now ≤ t
  t2 : t ≤ 8 * k
  ok : BOk s
  ag : s.age = 20
  rm : s.room = 1024
  po : s.ports = 4
  len : s.L.length ≤ k
  ri : RI s hist
  hh : ∀ x, getI H x = (hist x).map (fun h => Value.int .i64 h.1)
  ha : ∀ x, getI A x = (hist x).map (fun h => Value.int .i64 h.2)

theorem RI.new {p a r n : Int} : RI ⟨p, a, r, n, []⟩ (fun _ => none) :=
  ⟨fun x p t h => (by cases h), fun x h e => (by cases e), fun x p t h => (by cases h), List.nodup_nil⟩

theorem RSt.new : RSt 0 ⟨4, 20, 1024, 0, []⟩ 0 [] [] (fun _ => none) :=
  ⟨by show (0 : Int) ≤ 0; omega, by omega, ⟨by show (1 : Int) ≤ 4; omega, by show (4 : Int) ≤ 16; omega, by show (1 : Int) ≤ 20; omega, by show (20 : Int) ≤ _; omega, by show (1 : Int) ≤ 1024; omega, by show (1024 : Int) ≤ _; omega, by show (0 : Int) ≤ 0; omega, by show (0 : Int) ≤ _; omega, fun q hq => by cases hq⟩,
   rfl, rfl, rfl, Nat.le_refl _, RI.new, fun x => rfl, fun x => rfl⟩

theorem RSt.bad {k : Nat} {s : BS} {t : Int} {H A : List (Int × Value)} {hist : Int → Option (Int × Int)} (h : RSt k s t H A hist) {dn : Int} (d0 : 0 ≤ dn) (d1 : dn < 9) : RSt (k + 1) s (t + dn) H A hist :=
  ⟨by have := h.t1; omega, by have := h.t2; omega, h.ok, h.ag, h.rm, h.po, by have := h.len; omega, h.ri, h.hh, h.ha⟩

theorem RSt.good {k : Nat} {s : BS} {t : Int} {H A : List (Int × Value)} {hist : Int → Option (Int × Int)} (h : RSt k s t H A hist) (hk : k < 60) {dn : Int} (d0 : 0 ≤ dn) (d1 : dn < 9) {fr port : Int} (p0 : 0 ≤ port) (p1 : port < 4) :
    RSt (k + 1) (s.took fr port (t + dn)) (t + dn) (putI H fr (.int .i64 port)) (putI A fr (.int .i64 (t + dn))) (histPut hist fr port (t + dn)) := by
  have h1 := h.t1
  have h2 := h.t2
  have hlenL : ((s.L.length : Int) < s.room) := by have := h.len; have := h.rm; omega
  have b0 : s.now ≤ t + dn := by omega
  refine ⟨Int.le_refl _, by omega, (h.ok.tick b0 (by omega)).learn fr port, h.ag, h.rm, h.po, ?_, h.ri.took h.ok hlenL ⟨p0, p1⟩ b0, ?_, ?_⟩
  · rw [took_L hlenL, List.length_append]
    have := List.length_filter_le (keepH fr s.age (t + dn)) s.L
    have := h.len
    simp only [List.length_cons, List.length_nil]
    omega
  · intro x
    rw [getI_putI]
    unfold histPut
    split
    · rfl
    · exact h.hh x
  · intro x
    rw [getI_putI]
    unfold histPut
    split
    · rfl
    · exact h.ha x

/-- What the law asks of the ports that a frame went to. -/
theorem RSt.asked {k : Nat} {s : BS} {t : Int} {H A : List (Int × Value)} {hist : Int → Option (Int × Int)} (h : RSt k s t H A hist) (hn : s.now = t) {to port : Int} (gr : Bool) (p0 : 0 ≤ port) (p1 : port < 4) (l : List Int) (hl : l = roads port gr (s.find to t).isSome ((s.find to t).getD 0) 4) :
    Good l port ∧
    ((hist to = none ∧ l.length = 3) ∨
     ∃ p w, hist to = some (p, w) ∧ 0 ≤ p ∧ p < 4 ∧ 0 ≤ w ∧ w ≤ t ∧ ((gr = true ∨ 20 ≤ t - w) ∧ l.length = 3 ∨ gr = false ∧ t - w < 20 ∧ l = if p = port then [] else [p])) := by
  have hf := h.ri.find to
  rw [hn, h.ag] at hf
  have hrng := h.ri.rng to
  cases hx : hist to with
  | none =>
    rw [hx] at hf
    simp only at hf
    rw [hf] at hl
    have := roads_all port 0 gr false p0 p1 (Or.inr rfl)
    rw [show roads port gr (none : Option Int).isSome ((none : Option Int).getD 0) 4 = roads port gr false 0 4 from rfl] at hl
    rw [hl]
    exact ⟨this.2, Or.inl ⟨rfl, this.1⟩⟩
  | some q =>
    obtain ⟨p, w⟩ := q
    have hr := hrng p w hx
    rw [hn] at hr
    rw [hx] at hf
    simp only at hf
    by_cases hold : w + 20 ≤ t
    · rw [if_pos hold] at hf
      rw [hf] at hl
      have := roads_all port 0 gr false p0 p1 (Or.inr rfl)
      rw [show roads port gr (none : Option Int).isSome ((none : Option Int).getD 0) 4 = roads port gr false 0 4 from rfl] at hl
      rw [hl]
      exact ⟨this.2, Or.inr ⟨p, w, rfl, hr.1, hr.2.1, hr.2.2.1, hr.2.2.2, Or.inl ⟨Or.inr (by omega), this.1⟩⟩⟩
    · rw [if_neg hold] at hf
      rw [hf] at hl
      rw [show roads port gr (some p : Option Int).isSome ((some p : Option Int).getD 0) 4 = roads port gr true p 4 from rfl] at hl
      rw [hl]
      cases gr with
      | true =>
        have := roads_all port p true true p0 p1 (Or.inl rfl)
        exact ⟨this.2, Or.inr ⟨p, w, rfl, hr.1, hr.2.1, hr.2.2.1, hr.2.2.2, Or.inl ⟨Or.inl rfl, this.1⟩⟩⟩
      | false =>
        have := roads_one port p p0 p1 hr.1 hr.2.1
        exact ⟨this.2, Or.inr ⟨p, w, rfl, hr.1, hr.2.1, hr.2.2.1, hr.2.2.2, Or.inr ⟨rfl, by omega, this.1⟩⟩⟩

end Go.Proofs.Ytkmnjlegmgohfaa

/-
  Who is asked for, changed: one more, one changed, one less; append at a row of packets.
  Conditions: numbers are of the kind int, fewer than a million packets lie in a row.
-/
import Derived.Test.YthgkdfllddljcaaNeiOwn
set_option linter.unusedVariables false
set_option linter.unusedSimpArgs false
set_option maxRecDepth 100000
namespace Go.Proofs.Ythgkdfllddljcaa
open Go.RowKit

/-- One who is asked for, changed. -/
def setA (A : List (Int × Asked)) (a : Int) (x : Asked) : List (Int × Asked) := A.map fun q => if q.1 = a then (q.1, x) else q
def delA (A : List (Int × Asked)) (a : Int) : List (Int × Asked) := A.filter fun q => q.1 != a

theorem cells_ne {w : World} {b b' : Nat} {cs cs' : Array Value} {T T' : TypeId} {fz fz' : Nat × Nat} (h : w.heap[b]? = some (.cells cs T fz)) (h' : w.heap[b']? = some (.cells cs' T' fz')) (hne : T ≠ T') : b ≠ b' := by
  rintro rfl
  rw [h] at h'
  injection h' with h'
  injection h' with _ h'
  exact hne h'
theorem map_ne {w : World} {b d : Nat} {cs : Array Value} {T : TypeId} {fz : Nat × Nat} {l : List (Int × Value)} (h : w.heap[b]? = some (.cells cs T fz)) (hm : MapI w d l) : b ≠ d := by
  rintro rfl
  obtain ⟨es, cl, h1, _⟩ := hm
  rw [h] at h1; cases h1
theorem row_blk {w : World} {B m n : Nat} {T : TypeId} {v : Value} {vs : List Value} (h : w.ownsRow B T m v n vs) {b : Nat} (hb : v.ownBlock = some b) : ∃ cur, w.heap[b]? = some (.cells cur T (0, 0)) := by
  obtain ⟨h1, ⟨h2, h3⟩ | ⟨b', cap, cur, h2, hb', hg, _⟩⟩ := h
  · rw [h2] at hb; cases hb
  · rw [h2] at hb
    cases hb
    exact ⟨cur, hg⟩

theorem setA_enc (A : List (Int × Asked)) (a : Int) (x : Asked) (h : ∀ q ∈ A, q.1 = a → q.2.blk = x.blk) : encW (setA A a x) = encW A := by
  unfold encW setA
  rw [List.map_map]
  apply List.map_congr_left
  intro q hq
  simp only [Function.comp]
  split
  · rw [h q hq (by assumption)]
  · rfl
theorem setA_blks (A : List (Int × Asked)) (a : Int) (x : Asked) (h : ∀ q ∈ A, q.1 = a → q.2.blk = x.blk) : (setA A a x).map (·.2.blk) = A.map (·.2.blk) := by
  unfold setA
  rw [List.map_map]
  apply List.map_congr_left
  intro q hq
  simp only [Function.comp]
  split
  · rw [h q hq (by assumption)]
  · rfl
theorem mem_setA {A : List (Int × Asked)} {a : Int} {x : Asked} {q : Int × Asked} (h : q ∈ setA A a x) : (q ∈ A ∧ q.1 ≠ a) ∨ (q = (a, x) ∧ ∃ y, (a, y) ∈ A) := by
  unfold setA at h
  obtain ⟨p, hp, rfl⟩ := List.mem_map.1 h
  by_cases e : p.1 = a
  · rw [if_pos e]
    exact .inr ⟨by rw [e], p.2, by rw [← e]; exact hp⟩
  · rw [if_neg e]
    exact .inl ⟨hp, e⟩

theorem NAt.keysA {w : World} {g c d : Nat} {s : NS} (h : NAt w g c d s) : (s.A.map Prod.fst).Nodup := by
  have := h.amap.keys
  unfold encW at this
  rw [List.map_map] at this
  exact this
theorem NAt.same {w : World} {g c d : Nat} {s : NS} (h : NAt w g c d s) {p q : Int × Asked} (hp : p ∈ s.A) (hq : q ∈ s.A) (e : p.1 = q.1) : p = q := inj_nodup _ h.keysA hp hq e

theorem NAt.turn {w w' : World} {g c d : Nat} {s : NS} (h : NAt w g c d s) {a : Int} {x x' : Asked} (hx : (a, x) ∈ s.A) (hb : x'.blk = x.blk)
    (hk : Only (fun k => k = x.blk ∨ some k = x.ws.ownBlock) w w') (hc : w'.heap[x.blk]? = some (.cells #[.int .i64 x'.at_, .bool x'.twice, x'.ws] 71 (0, 0)))
    (hr : w'.ownsRow 0 47 10 x'.ws x'.L.length (pks a x'.L)) (hn : ∀ b, x'.ws.ownBlock = some b → x.ws.ownBlock = some b ∨ w.heap.size ≤ b) : NAt w' g c d { s with A := setA s.A a x' } := by
  have hsame : ∀ q ∈ s.A, q.1 = a → q = (a, x) := fun q hq e => h.same hq hx e
  have hbl : ∀ q ∈ s.A, q.1 = a → q.2.blk = x'.blk := fun q hq e => by rw [hsame q hq e, hb]
  have hax := h.ask _ hx
  simp only at hax
  have hrx := h.row _ hx
  simp only at hrx
  have hnot : ∀ b cs (T : TypeId), w.heap[b]? = some (.cells cs T (0, 0)) → T ≠ 71 → T ≠ 47 → ¬ (b = x.blk ∨ some b = x.ws.ownBlock) := by
    rintro b cs T hbb h1 h2 (rfl | e)
    · exact cells_ne hbb hax h1 rfl
    · obtain ⟨cur, h3⟩ := row_blk hrx e.symm
      exact cells_ne hbb h3 h2 rfl
  have hnmap : ∀ b l, MapI w b l → ¬ (b = x.blk ∨ some b = x.ws.ownBlock) := by
    rintro b l hm (rfl | e)
    · exact map_ne hax hm rfl
    · obtain ⟨cur, h3⟩ := row_blk hrx e.symm
      exact map_ne h3 hm rfl
  have hnask : ∀ q ∈ s.A, q.1 ≠ a → ¬ (q.2.blk = x.blk ∨ some q.2.blk = x.ws.ownBlock) := by
    rintro q hq hqa (e | e)
    · exact hqa (congrArg Prod.fst (inj_nodup (fun p : Int × Asked => p.2.blk) h.one hq hx e))
    · obtain ⟨cur, h3⟩ := row_blk hrx e.symm
      exact cells_ne (h.ask q hq) h3 (by decide) rfl
  have hnrow : ∀ q ∈ s.A, q.1 ≠ a → ∀ b, q.2.ws.ownBlock = some b → ¬ (b = x.blk ∨ some b = x.ws.ownBlock) := by
    rintro q hq hqa b hqb (e | e)
    · obtain ⟨cur, h3⟩ := row_blk (h.row q hq) hqb
      subst e
      exact cells_ne h3 hax (by decide) rfl
    · exact hqa (congrArg Prod.fst (h.two q hq _ hx b hqb e.symm))
  have hold : ∀ q ∈ s.A, ∀ b, q.2.ws.ownBlock = some b → b < w.heap.size := by
    intro q hq b hqb
    obtain ⟨cur, h3⟩ := row_blk (h.row q hq) hqb
    exact heap_lt h3
  refine ⟨hk.at h.cell (hnot _ _ _ h.cell (by decide) (by decide)), h.kmap.only hk (hnmap _ _ h.kmap), ?_, ⟨fun e => ?_, h.own.no⟩, fun q hq => ?_, fun q hq => ?_, h.dis, ?_, ?_⟩
  · rw [setA_enc s.A a x' hbl]
    exact h.amap.only hk (hnmap _ _ h.amap)
  · obtain ⟨b, cap, cur, e1, e2, e3, e4⟩ := h.own.yes e
    exact ⟨b, cap, cur, e1, e2, hk.at e3 (hnot _ _ _ e3 (by decide) (by decide)), e4⟩
  · rcases mem_setA hq with ⟨hq, hqa⟩ | ⟨rfl, _⟩
    · exact hk.at (h.ask q hq) (hnask q hq hqa)
    · simp only; rw [hb]; exact hc
  · rcases mem_setA hq with ⟨hq, hqa⟩ | ⟨rfl, _⟩
    · exact row_only (h.row q hq) hk (hnrow q hq hqa)
    · exact hr
  · show ((setA s.A a x').map (·.2.blk)).Nodup
    rw [setA_blks s.A a x' hbl]; exact h.one
  · intro p hp q hq b h1 h2
    have hp' : p ∈ setA s.A a x' := hp
    have hq' : q ∈ setA s.A a x' := hq
    rcases mem_setA hp' with ⟨hp, hpa⟩ | ⟨rfl, _⟩
    · rcases mem_setA hq' with ⟨hq, hqa⟩ | ⟨rfl, _⟩
      · exact h.two p hp q hq b h1 h2
      · exfalso
        rcases hn b h2 with e | e
        · exact hpa (congrArg Prod.fst (h.two p hp _ hx b h1 e))
        · have := hold p hp b h1; omega
    · rcases mem_setA hq' with ⟨hq, hqa⟩ | ⟨rfl, _⟩
      · exfalso
        rcases hn b h1 with e | e
        · exact hqa (congrArg Prod.fst (h.two q hq _ hx b h2 e))
        · have := hold q hq b h2; omega
      · rfl

/-- The blocks behind a turn. -/
theorem NFoot.turn {g c d : Nat} {s : NS} {a : Int} {x x' : Asked} (hx : (a, x) ∈ s.A) (hb : x'.blk = x.blk) {S : Nat → Prop} (hn : ∀ b, x'.ws.ownBlock = some b → x.ws.ownBlock = some b ∨ S b) {k : Nat} (h : NFoot g c d { s with A := setA s.A a x' } k) : NFoot g c d s k ∨ S k := by
  rcases h with h | h | h | h | ⟨p, hp, h⟩
  · exact .inl (.inl h)
  · exact .inl (.inr (.inl h))
  · exact .inl (.inr (.inr (.inl h)))
  · exact .inl (.inr (.inr (.inr (.inl h))))
  · have hp' : p ∈ setA s.A a x' := hp
    rcases mem_setA hp' with ⟨hp, hpa⟩ | ⟨rfl, _⟩
    · exact .inl (.inr (.inr (.inr (.inr ⟨p, hp, h⟩))))
    · rcases h with h | h
      · exact .inl (.inr (.inr (.inr (.inr ⟨_, hx, .inl (by rw [h]; exact hb)⟩))))
      · rcases hn k h with h | h
        · exact .inl (.inr (.inr (.inr (.inr ⟨_, hx, .inr h⟩))))
        · exact .inr h

/-- One more is asked for. -/
theorem NAt.more {w w' : World} {g c d : Nat} {s : NS} (h : NAt w g c d s) {a : Int} {x : Asked} (hk : Only (fun k => k = d) w w') (hm : MapI w' d (encW (s.A ++ [(a, x)])))
    (hc : w.heap[x.blk]? = some (.cells #[.int .i64 x.at_, .bool x.twice, x.ws] 71 (0, 0))) (hn : ∀ q ∈ s.A, q.2.blk ≠ x.blk) (hw : x.ws = .slice none 0 0) (hL : x.L = []) : NAt w' g c d { s with A := s.A ++ [(a, x)] } := by
  have hcells : ∀ b cs (T : TypeId), w.heap[b]? = some (.cells cs T (0, 0)) → b ≠ d := fun b cs T hb => map_ne hb h.amap
  refine ⟨hk.at h.cell (hcells _ _ _ h.cell), h.kmap.only hk h.dis, hm, ⟨fun e => ?_, h.own.no⟩, fun p hp => ?_, fun p hp => ?_, h.dis, ?_, ?_⟩
  · obtain ⟨b, cap, cur, e1, e2, e3, e4⟩ := h.own.yes e
    exact ⟨b, cap, cur, e1, e2, hk.at e3 (hcells _ _ _ e3), e4⟩
  · rcases List.mem_append.1 hp with hp | hp
    · exact hk.at (h.ask p hp) (hcells _ _ _ (h.ask p hp))
    · rw [List.mem_singleton.1 hp]; exact hk.at hc (hcells _ _ _ hc)
  · rcases List.mem_append.1 hp with hp | hp
    · exact row_only (h.row p hp) hk fun b hb => by
        obtain ⟨cur, h3⟩ := row_blk (h.row p hp) hb
        exact hcells _ _ _ h3
    · rw [List.mem_singleton.1 hp]
      simp only
      rw [hw, hL]
      exact ⟨by simp [pks], .inl ⟨rfl, rfl⟩⟩
  · show ((s.A ++ [(a, x)]).map (·.2.blk)).Nodup
    rw [List.map_append, List.nodup_append]
    refine ⟨h.one, by simp, fun b hb b' hb' => ?_⟩
    obtain ⟨q, hq, rfl⟩ := List.mem_map.1 hb
    rw [List.map_singleton, List.mem_singleton] at hb'
    rw [hb']; exact hn q hq
  · intro p hp q hq b h1 h2
    rcases List.mem_append.1 hp with hp | hp
    · rcases List.mem_append.1 hq with hq | hq
      · exact h.two p hp q hq b h1 h2
      · rw [List.mem_singleton.1 hq] at h2
        simp only at h2
        rw [hw] at h2; cases h2
    · rw [List.mem_singleton.1 hp] at h1
      simp only at h1
      rw [hw] at h1; cases h1

/-- One less is asked for. -/
theorem NAt.less {w w' : World} {g c d : Nat} {s : NS} (h : NAt w g c d s) (a : Int) (hk : Only (fun k => k = d) w w') (hm : MapI w' d (delI (encW s.A) a)) : NAt w' g c d { s with A := delA s.A a } := by
  have hcells : ∀ b cs (T : TypeId), w.heap[b]? = some (.cells cs T (0, 0)) → b ≠ d := fun b cs T hb => map_ne hb h.amap
  have hmem : ∀ p ∈ delA s.A a, p ∈ s.A := fun p hp => (List.mem_filter.1 hp).1
  have henc : delI (encW s.A) a = encW (delA s.A a) := by
    unfold delI encW delA
    rw [List.filter_map]
    rfl
  refine ⟨hk.at h.cell (hcells _ _ _ h.cell), h.kmap.only hk h.dis, by rw [← henc]; exact hm, ⟨fun e => ?_, h.own.no⟩, fun p hp => ?_, fun p hp => ?_, h.dis, ?_, ?_⟩
  · obtain ⟨b, cap, cur, e1, e2, e3, e4⟩ := h.own.yes e
    exact ⟨b, cap, cur, e1, e2, hk.at e3 (hcells _ _ _ e3), e4⟩
  · exact hk.at (h.ask p (hmem p hp)) (hcells _ _ _ (h.ask p (hmem p hp)))
  · exact row_only (h.row p (hmem p hp)) hk fun b hb => by
      obtain ⟨cur, h3⟩ := row_blk (h.row p (hmem p hp)) hb
      exact hcells _ _ _ h3
  · exact (List.Sublist.map _ List.filter_sublist).nodup h.one
  · exact fun p hp q hq b h1 h2 => h.two p (hmem p hp) q (hmem q hq) b h1 h2

theorem NAt.foot_lt {w : World} {g c d : Nat} {s : NS} (h : NAt w g c d s) (hm : s.mine = true) : ∀ k, NFoot g c d s k → k < w.heap.size := by
  rintro k (rfl | rfl | rfl | hk | ⟨p, hp, hk⟩)
  · exact heap_lt h.cell
  · exact h.kmap.lt
  · exact h.amap.lt
  · obtain ⟨b, cap, cur, e1, e2, e3, e4⟩ := h.own.yes hm
    rw [e1] at hk
    cases hk
    exact heap_lt e3
  · rcases hk with rfl | hk
    · exact heap_lt (h.ask p hp)
    · obtain ⟨cur, h3⟩ := row_blk (h.row p hp) hk
      exact heap_lt h3

/-- A packet's block of its own, written. -/
theorem NAt.arp {w w' : World} {g c d : Nat} {s : NS} (h : NAt w g c d s) {b : Nat} {cs : Array Value} (hb : w.heap[b]? = some (.cells cs 31 (0, 0))) (hk : Only (fun k => k = b) w w') : NAt w' g c d s := by
  have hcells : ∀ k cs' (T : TypeId), w.heap[k]? = some (.cells cs' T (0, 0)) → T ≠ 31 → ¬ k = b := fun k cs' T hc hT => cells_ne hc hb hT
  refine ⟨hk.at h.cell (hcells _ _ _ h.cell (by decide)), h.kmap.only hk (fun e => map_ne hb h.kmap e.symm), h.amap.only hk (fun e => map_ne hb h.amap e.symm), ⟨fun e => ?_, h.own.no⟩, fun p hp => hk.at (h.ask p hp) (hcells _ _ _ (h.ask p hp) (by decide)), fun p hp => row_only (h.row p hp) hk fun k hq => ?_, h.dis, h.one, h.two⟩
  · obtain ⟨k, cap, cur, e1, e2, e3, e4⟩ := h.own.yes e
    exact ⟨k, cap, cur, e1, e2, hk.at e3 (hcells _ _ _ e3 (by decide)), e4⟩
  · obtain ⟨cur, h3⟩ := row_blk (h.row p hp) hq
    exact hcells _ _ _ h3 (by decide)

theorem pks_more (a : Int) (L : List Int) (i : Int) : pks a (L ++ [i]) = pks a L ++ pk a i := by simp [pks]
theorem setA_new {A : List (Int × Asked)} {a : Int} (x x' : Asked) (h : A.find? (fun p => p.1 == a) = none) : setA (A ++ [(a, x)]) a x' = A ++ [(a, x')] := by
  unfold setA
  rw [List.map_append]
  congr 1
  · refine (List.map_congr_left (g := id) fun q hq => ?_).trans (List.map_id _)
    have := List.find?_eq_none.1 h q hq
    rw [if_neg (by simpa using this)]; rfl
  · simp

theorem getI_encW (A : List (Int × Asked)) (a : Int) : getI (encW A) a = (A.find? (fun p => p.1 == a)).map (fun p => Value.pointer (some ⟨p.2.blk, 0, none⟩)) := by
  unfold getI encW
  rw [List.find?_map]
  cases h : List.find? ((fun p => p.1 == a) ∘ fun p : Int × Asked => (p.1, Value.pointer (some ⟨p.2.blk, 0, none⟩))) A with
  | none =>
    have : A.find? (fun p => p.1 == a) = none := h
    rw [this]; rfl
  | some p =>
    have : A.find? (fun p => p.1 == a) = some p := h
    rw [this]; rfl

theorem infoP : (Try.prog.info? 47).map (fun i => (i.zero, i.size, i.bytes)) = some (some (.agg #[.int .i64 0, .int .i64 0, .int .i64 0, .int .i64 0, .int .i64 0, .int .i64 0, .bool false, .bool false, .string ⟨#[]⟩, .string ⟨#[]⟩]), 10, 88) := by kernel_rfl

theorem append_pk (w : World) (ty : TypeId) (B : Nat) (dv : Value) (n : Nat) (xs : List Value) (hD : w.ownsRow B 47 10 dv n xs) (a : Addr) (m c : Nat) (news : List Value) (hl : news.length = m * 10) (hnews : ∀ j u, news[j]? = some u → w.cell? (a.add j) = some u) (h1 : ∀ u ∈ news, u.oneCell' = true) (hB : B ≤ w.heap.size) (hle : n + m ≤ 1000000) :
    ∃ v' w', (Builtin.append_ #[32, 32] ty #[dv, .slice (some a) m c]).run Try.prog w = .ok v' w' ∧ w'.ownsRow B 47 10 v' (n + m) (xs ++ news) ∧ w.grownBy w' dv.ownBlock ∧ (∀ b, v'.ownBlock = some b → dv.ownBlock = some b ∨ w.heap.size ≤ b) := by
  obtain ⟨i9, hi, hz0, hz1, hz2⟩ := info_parts infoP
  have hm : n + m ≤ maxLen := by simp only [maxLen]; omega
  have hby : (n + m) * 88 ≤ 140737488355328 := by omega
  obtain ⟨v', w', hr, h2, h3, _, h5⟩ := run_append_own_at (P := Try.prog) w B 32 ty 47 i9 _ 10 88 Try.underlying32 hi hz0 hz1 hz2 rfl (by decide) dv n xs hD a m c news hl hnews h1 hm hby hB
  refine ⟨v', w', hr, h2, h3, fun b hb => ?_⟩
  rcases h5 with e | e
  · exact .inl (by rw [← e]; exact hb)
  · rw [e] at hb; cases hb; exact .inr (Nat.le_refl _)

theorem ncontains_is (w : World) (v : Value) (mine : Bool) (t : Int) (b : Bool) (h : OwnAt w v mine) (hb : (mine && decide (t = 10)) = b) :
    Calls Try.prog 23 #[v, .int .i64 t] w fun e w' => e = .returned (.bool b) ∧ Only (fun _ => False) w w' := by
  refine (ncontains w v mine t h).mono ?_
  rintro e w' ⟨rfl, rfl⟩
  rw [hb]
  exact ⟨rfl, Only.refl _ _⟩

end Go.Proofs.Ythgkdfllddljcaa

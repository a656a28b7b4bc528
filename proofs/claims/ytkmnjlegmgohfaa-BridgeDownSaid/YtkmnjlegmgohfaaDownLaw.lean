/-
  The plain law of BridgeDown.
  No conditions.
-/
import Derived.Test.YtkmnjlegmgohfaaBridgeDownFn
import Derived.Test.YtkmnjlegmgohfaaKnownFn
import Derived.Test.YtkmnjlegmgohfaaRoadsLaw
import Derived.Test.YtkmnjlegmgohfaaLaw10
set_option linter.unusedVariables false
set_option linter.unusedSimpArgs false
namespace Go.Proofs.Ytkmnjlegmgohfaa
open Go.RowKit

structure RD (k : Nat) (s : BS) : Prop where
  ok : BOk s
  ag : s.age = 1000
  rm : s.room = 200
  po : s.ports = 4
  nw : s.now ≤ k
  nd : (s.L.map Prod.fst).Nodup
  len : s.L.length ≤ k
  rng : ∀ p ∈ s.L, 0 ≤ p.1 ∧ p.1 ≤ 281474976710655

theorem RD.new : RD 0 ⟨4, 1000, 200, 0, []⟩ :=
  ⟨BOk.new (by omega) (by omega) (by omega) (by omega) (by omega) (by omega), rfl, rfl, rfl, by show (0 : Int) ≤ _; omega, List.nodup_nil, Nat.le_refl _, fun p hp => (by cases hp)⟩

theorem RD.bad {k : Nat} {s : BS} (h : RD k s) : RD (k + 1) s := ⟨h.ok, h.ag, h.rm, h.po, by have := h.nw; omega, h.nd, by have := h.len; omega, h.rng⟩

theorem RD.good {k : Nat} {s : BS} (h : RD k s) (hk : k < 40) {f p : Int} (hf : 0 ≤ f ∧ f ≤ 281474976710655) : RD (k + 1) (s.took f p k) := by
  have hlen := h.len
  have hroom : (s.L.length : Int) < s.room := by rw [h.rm]; omega
  have hL := took_L (f := f) (p := p) (now := (k : Int)) hroom
  have hnw := h.nw
  refine ⟨h.ok.took f p hnw (by omega), h.ag, h.rm, h.po, by show (k : Int) ≤ _; omega, ?_, ?_, ?_⟩
  · rw [hL, List.map_append, List.nodup_append]
    refine ⟨h.nd.sublist ((List.filter_sublist).map _), by simp, ?_⟩
    intro a ha b hb e
    simp only [List.map_cons, List.map_nil, List.mem_singleton] at hb
    obtain ⟨y, hy, rfl⟩ := List.mem_map.1 ha
    have := (List.mem_filter.1 hy).2
    unfold keepH at this
    simp only [Bool.and_eq_true, bne_iff_ne] at this
    exact this.1 (e.trans hb)
  · rw [hL, List.length_append]
    have := List.length_filter_le (keepH f s.age k) s.L
    simp only [List.length_cons, List.length_nil]
    omega
  · intro q hq
    rw [hL] at hq
    rcases List.mem_append.1 hq with h1 | h1
    · exact h.rng q (List.mem_filter.1 h1).1
    · simp only [List.mem_singleton] at h1; subst h1; exact hf

def BS.portOf (s : BS) (a : Int) : Int := ((lookH s.L a).getD (0, 0)).1

theorem lookH_of_mem : ∀ {L : List (Int × Int × Int)}, (L.map Prod.fst).Nodup → ∀ {p}, p ∈ L → lookH L p.1 = some p.2
  | q :: L, hn, p, hp => by
    rw [List.map_cons, List.nodup_cons] at hn
    rcases List.mem_cons.1 hp with rfl | h
    · unfold lookH; simp
    · have hne : q.1 ≠ p.1 := fun e => hn.1 (by rw [e]; exact List.mem_map_of_mem h)
      have ih := lookH_of_mem hn.2 h
      unfold lookH at ih ⊢
      rw [List.find?_cons_of_neg (by simpa using hne)]
      exact ih

theorem keysUp_mem {L : List (Int × Int × Int)} {a : Int} : a ∈ keysUp (encH L) ↔ ∃ h, (a, h) ∈ L := by
  unfold keysUp
  rw [List.mem_mergeSort]
  unfold encH
  rw [List.map_map]
  constructor
  · intro h
    obtain ⟨p, hp, rfl⟩ := List.mem_map.1 h
    exact ⟨p.2, hp⟩
  · rintro ⟨h, hm⟩
    exact List.mem_map.2 ⟨(a, h), hm, rfl⟩

theorem not_gone {s : BS} (ho : BOk s) (ha : s.age = 1000) (x : Int) : s.gone 50 x = false := by
  unfold BS.gone
  have h1 : 0 ≤ ((lookH s.L x).getD (0, 0)).2 := by
    cases hl : lookH s.L x with
    | none => show (0 : Int) ≤ 0; omega
    | some q => exact (ho.at0 _ (lookH_mem hl)).1
  rw [ha]; simp; omega

theorem known_all {s : BS} (ho : BOk s) (ha : s.age = 1000) : s.known 50 = keysUp (encH s.L) := by
  unfold BS.known
  exact List.filter_eq_self.2 (fun x _ => by rw [not_gone ho ha]; rfl)

theorem find_of {s : BS} (ho : BOk s) (ha : s.age = 1000) {a : Int} {h : Int × Int} (hl : lookH s.L a = some h) : s.find a 50 = some h.1 := by
  unfold BS.find
  rw [hl]
  have := (ho.at0 _ (lookH_mem hl)).1
  simp only [ha]
  rw [if_neg (by simp only at this; omega)]

theorem BOk.down {s : BS} (h : BOk s) (p : Int) : BOk (s.down p) :=
  ⟨h.p1, h.p2, h.a1, h.a2, h.r1, h.r2, h.n1, h.n2, fun q hq => h.at0 q (List.mem_filter.1 hq).1⟩

/-- What is known, and behind a port that went down. -/
theorem RD.asked {k : Nat} {s : BS} (h : RD k s) (port : Int) {a : Int} (hm : a ∈ s.known 50) :
    s.find a 50 = some (s.portOf a) ∧ (s.down port).find a 50 = if s.portOf a = port then none else some (s.portOf a) := by
  rw [known_all h.ok h.ag] at hm
  obtain ⟨q, hq⟩ := keysUp_mem.1 hm
  have hl := lookH_of_mem h.nd hq
  have hp : s.portOf a = q.1 := by unfold BS.portOf; rw [hl]; rfl
  rw [hp]
  refine ⟨find_of h.ok h.ag hl, ?_⟩
  by_cases he : q.1 = port
  · rw [if_pos he]
    unfold BS.find
    cases hd : lookH (s.down port).L a with
    | none => rfl
    | some r =>
      have h1 := lookH_mem hd
      have h2 := (List.mem_filter.1 h1)
      have h3 := lookH_of_mem h.nd h2.1
      rw [hl] at h3
      cases h3
      simp [he] at h2
  · rw [if_neg he]
    have hmem : (a, q) ∈ (s.down port).L := List.mem_filter.2 ⟨hq, by simpa using he⟩
    have hnd : ((s.down port).L.map Prod.fst).Nodup := h.nd.sublist ((List.filter_sublist).map _)
    exact find_of (h.ok.down port) h.ag (lookH_of_mem hnd hmem)

theorem RD.count {k : Nat} {s : BS} (h : RD k s) (port : Int) : (s.known 50).countP (fun a => s.portOf a != port) = ((s.down port).known 50).length := by
  rw [known_all h.ok h.ag, known_all (h.ok.down port) h.ag]
  have hperm : (keysUp (encH s.L)).Perm ((encH s.L).map Prod.fst) := List.mergeSort_perm _ _
  rw [hperm.countP_eq]
  have e1 : (encH s.L).map Prod.fst = s.L.map Prod.fst := by unfold encH; rw [List.map_map]; rfl
  rw [e1, List.countP_map]
  have e2 : (keysUp (encH (s.down port).L)).length = (s.down port).L.length := by unfold keysUp encH; simp
  rw [e2]
  show _ = (s.L.filter (fun p => p.2.1 != port)).length
  rw [← List.countP_eq_length_filter]
  apply List.countP_congr
  intro p hp
  have : s.portOf p.1 = p.2.1 := by unfold BS.portOf; rw [lookH_of_mem h.nd hp]; rfl
  simp [Function.comp, this]

end Go.Proofs.Ytkmnjlegmgohfaa

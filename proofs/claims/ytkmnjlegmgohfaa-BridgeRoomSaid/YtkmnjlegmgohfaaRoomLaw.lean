/-
  The plain law of BridgeRoom.
  No conditions.
-/
import Derived.Test.YtkmnjlegmgohfaaKnownFn
import Derived.Test.YtkmnjlegmgohfaaRoadsLaw
import Derived.Test.YtkmnjlegmgohfaaLaw10
set_option linter.unusedVariables false
set_option linter.unusedSimpArgs false
namespace Go.Proofs.Ytkmnjlegmgohfaa
open Go.RowKit

theorem filter_key_length (f : Int) : ∀ L : List (Int × Int × Int), (L.map Prod.fst).Nodup → (L.filter (fun p => p.1 != f)).length + (if (lookH L f).isSome then 1 else 0) = L.length
  | [], _ => by simp [lookH]
  | p :: L, hn => by
    rw [List.map_cons, List.nodup_cons] at hn
    have ih := filter_key_length f L hn.2
    by_cases hx : p.1 = f
    · have hnone : lookH L f = none := by
        cases hl : lookH L f with
        | none => rfl
        | some q => exact absurd (List.mem_map_of_mem (f := Prod.fst) (lookH_mem hl)) (by rw [← hx]; exact hn.1)
      have h1 : lookH (p :: L) f = some p.2 := by unfold lookH; simp [hx]
      rw [hnone] at ih
      rw [h1, List.filter_cons_of_neg (by simp [hx])]
      simp at ih ⊢
      omega
    · have h1 : lookH (p :: L) f = lookH L f := by unfold lookH; simp [hx]
      rw [h1, List.filter_cons_of_pos (by simpa using hx)]
      simp only [List.length_cons]
      omega

theorem putI_length (l : List (Int × Value)) (x : Int) (v : Value) : (putI l x v).length = l.length + (if (getI l x).isSome then 0 else 1) := by
  unfold putI
  split <;> simp

structure RM (k : Nat) (s : BS) (K : List (Int × Value)) (room : Int) : Prop where
  ok : BOk s
  ag : s.age = 1000
  rm : s.room = room
  po : s.ports = 2
  nw : s.now ≤ k
  nd : (s.L.map Prod.fst).Nodup
  dom : ∀ x, (lookH s.L x).isSome = (getI K x).isSome
  val : ∀ x v, getI K x = some v → v = .bool true
  len : s.L.length = K.length
  le : (K.length : Int) ≤ room
  keys : ∀ p ∈ s.L, 0 ≤ p.1 ∧ p.1 < 20

def roomPut (K : List (Int × Value)) (room f : Int) : List (Int × Value) := if (K.length : Int) < room then putI K f (.bool true) else K

theorem RM.step {k : Nat} {s : BS} {K : List (Int × Value)} {room : Int} (h : RM k s K room) (hk : k < 60) (h0 : 1 ≤ room) (h6 : room ≤ 6) {f p : Int} (f0 : 0 ≤ f) (f1 : f < 20) :
    RM (k + 1) (s.took f p k) (roomPut K room f) room ∧ (s.took f p k).find f k = (if (getI (roomPut K room f) f).isSome then some p else none) ∧ ((s.took f p k).known k).length = (roomPut K room f).length := by
  have n1 := h.ok.n1
  have hnw := h.nw
  have hkeep : s.L.filter (keepH f s.age k) = s.L.filter (fun q => q.1 != f) := by
    apply List.filter_congr
    intro q hq
    have := h.ok.at0 q hq
    unfold keepH
    rw [h.ag]
    have : decide ((k : Int) < q.2.2 + 1000) = true := by simp; omega
    rw [this, Bool.and_true]
  have hlenf := filter_key_length f s.L h.nd
  have hdomf := h.dom f
  have hLeq : (s.took f p k).L = if ((s.L.filter (fun q => q.1 != f)).length : Int) < room then s.L.filter (fun q => q.1 != f) ++ [(f, p, (k : Int))] else s.L.filter (fun q => q.1 != f) := by
    show (if ((s.L.filter (keepH f s.age k)).length : Int) < s.room then s.L.filter (keepH f s.age k) ++ [(f, p, (k : Int))] else s.L.filter (keepH f s.age k)) = _
    rw [hkeep, h.rm]
  have hlk : ∀ x, lookH (s.L.filter (fun q => q.1 != f)) x = if x = f then none else lookH s.L x := by
    intro x
    rw [← hkeep]
    cases hl : lookH (s.L.filter (keepH f s.age k)) x with
    | some q =>
      have := (lookH_filter f s.age k x s.L h.nd q).1 hl
      rw [if_neg this.2.1, this.1]
    | none =>
      by_cases hx : x = f
      · rw [if_pos hx]
      · rw [if_neg hx]
        cases hl2 : lookH s.L x with
        | none => rfl
        | some q =>
          have h2 := h.ok.at0 _ (lookH_mem hl2)
          have h3 := (lookH_filter f s.age k x s.L h.nd q).2 ⟨hl2, hx, by rw [h.ag]; simp only at h2; omega⟩
          rw [hl] at h3; cases h3
  have hokT := h.ok.took f p (now := (k : Int)) hnw (by omega)
  have hlen := h.len
  have hle := h.le
  have hMn : ((s.L.filter (fun q => q.1 != f)).map Prod.fst).Nodup := h.nd.sublist ((List.filter_sublist).map _)
  have hMf : ∀ q ∈ s.L.filter (fun q => q.1 != f), q.1 ≠ f := fun q hq => by have := (List.mem_filter.1 hq).2; simpa using this
  generalize hM : s.L.filter (fun q => q.1 != f) = M at hlenf hLeq hlk hMn hMf
  have hMk : ∀ q ∈ M, 0 ≤ q.1 ∧ q.1 < 20 := fun q hq => h.keys q (by rw [← hM] at hq; exact (List.mem_filter.1 hq).1)
  -- what the two hold now
  have main : (s.took f p k).L.length = (roomPut K room f).length ∧ ((s.took f p k).L.map Prod.fst).Nodup ∧ (∀ x, (lookH (s.took f p k).L x).isSome = (getI (roomPut K room f) x).isSome) ∧ (∀ x v, getI (roomPut K room f) x = some v → v = .bool true) ∧ ((roomPut K room f).length : Int) ≤ room ∧ (∀ q ∈ (s.took f p k).L, 0 ≤ q.1 ∧ q.1 < 20) ∧ lookH (s.took f p k).L f = (if (getI (roomPut K room f) f).isSome then some (p, (k : Int)) else none) := by
    rw [hLeq]
    by_cases hr : ((M.length : Int)) < room
    · rw [if_pos hr]
      have hnd : ((M ++ [(f, p, (k : Int))]).map Prod.fst).Nodup := by
        rw [List.map_append, List.nodup_append]
        refine ⟨hMn, by simp, ?_⟩
        intro a ha b hb e
        simp only [List.map_cons, List.map_nil, List.mem_singleton] at hb
        obtain ⟨y, hy, rfl⟩ := List.mem_map.1 ha
        exact hMf y hy (e.trans hb)
      have hlook : ∀ x, lookH (M ++ [(f, p, (k : Int))]) x = if x = f then some (p, (k : Int)) else lookH s.L x := by
        intro x
        rw [lookH_append, hlk x]
        by_cases hx : x = f
        · simp [hx]
        · simp only [hx, if_false]
          cases lookH s.L x <;> rfl
      have hkey : ∀ q ∈ M ++ [(f, p, (k : Int))], 0 ≤ q.1 ∧ q.1 < 20 := fun q hq => by
        rcases List.mem_append.1 hq with h1 | h1
        · exact hMk q h1
        · simp only [List.mem_singleton] at h1; subst h1; exact ⟨f0, f1⟩
      by_cases hKr : (K.length : Int) < room
      · have e : roomPut K room f = putI K f (.bool true) := if_pos hKr
        rw [e]
        refine ⟨?_, hnd, fun x => ?_, fun x v hv => ?_, ?_, hkey, ?_⟩
        · rw [putI_length, List.length_append, ← hdomf]
          simp only [List.length_cons, List.length_nil]
          split at hlenf <;> rename_i hs <;> simp [hs] <;> omega
        · rw [hlook, getI_putI]
          split
          · rfl
          · exact h.dom x
        · rw [getI_putI] at hv
          split at hv
          · cases hv; rfl
          · exact h.val x v hv
        · rw [putI_length]; split <;> omega
        · rw [hlook, getI_putI]; simp
      · have e : roomPut K room f = K := if_neg hKr
        rw [e]
        have hin : (lookH s.L f).isSome = true := by
          cases hs : (lookH s.L f).isSome with
          | true => rfl
          | false => rw [hs] at hlenf; simp at hlenf; omega
        have hinK : (getI K f).isSome = true := by rw [← hdomf]; exact hin
        refine ⟨?_, hnd, fun x => ?_, h.val, h.le, hkey, ?_⟩
        · rw [hin] at hlenf
          rw [List.length_append]
          simp at hlenf ⊢
          omega
        · rw [hlook]
          split
          · rename_i hx; rw [hx, hinK]; rfl
          · exact h.dom x
        · rw [hlook, if_pos rfl, hinK]; rfl
    · rw [if_neg hr]
      have hout : (lookH s.L f).isSome = false := by
        cases hs : (lookH s.L f).isSome with
        | false => rfl
        | true => rw [hs] at hlenf; simp at hlenf; omega
      have hKr : ¬ (K.length : Int) < room := by rw [hout] at hlenf; simp at hlenf; omega
      have e : roomPut K room f = K := if_neg hKr
      rw [e]
      have houtK : (getI K f).isSome = false := by rw [← hdomf]; exact hout
      refine ⟨?_, hMn, fun x => ?_, h.val, h.le, hMk, ?_⟩
      · rw [hout] at hlenf; simp at hlenf; omega
      · rw [hlk]
        split
        · rename_i hx; rw [hx, houtK]; rfl
        · exact h.dom x
      · rw [hlk, if_pos rfl, houtK]; rfl
  obtain ⟨m1, m2, m3, m4, m5, m6, m7⟩ := main
  refine ⟨⟨hokT, h.ag, h.rm, h.po, by show (k : Int) ≤ _; omega, m2, m3, m4, m1, m5, m6⟩, ?_, ?_⟩
  · unfold BS.find
    rw [m7]
    have h2 : (s.took f p k).age = 1000 := h.ag
    cases hs : (getI (roomPut K room f) f).isSome with
    | true =>
      simp only [if_true, h2]
      rw [if_neg (by omega)]
    | false => rfl
  · rw [← m1]
    unfold BS.known
    have hall : (keysUp (encH (s.took f p k).L)).filter (fun x => !(s.took f p k).gone k x) = keysUp (encH (s.took f p k).L) := by
      apply List.filter_eq_self.2
      intro x hx
      unfold BS.gone
      have h1 : 0 ≤ ((lookH (s.took f p k).L x).getD (0, 0)).2 := by
        cases hl : lookH (s.took f p k).L x with
        | none => show (0 : Int) ≤ 0; omega
        | some q => exact (hokT.at0 _ (lookH_mem hl)).1
      have h2 : (s.took f p k).age = 1000 := h.ag
      rw [h2]
      simp
      omega
    rw [hall]
    unfold keysUp encH
    simp

theorem RM.new (room : Int) (h0 : 1 ≤ room) (h6 : room ≤ 6) : RM 0 ⟨2, 1000, room, 0, []⟩ [] room :=
  ⟨⟨by show (1 : Int) ≤ 2; omega, by show (2 : Int) ≤ 16; omega, by show (1 : Int) ≤ 1000; omega, by show (1000 : Int) ≤ _; omega, h0, by show room ≤ 1024; omega, by show (0 : Int) ≤ 0; omega, by show (0 : Int) ≤ _; omega, fun q hq => (by cases hq)⟩,
   rfl, rfl, rfl, by show (0 : Int) ≤ _; omega, List.nodup_nil, fun x => rfl, fun x v hv => (by cases hv), rfl, by show (0 : Int) ≤ room; omega, fun p hp => (by cases hp)⟩

end Go.Proofs.Ytkmnjlegmgohfaa

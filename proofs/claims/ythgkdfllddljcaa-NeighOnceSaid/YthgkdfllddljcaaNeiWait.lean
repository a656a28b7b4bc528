/-
  The contract of waiting of package neigh.
  Conditions: numbers are of the kind int, fewer than 2^40 packets wait.
-/
import Derived.Test.YthgkdfllddljcaaNei
set_option linter.unusedVariables false
set_option linter.unusedSimpArgs false
namespace Go.Proofs.Ythgkdfllddljcaa
open Go.RowKit

theorem perm_del : ∀ {l : List (Int × Value)} {x : Int} {v : Value}, (l.map Prod.fst).Nodup → (x, v) ∈ l → l.Perm ((x, v) :: delI l x)
  | [], _, _, _, h => by cases h
  | p :: l, x, v, hn, h => by
    rw [List.map_cons, List.nodup_cons] at hn
    by_cases hp : p.1 = x
    · have e : p = (x, v) := by
        rcases List.mem_cons.1 h with h1 | h1
        · exact h1.symm
        · exact absurd (List.mem_map_of_mem (f := Prod.fst) h1) (by simp only; rw [← hp]; exact hn.1)
      have hd : delI (p :: l) x = l := by
        unfold delI
        rw [List.filter_cons_of_neg (by simp [hp])]
        apply List.filter_eq_self.2
        intro q hq
        have : q.1 ≠ x := fun e => hn.1 (by rw [hp, ← e]; exact List.mem_map_of_mem hq)
        simpa using this
      rw [hd, e]
    · have h1 : (x, v) ∈ l := by
        rcases List.mem_cons.1 h with h1 | h1
        · exact absurd (congrArg Prod.fst h1).symm hp
        · exact h1
      have hd : delI (p :: l) x = p :: delI l x := by
        unfold delI
        rw [List.filter_cons_of_pos (by simpa using hp)]
      rw [hd]
      exact ((perm_del hn.2 h1).cons p).trans (List.Perm.swap _ _ _)

theorem RangeI.left_nodup {w : World} {b r : Nat} {l left : List (Int × Value)} (h : RangeI w b r l left) : (left.map Prod.fst).Nodup := by
  obtain ⟨es, clock, seen, _, _, F, hf, _⟩ := h
  have e1 := congrArg (List.map (fun q : Value × Value => RowKit.intOf q.1)) hf
  have e2 := congrArg (List.map (fun q : Value × Value => RowKit.intOf q.1)) F.map
  rw [List.map_map, List.map_map] at e1 e2
  have e1' : (es.toList.filter fun e => !seen.contains e.born).map kInt = left.map Prod.fst := e1
  have e2' : es.toList.map kInt = l.map Prod.fst := e2
  rw [← e1']
  refine (List.Sublist.map kInt List.filter_sublist).nodup ?_
  rw [e2']
  exact F.keys

/-- How many wait for the entry's neighbour. -/
def lenW (A : List (Int × Asked)) (q : Int × Value) : Nat := ((A.find? (fun p => p.1 == q.1)).map (fun p => p.2.L.length)).getD 0
def NS.waiting (s : NS) : Nat := (s.A.map (fun p => p.2.L.length)).sum

theorem lenW_of {A : List (Int × Asked)} (hn : (A.map Prod.fst).Nodup) {p : Int × Asked} (hp : p ∈ A) (v : Value) : lenW A (p.1, v) = p.2.L.length := by
  unfold lenW
  have : A.find? (fun q => q.1 == p.1) = some p := by
    induction A with
    | nil => cases hp
    | cons q A ih =>
      rw [List.map_cons, List.nodup_cons] at hn
      rcases List.mem_cons.1 hp with rfl | h
      · simp
      · have hne : q.1 ≠ p.1 := fun e => hn.1 (by rw [e]; exact List.mem_map_of_mem h)
        rw [List.find?_cons_of_neg (by simpa using hne)]
        exact ih hn.2 h
  rw [this]; rfl

theorem sum_del {A : List (Int × Asked)} {left : List (Int × Value)} {x : Int} {v : Value} (hn : (left.map Prod.fst).Nodup) (hx : (x, v) ∈ left) : (left.map (lenW A)).sum = lenW A (x, v) + ((delI left x).map (lenW A)).sum := by
  rw [((perm_del hn hx).map (lenW A)).sum_nat]
  simp

set_option maxHeartbeats 1000000 in
theorem waiting_any (w : World) (g c d : Nat) (s : NS) (h : NAt w g c d s) (hl : s.waiting ≤ 1099511627776) :
    Calls Try.prog 31 #[.pointer (some ⟨g, 0, none⟩)] w fun e w' => e = .returned (.int .i64 (s.waiting : Nat)) ∧ Only (fun _ => False) w w' := by
  have x8 := blk_cell h.cell 8
  simp only [NS.cells, List.getElem?_toArray, List.getElem?_cons_zero, List.getElem?_cons_succ] at x8
  have hm := h.amap
  have hks : (s.A.map Prod.fst).Nodup := by
    have := hm.keys
    unfold encW at this
    rw [List.map_map] at this
    exact this
  have htot : ((encW s.A).map (lenW s.A)).sum = s.waiting := by
    unfold NS.waiting encW
    rw [List.map_map]
    congr 1
    exact List.map_congr_left fun p hp => lenW_of hks hp _
  have hen : ∀ q ∈ encW s.A, ∃ b : Nat, q.2 = Value.pointer (some ⟨b, 0, none⟩) := by
    intro q hq
    obtain ⟨y, hy, rfl⟩ := List.mem_map.1 hq
    exact ⟨_, rfl⟩
  have hat : ∀ x b, (x, Value.pointer (some ⟨b, 0, none⟩)) ∈ encW s.A → ∃ a cap, w.cell? ⟨b, 2, none⟩ = some (.slice a (lenW s.A (x, Value.pointer (some ⟨b, 0, none⟩))) cap) ∧ b < w.heap.size := by
    intro x b hq
    obtain ⟨p, hp, he⟩ := List.mem_map.1 hq
    simp only [Prod.mk.injEq, Value.pointer.injEq, Option.some.injEq, Addr.mk.injEq, and_true] at he
    obtain ⟨rfl, rfl⟩ := he
    have hc := blk_cell (h.ask p hp) 2
    simp only [List.getElem?_toArray, List.getElem?_cons_zero, List.getElem?_cons_succ] at hc
    rw [lenW_of hks hp]
    obtain ⟨h1, ⟨h2, h3⟩ | ⟨b', cap, cur, h2, _⟩⟩ := h.row p hp
    · exact ⟨none, 0, by rw [hc, h2, h3], heap_lt (h.ask p hp)⟩
    · exact ⟨_, cap, by rw [hc, h2], heap_lt (h.ask p hp)⟩
  have HAT := Lib.hid hat
  have HT := Lib.hid htot
  have HL := Lib.hid hl
  clear h hl hat htot
  go_enter Try.func31, Try.ntmps31
  go_wp2_with (at_range; refine wpList_range_I _ rfl _ 61 rfl 3 69 und_amap d _ rfl hm ?_; intro w0 hr0 hk0 hz0)
  have hlt := hm.lt
  generalize hr : w.heap.size = r at hr0 ⊢
  have HR := Lib.hid hr
  clear hr hz0
  go_frame
  go_loopw [3] (fun nv wr => ∃ (n : Nat) (left : List (Int × Value)), nv = .int .i64 (n : Nat) ∧ RangeI wr d r (encW s.A) left ∧ (∀ q ∈ left, q ∈ encW s.A) ∧ n + (left.map (lenW s.A)).sum = s.waiting ∧ Only (fun k => k = r) w0 wr) (fun _ wr => leftN wr d r)
  case atStart => exact ⟨0, _, rfl, hr0, fun q h => h, by rw [Nat.zero_add]; exact HT.out, Only.refl _ _⟩
  case round =>
    obtain ⟨n, left, rfl, hrg, hsub, hsum, hO⟩ := hrel
    have HSUM := Lib.hid hsum
    have hle : (n : Int) ≤ 1099511627776 := by have := HL.out; omega
    clear hr0 hsum
    go_wp2_with (at_next; refine wpList_next_A _ (fun b : Nat => Value.pointer (some ⟨b, 0, none⟩)) rfl _ rfl d r _ _ rfl hrg (fun q hq => hen q (hsub q hq)) ?_ ?_)
    · intro hl
      subst hl
      have hn : n = s.waiting := by have := HSUM.out; simpa using this
      have hO2 : Only (fun _ => False) w wr := hk0.then hO (fun i hi e => by have := HR.out; omega)
      have HN := Lib.hid hn
      clear hn
      go_wp2_with fail
      go_ret
      exact ⟨by rw [HN.out]; rfl, hO2⟩
    · intro x b w1 hx hrg1 hk1 hz1 hent
      obtain ⟨a, cap, hc, hbl⟩ := HAT.out x b (hsub _ hx)
      have hs := sum_del (A := s.A) hrg.left_nodup hx
      have hlt1 := delI_length hx
      have hl0 := hrg.leftN_eq
      have hO1 : Only (fun k => k = r) w0 w1 := hO.trans hk1
      have hc1 := cell_only hO1 (by have := HR.out; show ¬ b = r; omega) (cell_only hk0 (fun h => h) hc)
      have hle2 : ((n + lenW s.A (x, Value.pointer (some ⟨b, 0, none⟩)) : Nat) : Int) ≤ 1099511627776 := by have := HL.out; have := HSUM.out; omega
      have hsum2 := HSUM.out
      rw [hs] at hsum2
      generalize lenW s.A (x, Value.pointer (some ⟨b, 0, none⟩)) = k at *
      have HS2 := Lib.hid hsum2
      clear hsum2 hs hc
      go_wp2_with fail
      go_roundw
      case rel => exact ⟨n + k, delI left x, by go_num, hrg1, fun q hq => hsub q (mem_delI hq), by have := HS2.out; omega, hO1⟩
      case measure => rw [hrg1.leftN_eq, hl0]; exact hlt1

end Go.Proofs.Ythgkdfllddljcaa

/-
  A slice of ints that came in, and the copy that is lent of it.
  Conditions: the slice is within the form's reach.
-/
import Derived.Test.YtcopdgaidfchlaaProg
import Derived.Test.YtcopdgaidfchlaaBase
import Derived.Test.YtcopdgaidfchlaaOpen
import Derived.Laws.AppendOwn
import Derived.Laws.AppendOwnNone
import Derived.Laws.BytesArg
set_option linter.unusedVariables false
set_option linter.unusedSimpArgs false
namespace Go.Proofs.Ytcopdgaidfchlaa
open Go.ChangeShapes Go.WideShapes Go.ChangeAt Go.RowKit Go.Deep

/-- A slice of such ints, in w. -/
structure IntsIn (w : World) (a : Option Addr) (n cap : Nat) (x : Nat → Int) : Prop where
  le : n ≤ cap
  nil0 : a = none → n = 0 ∧ cap = 0
  small : n * 8 ≤ reachB
  at_ : ∀ ad, a = some ad → ∀ i, i < n → w.cell? (ad.add i) = some (.int .i64 (x i))
  lt : ∀ ad, a = some ad → 0 < n → ad.block < w.heap.size ∧ ad.spot = none

theorem ints_of {w : World} {v : Value} {n : Nat} {f : Nat → List Value} (h : SlIs w [.i] v n f) : ∃ a cap x, v = .slice a n cap ∧ IntsIn w a n cap x := by
  obtain ⟨⟨a, cap, rfl, hle, hat⟩, hcells, hsmall, hnil, hwide⟩ := h
  have hx : ∀ i, i < n → ∃ y : Int, f i = [.int .i64 y] := fun i hi => by
    obtain ⟨y, l, e, _, h2⟩ := (hcells i hi).i
    obtain rfl := h2.nil
    exact ⟨y, e⟩
  obtain ⟨x, hx⟩ := choose_lt hx
  refine ⟨a, cap, x, rfl, hle, fun e => ?_, by have := hwide rfl; simpa using this, fun ad e i hi => ?_, fun ad e h0 => ?_⟩
  · subst e
    refine ⟨?_, hnil cap rfl⟩
    rcases Nat.eq_zero_or_pos n with h | h
    · exact h
    · obtain ⟨b, off, e, _⟩ := hat h
      cases e
  · obtain ⟨b, off, e', hlt, hc⟩ := hat (by omega)
    rw [e] at e'
    cases e'
    have := hc i hi 0 (by simp)
    rw [hx i hi] at this
    by_cases h0 : i = 0
    · subst h0; simpa [Addr.add] using this
    · simpa [Addr.add, h0] using this
  · obtain ⟨b, off, e', hlt, hc⟩ := hat h0
    rw [e] at e'
    cases e'
    exact ⟨hlt, rfl⟩

def valsOf (x : Nat → Int) (n : Nat) : List Value := (List.range n).map fun i => .int .i64 (x i)

theorem valsOf_length (x : Nat → Int) (n : Nat) : (valsOf x n).length = n := by simp [valsOf]

theorem info3 : (Try.prog.info? 3).map (fun i => (i.zero, i.size, i.bytes)) = some (some (.int .i64 0), 1, 8) := by kernel_rfl

theorem valsOf_get (x : Nat → Int) (n i : Nat) (h : i < n) : (valsOf x n)[i]? = some (.int .i64 (x i)) := by
  simp [valsOf, h]

set_option maxHeartbeats 1000000 in
theorem lend_any (w : World) (a : Option Addr) (n cap : Nat) (x : Nat → Int) (h : IntsIn w a n cap x) :
    Calls Try.prog 8 #[.slice a n cap] w fun e w' => ∃ g cap' cur, e = .returned (.slice (some ⟨g, 0, none⟩) n cap') ∧ w.heap.size ≤ g ∧ w'.heap[g]? = some (.cells cur 3 (0, 0)) ∧ n + 1 ≤ cap' ∧ cur.toList.take (n + 1) = valsOf x n ++ [.int .i64 (-77)] ∧ Only (fun _ => False) w w' := by
  obtain ⟨i0, hi, hz0, hz1, hz2⟩ := info_parts info3
  have hsm := h.small
  unfold reachB at hsm
  have hO0 := (Only.refl (fun _ => False) w).alloc (.cells #[] 3)
  have hown0 := World.ownsRow_made (base := w.heap.size) (e := 3) (size := 1) w #[] 0 (Nat.le_refl _) (by simp [maxLen]) rfl
  have fin : ∀ (v2 : Value) (w2 : World), w2.ownsRow w.heap.size 3 1 v2 (n + 1) (valsOf x n ++ [.int .i64 (-77)]) → ∃ g cap' cur, v2 = .slice (some ⟨g, 0, none⟩) (n + 1) cap' ∧ w.heap.size ≤ g ∧ w2.heap[g]? = some (.cells cur 3 (0, 0)) ∧ n + 1 ≤ cap' ∧ cur.toList.take (n + 1) = valsOf x n ++ [.int .i64 (-77)] := by
    intro v2 w2 h2
    obtain ⟨h1, ⟨_, h2⟩ | ⟨g, cap, cur, rfl, hb, hg, hc, hm, hs, ht⟩⟩ := h2
    · omega
    · exact ⟨g, cap, cur, rfl, hb, hg, hc, by rwa [Nat.mul_one] at ht⟩
  have FIN := Lib.hid fin
  clear fin
  cases a with
  | none =>
    obtain ⟨rfl, rfl⟩ := h.nil0 rfl
    clear h hsm
    have hcn := cell_one_new (w.alloc (.cells #[] 3)) (.int .i64 (-77)) 3
    rw [World.size_alloc] at hcn
    go_enter Try.func8, Try.ntmps8
    go_wp2_with (at_builtin; first
      | (refine wpList_append_own_none (w := w.alloc (.cells #[] 3)) rfl _ _ 24 rfl w.heap.size 3 i0 1 Try.underlying24 hi (.slice (some ⟨w.heap.size, 0, none⟩) 0 0) 0 [] rfl hown0 rfl ?_)
      | (refine wpList_append_own ((w.alloc (.cells #[] 3)).alloc (.cells #[.int .i64 (-77)] 3)) rfl _ _ 24 rfl w.heap.size 3 i0 (.int .i64 0) 1 8 Try.underlying24 hi hz0 hz1 hz2 rfl (by decide) (.slice (some ⟨w.heap.size, 0, none⟩) 0 0) 0 [] rfl (hown0.alloc _) ⟨w.heap.size + 1, 0, none⟩ 1 1 [.int .i64 (-77)] rfl rfl hcn (by simp [Value.oneCell']) (by simp [maxLen]) (by omega) (by rw [World.size_alloc, World.size_alloc]; omega) ?_; intro v2 w2 hown2 hg2 _; obtain ⟨g, cap', cur, rfl, hb, hg, hc, ht⟩ := FIN.out v2 w2 (by simpa [valsOf] using hown2)))
    go_wp2_with fail
    go_ret
    exact ⟨g, cap', cur, rfl, hb, hg, hc, ht, (hO0.alloc _).then (.of_grown hg2) (fun i hi e => by simp only [Value.ownBlock, Option.some.injEq] at e; omega)⟩
  | some ad =>
    go_enter Try.func8, Try.ntmps8
    have hnews : ∀ j u, (valsOf x n)[j]? = some u → (w.alloc (.cells #[] 3)).cell? (ad.add j) = some u := fun j u e => by
      have hj : j < n := by have := (List.getElem?_eq_some_iff.1 e).1; rwa [valsOf_length] at this
      rw [valsOf_get x n j hj] at e
      cases e
      exact cell_only ((Only.refl (fun _ => False) w).alloc _) (fun h => h) (h.at_ ad rfl j hj)
    go_wp2_with (at_builtin; first
      | (refine wpList_append_own (w.alloc (.cells #[] 3)) rfl _ _ 24 rfl w.heap.size 3 i0 (.int .i64 0) 1 8 Try.underlying24 hi hz0 hz1 hz2 rfl (by decide) (.slice (some ⟨w.heap.size, 0, none⟩) 0 0) 0 [] rfl hown0 ad n cap (valsOf x n) rfl (by rw [valsOf_length]; omega) hnews (by simp [Value.oneCell', valsOf]; try rfl) (by simp only [maxLen]; omega) (by omega) (by rw [World.size_alloc]; omega) ?_; intro v1 w1 hown1 hg1 _)
      | (refine wpList_append_own _ rfl _ _ 24 rfl w.heap.size 3 i0 (.int .i64 0) 1 8 Try.underlying24 hi hz0 hz1 hz2 rfl (by decide) _ (0 + n) _ rfl (hown1.alloc _) ⟨w1.heap.size, 0, none⟩ 1 1 [.int .i64 (-77)] rfl rfl (cell_one_new _ _ _) (by simp [Value.oneCell']) (by simp only [maxLen]; omega) (by omega) (by have := hg1.size; rw [World.size_alloc] at this ⊢; omega) ?_; intro v2 w2 hown2 hg2 _; obtain ⟨g, cap', cur, rfl, hb, hg, hc, ht⟩ := FIN.out v2 w2 (by simpa using hown2)))
    go_wp2_with fail
    go_ret
    exact ⟨g, cap', cur, rfl, hb, hg, hc, ht, ((hO0.then (.of_grown hg1) (fun i hi e => by simp only [Value.ownBlock, Option.some.injEq] at e; omega)).alloc _).then (.of_grown hg2) (fun i hi e => by have := (hown1.lt i e.symm).1; omega)⟩

end Go.Proofs.Ytcopdgaidfchlaa

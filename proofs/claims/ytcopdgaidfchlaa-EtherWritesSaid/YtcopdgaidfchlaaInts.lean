/-
  Ints in slices: sought (slices.Index, slices.Contains).
  Conditions: the slice is within the form's reach.
-/
import Derived.Test.YtcopdgaidfchlaaLend
set_option linter.unusedVariables false
set_option linter.unusedSimpArgs false
namespace Go.Proofs.Ytcopdgaidfchlaa
open Go.RowKit

open Classical in
noncomputable def inB (x : Nat → Int) (n : Nat) (t : Int) : Bool := decide (∃ i, i < n ∧ x i = t)

theorem IntsIn.cell {w : World} {a : Option Addr} {n cap : Nat} {x : Nat → Int} (h : IntsIn w a n cap x) (i : Nat) (hi : i < n) : ∃ b off, a = some ⟨b, off, none⟩ ∧ b < w.heap.size ∧ w.cell? ⟨b, off + i, none⟩ = some (.int .i64 (x i)) := by
  cases a with
  | none => have := (h.nil0 rfl).1; omega
  | some ad =>
    obtain ⟨b, off, spot⟩ := ad
    obtain ⟨h1, h2⟩ := h.lt _ rfl (by omega)
    simp only at h2
    subst h2
    refine ⟨b, off, rfl, h1, ?_⟩
    have := h.at_ _ rfl i hi
    by_cases h0 : i = 0
    · subst h0; simpa [Addr.add] using this
    · simpa [Addr.add, h0] using this

set_option maxHeartbeats 1000000 in
theorem index_any (w : World) (a : Option Addr) (n cap : Nat) (x : Nat → Int) (t : Int) (h : IntsIn w a n cap x) :
    Calls Try.prog 29 #[.slice a n cap, .int .i64 t] w fun e w' => (∃ k : Int, e = .returned (.int .i64 k) ∧ decide (0 ≤ k) = inB x n t) ∧ w = w' := by
  have hsm := h.small
  unfold reachB at hsm
  have H := Lib.hid h
  clear h
  go_enter Try.func29, Try.ntmps29
  go_wp2_with fail
  go_loop [8] (fun i => ∃ k : Nat, i = .int .i64 k ∧ k ≤ n ∧ ∀ j, j < k → x j ≠ t) (fun i => n - (intOf i).toNat)
  case atStart => exact ⟨0, rfl, by omega, fun j hj => by omega⟩
  case round =>
    obtain ⟨k, rfl, hk, hno⟩ := hrel
    have HNO := Lib.hid hno
    clear hno
    by_cases hlt : k < n
    · obtain ⟨b, off, rfl, hb, hc⟩ := H.out.cell k hlt
      by_cases he : t = x k
      · subst he
        have hB := Lib.hid (show decide (0 ≤ (k : Int)) = inB x n (x k) by unfold inB; rw [decide_eq_true (by omega), decide_eq_true ⟨k, hlt, rfl⟩])
        go_wp2_with fail
        go_ret
        exact ⟨⟨k, rfl, hB.out⟩, rfl⟩
      · have hs := Lib.hid (fun j (hj : j < k + 1) => show x j ≠ t by
          rcases Nat.lt_or_ge j k with h | h
          · exact HNO.out j h
          · obtain rfl : j = k := by omega
            exact fun e => he e.symm)
        go_wp2_with fail
        go_round
        case rel => exact ⟨k + 1, by go_num, by omega, hs.out⟩
        case measure => simp [intOf]; omega
    · obtain rfl : k = n := by omega
      have hB := Lib.hid (show decide (0 ≤ (-1 : Int)) = inB x k t by
        unfold inB
        rw [decide_eq_false (by omega), eq_comm, decide_eq_false]
        rintro ⟨i, hi, e⟩
        exact HNO.out i hi e)
      go_wp2_with fail
      go_ret
      exact ⟨⟨-1, rfl, hB.out⟩, rfl⟩

theorem contains_any (w : World) (a : Option Addr) (n cap : Nat) (x : Nat → Int) (t : Int) (h : IntsIn w a n cap x) :
    Calls Try.prog 24 #[.slice a n cap, .int .i64 t] w fun e w' => e = .returned (.bool (inB x n t)) ∧ w = w' := by
  go_enter Try.func24, Try.ntmps24
  go_wp2_with fail
  refine (index_any w a n cap x t h).mono ?_
  rintro e _ ⟨⟨k, rfl, hB⟩, rfl⟩
  have HB := Lib.hid hB
  clear hB
  go_wp2_with fail
  go_ret
  exact ⟨by rw [← HB.out]; rfl, rfl⟩

end Go.Proofs.Ytcopdgaidfchlaa

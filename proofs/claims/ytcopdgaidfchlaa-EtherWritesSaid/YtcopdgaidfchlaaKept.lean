/-
  What was lent is as it was: SameInts, KeptInts.
  Conditions: the slice is within the form's reach.
-/
import Derived.Test.YtcopdgaidfchlaaEtherFor
set_option linter.unusedVariables false
set_option linter.unusedSimpArgs false
namespace Go.Proofs.Ytcopdgaidfchlaa
open Go.RowKit

set_option maxHeartbeats 1000000 in
theorem same_true (w : World) (a b : Option Addr) (n cap cap' : Nat) (x : Nat → Int) (h : IntsIn w a n cap x) (h' : IntsIn w b n cap' x) :
    Calls Try.prog 25 #[.slice a n cap, .slice b n cap'] w fun e w' => e = .returned (.bool true) ∧ Only (fun _ => False) w w' := by
  have hsm := h.small
  unfold reachB at hsm
  have HA := Lib.hid h
  have HB := Lib.hid h'
  clear h h'
  go_enter Try.func25, Try.ntmps25
  go_wp2_with fail
  go_loopw [5] (fun i wr => ∃ k : Nat, i = .int .i64 k ∧ k ≤ n ∧ IntsIn wr a n cap x ∧ IntsIn wr b n cap' x ∧ Only (fun _ => False) w wr) (fun i _ => n - (intOf i).toNat)
  case atStart => exact ⟨0, rfl, by omega, HA.out, HB.out, Only.refl _ _⟩
  case round =>
    clear HA HB
    obtain ⟨m, rfl, hm, hia, hib, hO⟩ := hrel
    have HA := Lib.hid hia
    have HB := Lib.hid hib
    by_cases hlt : m < n
    · obtain ⟨p, off, rfl, hp, hc⟩ := hia.cell m hlt
      obtain ⟨q, off', rfl, hq, hd⟩ := hib.cell m hlt
      clear hia hib
      go_wp2_with fail
      go_quiet (fail)
      go_wp2_with fail
      go_roundw
      case rel => exact ⟨m + 1, by go_num, by omega, HA.out.only ((Only.refl _ _).drewN _), HB.out.only ((Only.refl _ _).drewN _), hO.drewN _⟩
      case measure => simp [intOf]; omega
    · obtain rfl : m = n := by omega
      clear hia hib
      go_wp2_with fail
      go_ret
      exact ⟨rfl, hO⟩

theorem lent_ints {w : World} {g n cap' : Nat} {cur : Array Value} {x : Nat → Int} (hg : w.heap[g]? = some (.cells cur 3 (0, 0))) (hc : n + 1 ≤ cap') (ht : cur.toList.take (n + 1) = valsOf x n ++ [.int .i64 (-77)]) (hs : n * 8 ≤ reachB) :
    IntsIn w (some ⟨g, 0, none⟩) n cap' x ∧ w.cell? ⟨g, n, none⟩ = some (.int .i64 (-77)) := by
  have hget : ∀ i, i < n + 1 → cur[i]? = (valsOf x n ++ [.int .i64 (-77)])[i]? := fun i hi => by
    rw [← ht, List.getElem?_take, if_pos hi, Array.getElem?_toList]
  refine ⟨⟨by omega, fun e => (by cases e), hs, fun ad e i hi => ?_, fun ad e h0 => ?_⟩, ?_⟩
  · cases e
    have h1 : cur[i]? = some (.int .i64 (x i)) := by
      rw [hget i (by omega), List.getElem?_append_left (by rw [valsOf_length]; exact hi), valsOf_get x n i hi]
    have := (blk_cell hg i).trans h1
    by_cases h0 : i = 0
    · subst h0; simpa [Addr.add] using this
    · simpa [Addr.add, h0] using this
  · cases e
    exact ⟨heap_lt hg, rfl⟩
  · refine (blk_cell hg n).trans ?_
    rw [hget n (by omega), List.getElem?_append_right (by rw [valsOf_length]; omega), valsOf_length]
    simp

set_option maxHeartbeats 1000000 in
theorem kept_true (w : World) (g n cap' : Nat) (cur : Array Value) (a : Option Addr) (cap : Nat) (x : Nat → Int) (hg : w.heap[g]? = some (.cells cur 3 (0, 0))) (hc : n + 1 ≤ cap') (ht : cur.toList.take (n + 1) = valsOf x n ++ [.int .i64 (-77)]) (h : IntsIn w a n cap x) :
    Calls Try.prog 13 #[.slice (some ⟨g, 0, none⟩) n cap', .slice a n cap] w fun e w' => e = .returned (.bool true) ∧ Only (fun _ => False) w w' := by
  obtain ⟨hl, hcell⟩ := lent_ints hg hc ht h.small
  have hsm := h.small
  unfold reachB at hsm
  have HL := Lib.hid hl
  have H := Lib.hid h
  have n1 : (n : Int) + 1 ≤ (cap' : Int) := by omega
  clear hl h ht hg
  go_enter Try.func13, Try.ntmps13
  go_wp2_with fail
  refine (same_true _ _ _ n cap' cap x HL.out H.out).mono ?_
  rintro e w1 ⟨rfl, hk⟩
  replace hcell := cell_only hk (fun h => h) hcell
  go_wp2_with fail
  go_ret
  exact ⟨rfl, hk⟩

end Go.Proofs.Ytcopdgaidfchlaa

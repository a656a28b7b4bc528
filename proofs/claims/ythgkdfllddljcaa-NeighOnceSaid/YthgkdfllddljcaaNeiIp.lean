/-
  The contracts of within and head of package ip, at a packet as the laws have them.
  Conditions: numbers are of the kind int.
-/
import Derived.Test.YthgkdfllddljcaaNei
import Derived.BigQuiet
set_option linter.unusedVariables false
set_option linter.unusedSimpArgs false
set_option maxRecDepth 100000
namespace Go.Proofs.Ythgkdfllddljcaa
open Go.RowKit

theorem within_any (w : World) (gr : Int) (b n : Nat) (x : Nat → Int) (h : ∀ j, j < n → w.cell? ⟨b, j, none⟩ = some (.int .i64 (x j))) (hb : ∀ j, j < n → 0 ≤ x j ∧ x j ≤ gr) (hn : n ≤ 100) :
    Calls Try.prog 33 #[.int .i64 gr, .slice (some ⟨b, 0, none⟩) n n] w fun e w' => e = .returned (.bool true) ∧ w = w' := by
  have H := Lib.hid h
  have HB := Lib.hid hb
  clear h hb
  go_enter Try.func33, Try.ntmps33
  go_wp2_with fail
  go_loop [9] (fun i => ∃ k : Nat, i = .int .i64 k ∧ k ≤ n) (fun i => n - (intOf i).toNat)
  case atStart => exact ⟨0, rfl, by omega⟩
  case round =>
    obtain ⟨k, rfl, hk⟩ := hrel
    by_cases hlt : k < n
    · have hc := H.out k hlt
      obtain ⟨h0, h1⟩ := HB.out k hlt
      generalize x k = y at *
      have hd : decide (gr < y) = false := by simp; omega
      go_wp2_with fail
      go_round
      case rel => exact ⟨k + 1, by go_num, by omega⟩
      case measure => simp [intOf]; omega
    · obtain rfl : k = n := by omega
      go_wp2_with fail
      go_ret
      exact ⟨rfl, rfl⟩

theorem head_any (w : World) (to i : Int) :
    Calls Try.prog 34 #[.agg (pk to i).toArray] w fun e w' => e = .returned (.int .i64 20) ∧ Only (fun _ => False) w w' := by
  have hz := blk_new w (.cells (pk to i).toArray 47)
  have z8 := blk_cell hz 8
  have hO := (Only.refl (fun _ => False) w).alloc (.cells (pk to i).toArray 47)
  simp only [pk, List.getElem?_toArray, List.getElem?_cons_zero, List.getElem?_cons_succ] at z8 hO ⊢
  clear hz
  go_enter Try.func34, Try.ntmps34
  go_wp2_with fail
  go_ret
  exact ⟨rfl, hO⟩

end Go.Proofs.Ythgkdfllddljcaa

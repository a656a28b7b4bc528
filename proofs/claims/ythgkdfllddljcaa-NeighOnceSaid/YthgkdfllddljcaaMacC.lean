/-
  Hardware addresses, of package ether and of the reference.
  Conditions: strings within the form's reach.
-/
import Derived.Test.YthgkdfllddljcaaProg
import Derived.Test.YthgkdfllddljcaaBase
import Derived.Laws.ShiftsVarLaws
set_option linter.unusedVariables false
set_option linter.unusedSimpArgs false
namespace Go.Proofs.Ythgkdfllddljcaa
open Go.RowKit

/-- Is a number a hardware address? One of a group? -/
def MacOk (a : Int) : Prop := 0 ≤ a ∧ a ≤ 281474976710655
def groupB (a : Int) : Bool := a / 1099511627776 % 2 == 1

theorem and_bit40 (a : Int) (h0 : 0 ≤ a) (h1 : a ≤ 281474976710655) : decide (0 < bits .and .i64 a 1099511627776) = groupB a := by
  obtain ⟨n, rfl⟩ := Int.eq_ofNat_of_zero_le h0
  have hb := (bits_nat .i64 62 (by decide) (fun m h0 h1 => by rw [IntKind.wrap_i64]; omega) n 1099511627776 (by omega) (by decide)).1
  rw [show (1099511627776 : Int) = ((1099511627776 : Nat) : Int) from rfl, hb]
  unfold groupB
  rw [Bool.eq_iff_iff]
  have h2 : n &&& 1099511627776 = n / 1099511627776 % 2 * 1099511627776 := by
    have := and_bit_var 64 n 40 (by decide)
    have e : ((2 : Int) ^ min (40 : Int).toNat 64 % (2 : Int) ^ 64).toNat = 1099511627776 := by decide
    rw [e, if_neg (by decide)] at this
    exact this
  rw [h2]
  simp only [decide_eq_true_eq, beq_iff_eq]
  omega

theorem address_ok (a : Int) (w : World) (h : MacOk a) : Calls Try.prog 37 #[.int .i64 a] w fun e w' => e = .returned (.bool true) ∧ w = w' := by
  obtain ⟨h0, h1⟩ := h
  have d1 : decide (a ≤ 281474976710655) = true := decide_eq_true h1
  go_enter Try.func37, Try.ntmps37
  go_wp2
  go_ret
  exact ⟨rfl, rfl⟩
theorem address_bad (a : Int) (w : World) (h : ¬ MacOk a) : Calls Try.prog 37 #[.int .i64 a] w fun e w' => e = .returned (.bool false) ∧ w = w' := by
  unfold MacOk at h
  by_cases h0 : 0 ≤ a
  · have d1 : decide (a ≤ 281474976710655) = false := decide_eq_false (fun x => h ⟨h0, x⟩)
    clear h
    go_enter Try.func37, Try.ntmps37
    go_wp2
    go_ret
    exact ⟨rfl, rfl⟩
  · clear h
    go_enter Try.func37, Try.ntmps37
    go_wp2
    go_ret
    exact ⟨rfl, rfl⟩

theorem group_ok (a : Int) (w : World) (h : MacOk a) : Calls Try.prog 18 #[.int .i64 a] w fun e w' => e = .returned (.tuple #[.bool (groupB a), .int .i64 0]) ∧ w = w' := by
  have HB := Lib.hid (and_bit40 a h.1 h.2)
  go_enter Try.func18, Try.ntmps18
  go_wp2_with fail
  refine (address_ok a _ h).mono ?_
  rintro e _ ⟨rfl, rfl⟩
  go_wp2
  go_ret2
  exact ⟨by rw [← HB.out]; rfl, rfl⟩
theorem group_bad (a : Int) (w : World) (h : ¬ MacOk a) : Calls Try.prog 18 #[.int .i64 a] w fun e w' => e = .returned (.tuple #[.bool false, .int .i64 1]) ∧ w = w' := by
  go_enter Try.func18, Try.ntmps18
  go_wp2_with fail
  refine (address_bad a _ h).mono ?_
  rintro e _ ⟨rfl, rfl⟩
  go_wp2
  go_ret2
  exact ⟨rfl, rfl⟩

theorem group_some (a : Int) (w : World) : Calls Try.prog 18 #[.int .i64 a] w fun e w' => ∃ (b : Bool) (c : Int), e = .returned (.tuple #[.bool b, .int .i64 c]) ∧ w = w' := by
  by_cases h : MacOk a
  · exact (group_ok a w h).mono fun e w' x => ⟨_, _, x⟩
  · exact (group_bad a w h).mono fun e w' x => ⟨_, _, x⟩


end Go.Proofs.Ythgkdfllddljcaa

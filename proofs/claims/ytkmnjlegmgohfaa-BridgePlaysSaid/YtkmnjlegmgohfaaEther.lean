/-
  The contracts of package ether.
  Conditions: strings within the form's reach.
-/
import Derived.Test.YtkmnjlegmgohfaaProg
import Derived.Test.YtkmnjlegmgohfaaBytes
import Derived.Laws.ShiftsVarLaws
set_option linter.unusedVariables false
set_option linter.unusedSimpArgs false
namespace Go.Proofs.Ytkmnjlegmgohfaa
open Go.RowKit

/-- Is a number a hardware address? One of a group? -/
def MacOk (a : Int) : Prop := 0 ≤ a ∧ a ≤ 281474976710655
def groupB (a : Int) : Bool := a / 1099511627776 % 2 == 1

theorem and_bit40 (a : Int) (h0 : 0 ≤ a) (h1 : a ≤ 281474976710655) : decide (0 < bits .and .i64 a 1099511627776) = groupB a := by
  obtain ⟨n, rfl⟩ := Int.eq_ofNat_of_zero_le h0
  have hb := (bits_nat .i64 62 (by decide) (fun m h0 h1 => by rw [IntKind.wrap_i64]; omega) n 1099511627776 (by omega) (by decide)).1
  rw [show (1099511627776 : Int) = ((1099511627776 : Nat) : Int) from rfl, hb]
  unfold groupB
  rw [Bool.eq_iff_iff]
  have h2 : n &&& 1099511627776 = n / 1099511627776 % 2 * 1099511627776 := by
    have := and_bit_var 64 n 40 (by decide)
    have e : ((2 : Int) ^ min (40 : Int).toNat 64 % (2 : Int) ^ 64).toNat = 1099511627776 := by decide
    rw [e, if_neg (by decide)] at this
    exact this
  rw [h2]
  simp only [decide_eq_true_eq, beq_iff_eq]
  omega

theorem address_ok (a : Int) (w : World) (h : MacOk a) : Calls Try.prog 25 #[.int .i64 a] w fun e w' => e = .returned (.bool true) ∧ w = w' := by
  obtain ⟨h0, h1⟩ := h
  have d1 : decide (a ≤ 281474976710655) = true := decide_eq_true h1
  go_enter Try.func25, Try.ntmps25
  go_wp2
  go_ret
  exact ⟨rfl, rfl⟩
theorem address_bad (a : Int) (w : World) (h : ¬ MacOk a) : Calls Try.prog 25 #[.int .i64 a] w fun e w' => e = .returned (.bool false) ∧ w = w' := by
  unfold MacOk at h
  by_cases h0 : 0 ≤ a
  · have d1 : decide (a ≤ 281474976710655) = false := decide_eq_false (fun x => h ⟨h0, x⟩)
    clear h
    go_enter Try.func25, Try.ntmps25
    go_wp2
    go_ret
    exact ⟨rfl, rfl⟩
  · clear h
    go_enter Try.func25, Try.ntmps25
    go_wp2
    go_ret
    exact ⟨rfl, rfl⟩

theorem group_ok (a : Int) (w : World) (h : MacOk a) : Calls Try.prog 12 #[.int .i64 a] w fun e w' => e = .returned (.tuple #[.bool (groupB a), .int .i64 0]) ∧ w = w' := by
  have HB := Lib.hid (and_bit40 a h.1 h.2)
  go_enter Try.func12, Try.ntmps12
  go_wp2_with fail
  refine (address_ok a _ h).mono ?_
  rintro e _ ⟨rfl, rfl⟩
  go_wp2
  go_ret2
  exact ⟨by rw [← HB.out]; rfl, rfl⟩
theorem group_bad (a : Int) (w : World) (h : ¬ MacOk a) : Calls Try.prog 12 #[.int .i64 a] w fun e w' => e = .returned (.tuple #[.bool false, .int .i64 1]) ∧ w = w' := by
  go_enter Try.func12, Try.ntmps12
  go_wp2_with fail
  refine (address_bad a _ h).mono ?_
  rintro e _ ⟨rfl, rfl⟩
  go_wp2
  go_ret2
  exact ⟨rfl, rfl⟩

/-- May a frame be? -/
structure FrameOk (t f k : Int) (d : ByteArray) : Prop where
  to : MacOk t
  fr : MacOk f
  one : groupB f = false
  k0 : 1536 ≤ k
  k1 : k ≤ 65535
  dd : d.size ≤ 1500

def frameV (t f k : Int) (d : ByteArray) : Value := .agg #[.int .i64 t, .int .i64 f, .int .i64 k, .string d]

theorem echeck_ok (t f k : Int) (d : ByteArray) (w : World) (h : FrameOk t f k d) :
    Calls Try.prog 11 #[.agg #[.int .i64 t, .int .i64 f, .int .i64 k, .string d]] w fun e w' => e = .returned (.int .i64 0) ∧ Only (fun _ => False) w w' := by
  obtain ⟨h1, h2, h3, h4, h5, h6⟩ := h
  have H1 := Lib.hid h1
  have H2 := Lib.hid h2
  have H3 := Lib.hid h3
  clear h1 h2 h3
  go_enter Try.func11, Try.ntmps11
  go_wp2_with fail
  refine (group_ok f _ H2.out).mono ?_
  rintro e _ ⟨rfl, rfl⟩
  rw [H3.out]
  go_wp2_with fail
  refine (address_ok t _ H1.out).mono ?_
  rintro e _ ⟨rfl, rfl⟩
  go_wp2_with fail
  go_ret
  exact ⟨rfl, (Only.refl _ _).alloc _⟩

theorem echeck_bad (t f k : Int) (d : ByteArray) (w : World) (h : ¬ FrameOk t f k d) :
    Calls Try.prog 11 #[.agg #[.int .i64 t, .int .i64 f, .int .i64 k, .string d]] w fun e w' => e = .returned (.int .i64 30) ∧ Only (fun _ => False) w w' := by
  have H := Lib.hid h
  clear h
  go_enter Try.func11, Try.ntmps11
  go_wp2_with fail
  by_cases hf : MacOk f
  · refine (group_ok f _ hf).mono ?_
    rintro e _ ⟨rfl, rfl⟩
    have Hf := Lib.hid hf
    clear hf
    cases hg : groupB f with
    | true =>
      clear hg
      go_wp2_with fail
      go_ret
      exact ⟨rfl, (Only.refl _ _).alloc _⟩
    | false =>
      have Hg := Lib.hid hg
      clear hg
      go_wp2_with fail
      by_cases ht : MacOk t
      · refine (address_ok t _ ht).mono ?_
        rintro e _ ⟨rfl, rfl⟩
        have Ht := Lib.hid ht
        clear ht
        by_cases c1 : k < 1536
        · go_wp2_with fail
          go_ret
          exact ⟨rfl, (Only.refl _ _).alloc _⟩
        · by_cases c2 : 65535 < k
          · go_wp2_with fail
            go_ret
            exact ⟨rfl, (Only.refl _ _).alloc _⟩
          · have c3 : 1500 < d.size := by
              rcases Nat.lt_or_ge 1500 d.size with h | h
              · exact h
              · exact (H.out ⟨Ht.out, Hf.out, Hg.out, by omega, by omega, h⟩).elim
            go_wp2_with fail
            go_ret
            exact ⟨rfl, (Only.refl _ _).alloc _⟩
      · refine (address_bad t _ ht).mono ?_
        rintro e _ ⟨rfl, rfl⟩
        go_wp2_with fail
        go_ret
        exact ⟨rfl, (Only.refl _ _).alloc _⟩
  · refine (group_bad f _ hf).mono ?_
    rintro e _ ⟨rfl, rfl⟩
    go_wp2_with fail
    go_ret
    exact ⟨rfl, (Only.refl _ _).alloc _⟩

end Go.Proofs.Ytkmnjlegmgohfaa

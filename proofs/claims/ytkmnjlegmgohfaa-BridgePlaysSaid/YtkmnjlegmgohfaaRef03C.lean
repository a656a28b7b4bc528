/-
  The contracts of the reference for layer 3: Check, Group.
  Conditions: strings within the form's reach.
-/
import Derived.Test.YtkmnjlegmgohfaaEther
set_option linter.unusedVariables false
set_option linter.unusedSimpArgs false
namespace Go.Proofs.Ytkmnjlegmgohfaa
open Go.RowKit

theorem mac_ok (a : Int) (w : World) (h : MacOk a) : Calls Try.prog 39 #[.int .i64 a] w fun e w' => e = .returned (.bool true) ∧ w = w' := by
  obtain ⟨h0, h1⟩ := h
  have d1 : decide (a ≤ 281474976710655) = true := decide_eq_true h1
  go_enter Try.func39, Try.ntmps39
  go_wp2
  go_ret
  exact ⟨rfl, rfl⟩
theorem mac_bad (a : Int) (w : World) (h : ¬ MacOk a) : Calls Try.prog 39 #[.int .i64 a] w fun e w' => e = .returned (.bool false) ∧ w = w' := by
  unfold MacOk at h
  by_cases h0 : 0 ≤ a
  · have d1 : decide (a ≤ 281474976710655) = false := decide_eq_false (fun x => h ⟨h0, x⟩)
    clear h
    go_enter Try.func39, Try.ntmps39
    go_wp2
    go_ret
    exact ⟨rfl, rfl⟩
  · clear h
    go_enter Try.func39, Try.ntmps39
    go_wp2
    go_ret
    exact ⟨rfl, rfl⟩
theorem rgroup_any (a : Int) (w : World) (h : MacOk a) : Calls Try.prog 40 #[.int .i64 a] w fun e w' => e = .returned (.bool (groupB a)) ∧ w = w' := by
  obtain ⟨h0, h1⟩ := h
  have q0 : 0 ≤ a / 1099511627776 := by omega
  go_enter Try.func40, Try.ntmps40
  go_wp2
  go_ret
  exact ⟨rfl, rfl⟩
theorem rGroup_ok (a : Int) (w : World) (h : MacOk a) : Calls Try.prog 33 #[.int .i64 a] w fun e w' => e = .returned (.tuple #[.bool (groupB a), .int .i64 0]) ∧ w = w' := by
  go_enter Try.func33, Try.ntmps33
  go_wp2_with fail
  refine (mac_ok a _ h).mono ?_
  rintro e _ ⟨rfl, rfl⟩
  go_wp2_with fail
  refine (rgroup_any a _ h).mono ?_
  rintro e _ ⟨rfl, rfl⟩
  go_wp2_with fail
  go_ret2
  exact ⟨rfl, rfl⟩
theorem rGroup_bad (a : Int) (w : World) (h : ¬ MacOk a) : Calls Try.prog 33 #[.int .i64 a] w fun e w' => e = .returned (.tuple #[.bool false, .int .i64 1]) ∧ w = w' := by
  go_enter Try.func33, Try.ntmps33
  go_wp2_with fail
  refine (mac_bad a _ h).mono ?_
  rintro e _ ⟨rfl, rfl⟩
  go_wp2
  go_ret2
  exact ⟨rfl, rfl⟩

theorem rcheck_ok (t f k : Int) (d : ByteArray) (w : World) (h : FrameOk t f k d) :
    Calls Try.prog 31 #[.agg #[.int .i64 t, .int .i64 f, .int .i64 k, .string d]] w fun e w' => e = .returned (.int .i64 0) ∧ Only (fun _ => False) w w' := by
  obtain ⟨h1, h2, h3, h4, h5, h6⟩ := h
  have H1 := Lib.hid h1
  have H2 := Lib.hid h2
  have H3 := Lib.hid h3
  clear h1 h2 h3
  go_enter Try.func31, Try.ntmps31
  go_wp2_with fail
  refine (mac_ok t _ H1.out).mono ?_
  rintro e _ ⟨rfl, rfl⟩
  go_wp2_with fail
  refine (mac_ok f _ H2.out).mono ?_
  rintro e _ ⟨rfl, rfl⟩
  go_wp2_with fail
  refine (rgroup_any f _ H2.out).mono ?_
  rintro e _ ⟨rfl, rfl⟩
  rw [H3.out]
  go_wp2_with fail
  go_ret
  exact ⟨rfl, (Only.refl _ _).alloc _⟩

theorem rcheck_bad (t f k : Int) (d : ByteArray) (w : World) (h : ¬ FrameOk t f k d) :
    Calls Try.prog 31 #[.agg #[.int .i64 t, .int .i64 f, .int .i64 k, .string d]] w fun e w' => e = .returned (.int .i64 30) ∧ Only (fun _ => False) w w' := by
  have H := Lib.hid h
  clear h
  go_enter Try.func31, Try.ntmps31
  go_wp2_with fail
  by_cases ht : MacOk t
  · refine (mac_ok t _ ht).mono ?_
    rintro e _ ⟨rfl, rfl⟩
    have Ht := Lib.hid ht
    clear ht
    go_wp2_with fail
    by_cases hf : MacOk f
    · refine (mac_ok f _ hf).mono ?_
      rintro e _ ⟨rfl, rfl⟩
      have Hf := Lib.hid hf
      clear hf
      go_wp2_with fail
      refine (rgroup_any f _ Hf.out).mono ?_
      rintro e _ ⟨rfl, rfl⟩
      cases hg : groupB f with
      | true =>
        clear hg
        go_wp2_with fail
        go_ret
        exact ⟨rfl, (Only.refl _ _).alloc _⟩
      | false =>
        have Hg := Lib.hid hg
        clear hg
        by_cases c1 : k < 1536
        · go_wp2_with fail
          go_ret
          exact ⟨rfl, (Only.refl _ _).alloc _⟩
        · by_cases c2 : 65535 < k
          · go_wp2_with fail
            go_ret
            exact ⟨rfl, (Only.refl _ _).alloc _⟩
          · have c3 : 1500 < d.size := by
              rcases Nat.lt_or_ge 1500 d.size with h | h
              · exact h
              · exact (H.out ⟨Ht.out, Hf.out, Hg.out, by omega, by omega, h⟩).elim
            go_wp2_with fail
            go_ret
            exact ⟨rfl, (Only.refl _ _).alloc _⟩
    · refine (mac_bad f _ hf).mono ?_
      rintro e _ ⟨rfl, rfl⟩
      go_wp2_with fail
      go_ret
      exact ⟨rfl, (Only.refl _ _).alloc _⟩
  · refine (mac_bad t _ ht).mono ?_
    rintro e _ ⟨rfl, rfl⟩
    go_wp2_with fail
    go_ret
    exact ⟨rfl, (Only.refl _ _).alloc _⟩

end Go.Proofs.Ytkmnjlegmgohfaa

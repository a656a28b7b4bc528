/-
  The contracts of package arp (no bytes) and of the reference for layer 4.
  Conditions: numbers are of the kind int.
-/
import Derived.Test.YthgkdfllddljcaaMacC
set_option linter.unusedVariables false
set_option linter.unusedSimpArgs false
namespace Go.Proofs.Ythgkdfllddljcaa
open Go.RowKit

def IpOk (a : Int) : Prop := 0 ≤ a ∧ a ≤ 4294967295

/-- May a packet be? -/
structure ArpOk (op fm fi tm ti : Int) : Prop where
  op : op = 1 ∨ op = 2
  fr : MacOk fm
  one : groupB fm = false
  to : MacOk tm
  fi : IpOk fi
  ti : IpOk ti

theorem ip_ok (a : Int) (w : World) (h : IpOk a) : Calls Try.prog 38 #[.int .i64 a] w fun e w' => e = .returned (.bool true) ∧ w = w' := by
  obtain ⟨h0, h1⟩ := h
  have d1 : decide (a ≤ 4294967295) = true := decide_eq_true h1
  go_enter Try.func38, Try.ntmps38
  go_wp2
  go_ret
  exact ⟨rfl, rfl⟩
theorem ip_bad (a : Int) (w : World) (h : ¬ IpOk a) : Calls Try.prog 38 #[.int .i64 a] w fun e w' => e = .returned (.bool false) ∧ w = w' := by
  unfold IpOk at h
  by_cases h0 : 0 ≤ a
  · have d1 : decide (a ≤ 4294967295) = false := decide_eq_false (fun x => h ⟨h0, x⟩)
    clear h
    go_enter Try.func38, Try.ntmps38
    go_wp2
    go_ret
    exact ⟨rfl, rfl⟩
  · clear h
    go_enter Try.func38, Try.ntmps38
    go_wp2
    go_ret
    exact ⟨rfl, rfl⟩
open Classical in
noncomputable def arC (op fm fi tm ti : Int) : Int := if ArpOk op fm fi tm ti then 0 else 40

set_option maxHeartbeats 1000000 in
theorem acheck_any (op fm fi tm ti : Int) (w : World) :
    Calls Try.prog 21 #[.agg #[.int .i64 op, .int .i64 fm, .int .i64 fi, .int .i64 tm, .int .i64 ti]] w fun e w' => e = .returned (.int .i64 (arC op fm fi tm ti)) ∧ Only (fun _ => False) w w' := by
  generalize hc : arC op fm fi tm ti = c
  have HC := Lib.hid hc
  unfold arC at HC
  clear hc
  go_enter Try.func21, Try.ntmps21
  go_wp2_with fail
  by_cases hf : MacOk fm
  · refine (group_ok fm _ hf).mono ?_
    rintro e _ ⟨rfl, rfl⟩
    have Hf := Lib.hid hf
    clear hf
    go_wp2_with fail
    by_cases ht : MacOk tm
    · refine (group_ok tm _ ht).mono ?_
      rintro e _ ⟨rfl, rfl⟩
      have Ht := Lib.hid ht
      clear ht
      generalize groupB tm = gt at *
      cases hg : groupB fm with
      | true =>
        have X : c = 40 := by rw [← HC.out, if_neg (fun x => by rw [x.one] at hg; cases hg)]
        clear hg HC
        subst X
        by_cases o1 : op = 1
        · go_wp2_with fail
          go_ret
          exact ⟨rfl, (Only.refl _ _).alloc _⟩
        · by_cases o2 : op = 2
          · go_wp2_with fail
            go_ret
            exact ⟨rfl, (Only.refl _ _).alloc _⟩
          · go_wp2_with fail
            go_ret
            exact ⟨rfl, (Only.refl _ _).alloc _⟩
      | false =>
        have Hg := Lib.hid hg
        clear hg
        by_cases o : op = 1 ∨ op = 2
        · have Ho := Lib.hid o
          by_cases hi : IpOk fi
          · have Hi := Lib.hid hi
            by_cases hj : IpOk ti
            · have Hj := Lib.hid hj
              have X : c = 0 := by rw [← HC.out, if_pos ⟨o, Hf.out, Hg.out, Ht.out, hi, hj⟩]
              clear HC hi hj
              subst X
              rcases o with rfl | rfl
              · go_wp2_with fail
                refine (ip_ok fi _ Hi.out).mono ?_
                rintro e _ ⟨rfl, rfl⟩
                go_wp2_with fail
                refine (ip_ok ti _ Hj.out).mono ?_
                rintro e _ ⟨rfl, rfl⟩
                go_wp2_with fail
                go_ret
                exact ⟨rfl, (Only.refl _ _).alloc _⟩
              · go_wp2_with fail
                refine (ip_ok fi _ Hi.out).mono ?_
                rintro e _ ⟨rfl, rfl⟩
                go_wp2_with fail
                refine (ip_ok ti _ Hj.out).mono ?_
                rintro e _ ⟨rfl, rfl⟩
                go_wp2_with fail
                go_ret
                exact ⟨rfl, (Only.refl _ _).alloc _⟩
            · have Hj := Lib.hid hj
              have X : c = 40 := by rw [← HC.out, if_neg (fun x => hj x.ti)]
              clear HC hi hj
              subst X
              rcases o with rfl | rfl
              · go_wp2_with fail
                refine (ip_ok fi _ Hi.out).mono ?_
                rintro e _ ⟨rfl, rfl⟩
                go_wp2_with fail
                refine (ip_bad ti _ Hj.out).mono ?_
                rintro e _ ⟨rfl, rfl⟩
                go_wp2_with fail
                go_ret
                exact ⟨rfl, (Only.refl _ _).alloc _⟩
              · go_wp2_with fail
                refine (ip_ok fi _ Hi.out).mono ?_
                rintro e _ ⟨rfl, rfl⟩
                go_wp2_with fail
                refine (ip_bad ti _ Hj.out).mono ?_
                rintro e _ ⟨rfl, rfl⟩
                go_wp2_with fail
                go_ret
                exact ⟨rfl, (Only.refl _ _).alloc _⟩
          · have Hi := Lib.hid hi
            have X : c = 40 := by rw [← HC.out, if_neg (fun x => hi x.fi)]
            clear HC hi
            subst X
            rcases o with rfl | rfl
            · go_wp2_with fail
              refine (ip_bad fi _ Hi.out).mono ?_
              rintro e _ ⟨rfl, rfl⟩
              go_wp2_with fail
              go_ret
              exact ⟨rfl, (Only.refl _ _).alloc _⟩
            · go_wp2_with fail
              refine (ip_bad fi _ Hi.out).mono ?_
              rintro e _ ⟨rfl, rfl⟩
              go_wp2_with fail
              go_ret
              exact ⟨rfl, (Only.refl _ _).alloc _⟩
        · have X : c = 40 := by rw [← HC.out, if_neg (fun x => o x.op)]
          have o1 : ¬ op = 1 := fun x => o (Or.inl x)
          have o2 : ¬ op = 2 := fun x => o (Or.inr x)
          clear HC o
          subst X
          go_wp2_with fail
          go_ret
          exact ⟨rfl, (Only.refl _ _).alloc _⟩
    · refine (group_bad tm _ ht).mono ?_
      rintro e _ ⟨rfl, rfl⟩
      have X : c = 40 := by rw [← HC.out, if_neg (fun x => ht x.to)]
      clear HC ht
      subst X
      by_cases o1 : op = 1
      · go_wp2_with fail
        go_ret
        exact ⟨rfl, (Only.refl _ _).alloc _⟩
      · by_cases o2 : op = 2
        · go_wp2_with fail
          go_ret
          exact ⟨rfl, (Only.refl _ _).alloc _⟩
        · go_wp2_with fail
          go_ret
          exact ⟨rfl, (Only.refl _ _).alloc _⟩
  · refine (group_bad fm _ hf).mono ?_
    rintro e _ ⟨rfl, rfl⟩
    have X : c = 40 := by rw [← HC.out, if_neg (fun x => hf x.fr)]
    clear HC hf
    subst X
    go_wp2_with fail
    refine (group_some tm _).mono ?_
    rintro e _ ⟨gt, ct, rfl, rfl⟩
    by_cases o1 : op = 1
    · go_wp2_with fail
      go_ret
      exact ⟨rfl, (Only.refl _ _).alloc _⟩
    · by_cases o2 : op = 2
      · go_wp2_with fail
        go_ret
        exact ⟨rfl, (Only.refl _ _).alloc _⟩
      · go_wp2_with fail
        go_ret
        exact ⟨rfl, (Only.refl _ _).alloc _⟩


end Go.Proofs.Ythgkdfllddljcaa

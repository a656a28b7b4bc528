/-
  For whom a frame is: ether.For and the reference.
  Conditions: the slice is within the form's reach.
-/
import Derived.Test.YtcopdgaidfchlaaInts
import Derived.Test.YtcopdgaidfchlaaRef03
import Derived.BigQuiet
set_option linter.unusedVariables false
set_option linter.unusedSimpArgs false
namespace Go.Proofs.Ytcopdgaidfchlaa
open Go.RowKit

theorem IntsIn.only {w w' : World} {a : Option Addr} {n cap : Nat} {x : Nat → Int} (h : IntsIn w a n cap x) (hk : Only (fun _ => False) w w') : IntsIn w' a n cap x :=
  ⟨h.le, h.nil0, h.small, fun ad e i hi => cell_only hk (fun h => h) (h.at_ ad e i hi), fun ad e h0 => ⟨Nat.lt_of_lt_of_le (h.lt ad e h0).1 hk.size, (h.lt ad e h0).2⟩⟩

theorem for_bad (w : World) (t f k : Int) (d : ByteArray) (a : Option Addr) (n cap : Nat) (x : Nat → Int) (h : IntsIn w a n cap x) (hf : ¬ FrameOk t f k d) :
    Calls Try.prog 11 #[.agg #[.int .i64 t, .int .i64 f, .int .i64 k, .string d], .slice a n cap] w fun e w' => e = .returned (.bool false) ∧ Only (fun _ => False) w w' := by
  have HF := Lib.hid hf
  have H := Lib.hid h
  clear h hf
  go_enter Try.func11, Try.ntmps11
  go_wp2_with fail
  refine (echeck_bad t f k d _ HF.out).mono ?_
  rintro e w1 ⟨rfl, hk1⟩
  have hO := ((Only.refl (fun _ => False) w).alloc _).then hk1 (fun _ _ h => h)
  go_wp2_with fail
  go_ret
  exact ⟨rfl, hO⟩

theorem for_ok (w : World) (t f k : Int) (d : ByteArray) (a : Option Addr) (n cap : Nat) (x : Nat → Int) (h : IntsIn w a n cap x) (hf : FrameOk t f k d) :
    Calls Try.prog 11 #[.agg #[.int .i64 t, .int .i64 f, .int .i64 k, .string d], .slice a n cap] w fun e w' => e = .returned (.bool (t == 281474976710655 || inB x n t)) ∧ Only (fun _ => False) w w' := by
  have HF := Lib.hid hf
  have H := Lib.hid h
  clear h hf
  go_enter Try.func11, Try.ntmps11
  go_wp2_with fail
  have hb := blk_new w (.cells #[.int .i64 t, .int .i64 f, .int .i64 k, .string d] 23)
  refine (echeck_ok t f k d _ HF.out).mono ?_
  rintro e w1 ⟨rfl, hk1⟩
  have hO := ((Only.refl (fun _ => False) w).alloc _).then hk1 (fun _ _ h => h)
  replace hb := hk1.at hb (fun h => h)
  have x0 := blk_cell hb 0
  simp only [List.getElem?_toArray, List.getElem?_cons_zero, List.getElem?_cons_succ] at x0
  have H1 := Lib.hid (H.out.only hO)
  clear hk1 hb
  by_cases ht : t = 281474976710655
  · subst ht
    go_wp2_with fail
    go_ret
    exact ⟨rfl, hO⟩
  · have hb' : (t == 281474976710655) = false := by simpa using ht
    go_wp2_with fail
    refine (contains_any _ a n cap x t H1.out).mono ?_
    rintro e _ ⟨rfl, rfl⟩
    generalize hq : inB x n t = q
    have HQ := Lib.hid hq
    clear hq
    go_wp2_with fail
    go_ret
    exact ⟨by simp [hb', HQ.out], hO⟩

set_option maxHeartbeats 1000000 in
theorem rfor_bad (w : World) (t f k : Int) (d : ByteArray) (a : Option Addr) (n cap : Nat) (x : Nat → Int) (h : IntsIn w a n cap x) (hf : ¬ FrameOk t f k d) :
    Calls Try.prog 12 #[.agg #[.int .i64 t, .int .i64 f, .int .i64 k, .string d], .slice a n cap] w fun e w' => e = .returned (.bool false) ∧ Only (fun _ => False) w w' := by
  have HF := Lib.hid hf
  have H := Lib.hid h
  clear h hf
  go_enter Try.func12, Try.ntmps12
  go_wp2_with fail
  refine (rcheck_bad t f k d _ HF.out).mono ?_
  rintro e w1 ⟨rfl, hk1⟩
  have hO := ((Only.refl (fun _ => False) w).alloc _).then hk1 (fun _ _ h => h)
  go_wp2_with fail
  go_ret
  exact ⟨rfl, hO⟩

set_option maxHeartbeats 1000000 in
theorem rfor_ok (w : World) (t f k : Int) (d : ByteArray) (a : Option Addr) (n cap : Nat) (x : Nat → Int) (h : IntsIn w a n cap x) (hf : FrameOk t f k d) :
    Calls Try.prog 12 #[.agg #[.int .i64 t, .int .i64 f, .int .i64 k, .string d], .slice a n cap] w fun e w' => e = .returned (.bool (t == 281474976710655 || inB x n t)) ∧ Only (fun _ => False) w w' := by
  have HF := Lib.hid hf
  have hsm := h.small
  unfold reachB at hsm
  have H := Lib.hid h
  clear h hf
  go_enter Try.func12, Try.ntmps12
  go_wp2_with fail
  have hb := blk_new w (.cells #[.int .i64 t, .int .i64 f, .int .i64 k, .string d] 23)
  refine (rcheck_ok t f k d _ HF.out).mono ?_
  rintro e w1 ⟨rfl, hk1⟩
  have hO := ((Only.refl (fun _ => False) w).alloc _).then hk1 (fun _ _ h => h)
  replace hb := hk1.at hb (fun h => h)
  have x0 := blk_cell hb 0
  simp only [List.getElem?_toArray, List.getElem?_cons_zero, List.getElem?_cons_succ] at x0
  have H1 := Lib.hid (H.out.only hO)
  clear hk1 hb
  generalize hp : w.heap.size = p at *
  go_wp2_with fail
  go_loopw [5] (fun i wr => ∃ k : Nat, i = .int .i64 k ∧ k ≤ n ∧ (∀ j, j < k → x j ≠ t) ∧ wr.cell? ⟨p, 0, none⟩ = some (.int .i64 t) ∧ IntsIn wr a n cap x ∧ Only (fun _ => False) w wr) (fun i _ => n - (intOf i).toNat)
  case atStart => exact ⟨0, rfl, by omega, fun j hj => by omega, x0, H1.out, hO⟩
  case round =>
    clear x0 H1 hO
    obtain ⟨m, rfl, hm, hno, x0, hin, hO⟩ := hrel
    have HNO := Lib.hid hno
    have HIN := Lib.hid hin
    clear hno
    by_cases hlt : m < n
    · obtain ⟨b, off, rfl, hb, hc⟩ := hin.cell m hlt
      clear hin
      by_cases he : x m = t
      · subst he
        have hB : inB x n (x m) = true := by unfold inB; exact decide_eq_true ⟨m, hlt, rfl⟩
        have HB := Lib.hid hB
        clear hB
        go_wp2_with fail
        go_quiet (fail)
        go_wp2_with fail
        go_ret
        exact ⟨by rw [HB.out, Bool.or_true]; rfl, hO.drewN _⟩
      · have hs := Lib.hid (fun j (hj : j < m + 1) => show x j ≠ t by
          rcases Nat.lt_or_ge j m with h | h
          · exact HNO.out j h
          · obtain rfl : j = m := by omega
            exact fun e => he e)
        go_wp2_with fail
        go_quiet (fail)
        go_wp2_with fail
        go_roundw
        case rel => exact ⟨m + 1, by go_num, by omega, hs.out, x0, HIN.out.only ((Only.refl _ _).drewN _), hO.drewN _⟩
        case measure => simp [intOf]; omega
    · obtain rfl : m = n := by omega
      have hB : inB x m t = false := by
        unfold inB
        refine decide_eq_false ?_
        rintro ⟨i, hi, e⟩
        exact HNO.out i hi e
      have HB := Lib.hid hB
      clear hB hin
      go_wp2_with fail
      go_ret
      exact ⟨by rw [HB.out, Bool.or_false]; rfl, hO⟩

end Go.Proofs.Ytcopdgaidfchlaa

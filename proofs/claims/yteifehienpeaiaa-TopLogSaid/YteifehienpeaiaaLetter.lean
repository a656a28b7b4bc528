/-
  The contracts of channel.Check and of its reference: which letters may be.
  Conditions: strings within the form's reach.
-/
import Derived.Test.YteifehienpeaiaaCrc
set_option linter.unusedVariables false
set_option linter.unusedSimpArgs false
namespace Go.Proofs.Yteifehienpeaiaa
open Go.RowKit

def wordB (n : Int) : Bool := decide (0 ≤ n) && decide (n ≤ 4294967295)
def roleB (n : Int) : Bool := decide (0 ≤ n) && decide (n ≤ 5)
def letterB (k e r n a : Int) (d : ByteArray) : Bool := (wordB e && wordB n && wordB a && roleB r && decide ((d.size : Int) ≤ 4096)) && ((k == 1 && decide (0 < n)) || (k == 2 && decide (d.size = 0)))

theorem empty_of_size {d : ByteArray} (h : d.size = 0) : d.toList.isEmpty = true := by
  have : d = ⟨#[]⟩ := by
    cases d with
    | mk a => simp [ByteArray.size] at h; rw [h]
  rw [this, ByteArray.toList_eq]; rfl
theorem not_empty_of_size {d : ByteArray} (h : ¬ d.size = 0) : d.toList.isEmpty = false := by
  cases hd : d.toList.isEmpty with
  | false => rfl
  | true =>
    exfalso
    apply h
    have h1 : d.toList = [] := by simpa using hd
    have h2 := congrArg List.length h1
    rw [ByteArray.toList_eq] at h2
    simpa using h2

/-- What Check tells. -/
def lcode (k e r n a : Int) (d : ByteArray) : Int := if letterB k e r n a d = true then 0 else 240

theorem word_any (n : Int) (w : World) : Calls Try.prog 45 #[.int .i64 n] w fun e w' => e = .returned (.bool (wordB n)) ∧ w = w' := by
  unfold wordB
  by_cases h0 : 0 ≤ n
  · have e0 : decide (0 ≤ n) = true := by simpa using h0
    rw [e0]
    go_enter Try.func45, Try.ntmps45
    go_wp2
    go_ret
    exact ⟨by simp, rfl⟩
  · have e0 : decide (0 ≤ n) = false := by simpa using h0
    rw [e0]
    go_enter Try.func45, Try.ntmps45
    go_wp2
    go_ret
    exact ⟨rfl, rfl⟩

theorem known_role (n : Int) (w : World) : Calls Try.prog 46 #[.int .i64 n] w fun e w' => e = .returned (.bool (roleB n)) ∧ w = w' := by
  unfold roleB
  by_cases h0 : 0 ≤ n
  · have e0 : decide (0 ≤ n) = true := by simpa using h0
    rw [e0]
    go_enter Try.func46, Try.ntmps46
    go_wp2
    go_ret
    exact ⟨by simp, rfl⟩
  · have e0 : decide (0 ≤ n) = false := by simpa using h0
    rw [e0]
    go_enter Try.func46, Try.ntmps46
    go_wp2
    go_ret
    exact ⟨rfl, rfl⟩

theorem rword_any (n : Int) (w : World) : Calls Try.prog 47 #[.int .i64 n] w fun e w' => e = .returned (.bool (wordB n)) ∧ w = w' := by
  unfold wordB
  by_cases h0 : 0 ≤ n
  · have e0 : decide (0 ≤ n) = true := by simpa using h0
    rw [e0]
    go_enter Try.func47, Try.ntmps47
    go_wp2
    go_ret
    exact ⟨by simp, rfl⟩
  · have e0 : decide (0 ≤ n) = false := by simpa using h0
    rw [e0]
    go_enter Try.func47, Try.ntmps47
    go_wp2
    go_ret
    exact ⟨rfl, rfl⟩

theorem rrole_any (n : Int) (w : World) : Calls Try.prog 48 #[.int .i64 n] w fun e w' => e = .returned (.bool (roleB n)) ∧ w = w' := by
  unfold roleB
  by_cases h0 : 0 ≤ n
  · have e0 : decide (0 ≤ n) = true := by simpa using h0
    rw [e0]
    go_enter Try.func48, Try.ntmps48
    go_wp2
    go_ret
    exact ⟨by simp, rfl⟩
  · have e0 : decide (0 ≤ n) = false := by simpa using h0
    rw [e0]
    go_enter Try.func48, Try.ntmps48
    go_wp2
    go_ret
    exact ⟨rfl, rfl⟩

set_option maxHeartbeats 2000000 in
theorem lcheck_any (k e r n a : Int) (d : ByteArray) (w : World) : Calls Try.prog 15 #[.agg #[.int .i64 k, .int .i64 e, .int .i64 r, .int .i64 n, .int .i64 a, .string d]] w fun e' w' => e' = .returned (.int .i64 (lcode k e r n a d)) ∧ Only (fun _ => False) w w' := by
  have hO := (Only.refl (fun _ => False) w).alloc (.cells #[.int .i64 k, .int .i64 e, .int .i64 r, .int .i64 n, .int .i64 a, .string d] 23)
  have hz := blk_new w (.cells #[.int .i64 k, .int .i64 e, .int .i64 r, .int .i64 n, .int .i64 a, .string d] 23)
  have z0 := blk_cell hz 0
  have z1 := blk_cell hz 1
  have z2 := blk_cell hz 2
  have z3 := blk_cell hz 3
  have z4 := blk_cell hz 4
  have z5 := blk_cell hz 5
  simp only [List.getElem?_toArray, List.getElem?_cons_zero, List.getElem?_cons_succ] at z0 z1 z2 z3 z4 z5
  cases hh0 : wordB e with
  | false =>
    have HL := Lib.hid (show letterB k e r n a d = false from by unfold letterB; simp [hh0])
    have hb0 := Lib.hid hh0
    clear hh0
    go_enter Try.func15, Try.ntmps15
    go_wp2_with fail
    generalize w.alloc (.cells #[.int .i64 k, .int .i64 e, .int .i64 r, .int .i64 n, .int .i64 a, .string d] 23) = wa at hO z0 z1 z2 z3 z4 z5 ⊢
    refine (word_any e _).mono ?_
    rintro e' _ ⟨rfl, rfl⟩
    rw [hb0.out]
    go_wp2_with fail
    go_ret
    exact ⟨by unfold lcode; rw [HL.out]; rfl, hO⟩
  | true =>
    cases hh1 : wordB n with
    | false =>
      have HL := Lib.hid (show letterB k e r n a d = false from by unfold letterB; simp [hh0, hh1])
      have hb0 := Lib.hid hh0
      have hb1 := Lib.hid hh1
      clear hh0 hh1
      go_enter Try.func15, Try.ntmps15
      go_wp2_with fail
      generalize w.alloc (.cells #[.int .i64 k, .int .i64 e, .int .i64 r, .int .i64 n, .int .i64 a, .string d] 23) = wa at hO z0 z1 z2 z3 z4 z5 ⊢
      refine (word_any e _).mono ?_
      rintro e' _ ⟨rfl, rfl⟩
      rw [hb0.out]
      go_wp2_with fail
      refine (word_any n _).mono ?_
      rintro e' _ ⟨rfl, rfl⟩
      rw [hb1.out]
      go_wp2_with fail
      go_ret
      exact ⟨by unfold lcode; rw [HL.out]; rfl, hO⟩
    | true =>
      cases hh2 : wordB a with
      | false =>
        have HL := Lib.hid (show letterB k e r n a d = false from by unfold letterB; simp [hh0, hh1, hh2])
        have hb0 := Lib.hid hh0
        have hb1 := Lib.hid hh1
        have hb2 := Lib.hid hh2
        clear hh0 hh1 hh2
        go_enter Try.func15, Try.ntmps15
        go_wp2_with fail
        generalize w.alloc (.cells #[.int .i64 k, .int .i64 e, .int .i64 r, .int .i64 n, .int .i64 a, .string d] 23) = wa at hO z0 z1 z2 z3 z4 z5 ⊢
        refine (word_any e _).mono ?_
        rintro e' _ ⟨rfl, rfl⟩
        rw [hb0.out]
        go_wp2_with fail
        refine (word_any n _).mono ?_
        rintro e' _ ⟨rfl, rfl⟩
        rw [hb1.out]
        go_wp2_with fail
        refine (word_any a _).mono ?_
        rintro e' _ ⟨rfl, rfl⟩
        rw [hb2.out]
        go_wp2_with fail
        go_ret
        exact ⟨by unfold lcode; rw [HL.out]; rfl, hO⟩
      | true =>
        cases hh3 : roleB r with
        | false =>
          have HL := Lib.hid (show letterB k e r n a d = false from by unfold letterB; simp [hh0, hh1, hh2, hh3])
          have hb0 := Lib.hid hh0
          have hb1 := Lib.hid hh1
          have hb2 := Lib.hid hh2
          have hb3 := Lib.hid hh3
          clear hh0 hh1 hh2 hh3
          go_enter Try.func15, Try.ntmps15
          go_wp2_with fail
          generalize w.alloc (.cells #[.int .i64 k, .int .i64 e, .int .i64 r, .int .i64 n, .int .i64 a, .string d] 23) = wa at hO z0 z1 z2 z3 z4 z5 ⊢
          refine (word_any e _).mono ?_
          rintro e' _ ⟨rfl, rfl⟩
          rw [hb0.out]
          go_wp2_with fail
          refine (word_any n _).mono ?_
          rintro e' _ ⟨rfl, rfl⟩
          rw [hb1.out]
          go_wp2_with fail
          refine (word_any a _).mono ?_
          rintro e' _ ⟨rfl, rfl⟩
          rw [hb2.out]
          go_wp2_with fail
          refine (known_role r _).mono ?_
          rintro e' _ ⟨rfl, rfl⟩
          rw [hb3.out]
          go_wp2_with fail
          go_ret
          exact ⟨by unfold lcode; rw [HL.out]; rfl, hO⟩
        | true =>
          by_cases hs : (d.size : Int) ≤ 4096
          · have ds : decide ((d.size : Int) ≤ 4096) = true := by simpa using hs
            by_cases hk1 : k = 1
            · by_cases hn0 : 0 < n
              · have HL := Lib.hid (show letterB k e r n a d = true from by unfold letterB; simp [hh0, hh1, hh2, hh3, ds, hk1, hn0])
                have hb0 := Lib.hid hh0
                have hb1 := Lib.hid hh1
                have hb2 := Lib.hid hh2
                have hb3 := Lib.hid hh3
                clear hh0 hh1 hh2 hh3
                have b1 : (k == 1) = true := by simp [hk1]
                have b2 : decide (0 < n) = true := by simpa using hn0
                clear hk1 hn0 hs
                go_enter Try.func15, Try.ntmps15
                go_wp2_with fail
                generalize w.alloc (.cells #[.int .i64 k, .int .i64 e, .int .i64 r, .int .i64 n, .int .i64 a, .string d] 23) = wa at hO z0 z1 z2 z3 z4 z5 ⊢
                refine (word_any e _).mono ?_
                rintro e' _ ⟨rfl, rfl⟩
                rw [hb0.out]
                go_wp2_with fail
                refine (word_any n _).mono ?_
                rintro e' _ ⟨rfl, rfl⟩
                rw [hb1.out]
                go_wp2_with fail
                refine (word_any a _).mono ?_
                rintro e' _ ⟨rfl, rfl⟩
                rw [hb2.out]
                go_wp2_with fail
                refine (known_role r _).mono ?_
                rintro e' _ ⟨rfl, rfl⟩
                rw [hb3.out]
                go_wp2_with fail
                go_ret
                exact ⟨by unfold lcode; rw [HL.out]; rfl, hO⟩
              · have HL := Lib.hid (show letterB k e r n a d = false from by unfold letterB; simp [hh0, hh1, hh2, hh3, ds, hk1, hn0])
                have hb0 := Lib.hid hh0
                have hb1 := Lib.hid hh1
                have hb2 := Lib.hid hh2
                have hb3 := Lib.hid hh3
                clear hh0 hh1 hh2 hh3
                have b1 : (k == 1) = true := by simp [hk1]
                have b2 : decide (0 < n) = false := by simpa using hn0
                have b3 : (k == 2) = false := by simp [hk1]
                clear hk1 hn0 hs
                go_enter Try.func15, Try.ntmps15
                go_wp2_with fail
                generalize w.alloc (.cells #[.int .i64 k, .int .i64 e, .int .i64 r, .int .i64 n, .int .i64 a, .string d] 23) = wa at hO z0 z1 z2 z3 z4 z5 ⊢
                refine (word_any e _).mono ?_
                rintro e' _ ⟨rfl, rfl⟩
                rw [hb0.out]
                go_wp2_with fail
                refine (word_any n _).mono ?_
                rintro e' _ ⟨rfl, rfl⟩
                rw [hb1.out]
                go_wp2_with fail
                refine (word_any a _).mono ?_
                rintro e' _ ⟨rfl, rfl⟩
                rw [hb2.out]
                go_wp2_with fail
                refine (known_role r _).mono ?_
                rintro e' _ ⟨rfl, rfl⟩
                rw [hb3.out]
                go_wp2_with fail
                go_ret
                exact ⟨by unfold lcode; rw [HL.out]; rfl, hO⟩
            · by_cases hk2 : k = 2
              · by_cases hd0 : d.size = 0
                · have HL := Lib.hid (show letterB k e r n a d = true from by unfold letterB; simp [hh0, hh1, hh2, hh3, ds, hk2, hd0])
                  have hb0 := Lib.hid hh0
                  have hb1 := Lib.hid hh1
                  have hb2 := Lib.hid hh2
                  have hb3 := Lib.hid hh3
                  clear hh0 hh1 hh2 hh3
                  have b1 : (k == 1) = false := by simp [hk2]
                  have b3 : (k == 2) = true := by simp [hk2]
                  have hde := empty_of_size hd0
                  clear hk1 hk2 hs
                  go_enter Try.func15, Try.ntmps15
                  go_wp2_with fail
                  generalize w.alloc (.cells #[.int .i64 k, .int .i64 e, .int .i64 r, .int .i64 n, .int .i64 a, .string d] 23) = wa at hO z0 z1 z2 z3 z4 z5 ⊢
                  refine (word_any e _).mono ?_
                  rintro e' _ ⟨rfl, rfl⟩
                  rw [hb0.out]
                  go_wp2_with fail
                  refine (word_any n _).mono ?_
                  rintro e' _ ⟨rfl, rfl⟩
                  rw [hb1.out]
                  go_wp2_with fail
                  refine (word_any a _).mono ?_
                  rintro e' _ ⟨rfl, rfl⟩
                  rw [hb2.out]
                  go_wp2_with fail
                  refine (known_role r _).mono ?_
                  rintro e' _ ⟨rfl, rfl⟩
                  rw [hb3.out]
                  go_wp2_with fail
                  go_ret
                  exact ⟨by unfold lcode; rw [HL.out]; rfl, hO⟩
                · have HL := Lib.hid (show letterB k e r n a d = false from by unfold letterB; simp [hh0, hh1, hh2, hh3, ds, hk2, hd0])
                  have hb0 := Lib.hid hh0
                  have hb1 := Lib.hid hh1
                  have hb2 := Lib.hid hh2
                  have hb3 := Lib.hid hh3
                  clear hh0 hh1 hh2 hh3
                  have b1 : (k == 1) = false := by simp [hk2]
                  have b3 : (k == 2) = true := by simp [hk2]
                  have hde := not_empty_of_size hd0
                  clear hk1 hk2 hs
                  go_enter Try.func15, Try.ntmps15
                  go_wp2_with fail
                  generalize w.alloc (.cells #[.int .i64 k, .int .i64 e, .int .i64 r, .int .i64 n, .int .i64 a, .string d] 23) = wa at hO z0 z1 z2 z3 z4 z5 ⊢
                  refine (word_any e _).mono ?_
                  rintro e' _ ⟨rfl, rfl⟩
                  rw [hb0.out]
                  go_wp2_with fail
                  refine (word_any n _).mono ?_
                  rintro e' _ ⟨rfl, rfl⟩
                  rw [hb1.out]
                  go_wp2_with fail
                  refine (word_any a _).mono ?_
                  rintro e' _ ⟨rfl, rfl⟩
                  rw [hb2.out]
                  go_wp2_with fail
                  refine (known_role r _).mono ?_
                  rintro e' _ ⟨rfl, rfl⟩
                  rw [hb3.out]
                  go_wp2_with fail
                  go_ret
                  exact ⟨by unfold lcode; rw [HL.out]; rfl, hO⟩
              · have HL := Lib.hid (show letterB k e r n a d = false from by unfold letterB; simp [hh0, hh1, hh2, hh3, ds, hk1, hk2])
                have hb0 := Lib.hid hh0
                have hb1 := Lib.hid hh1
                have hb2 := Lib.hid hh2
                have hb3 := Lib.hid hh3
                clear hh0 hh1 hh2 hh3
                have b1 : (k == 1) = false := by simpa using hk1
                have b3 : (k == 2) = false := by simpa using hk2
                clear hk1 hk2 hs
                go_enter Try.func15, Try.ntmps15
                go_wp2_with fail
                generalize w.alloc (.cells #[.int .i64 k, .int .i64 e, .int .i64 r, .int .i64 n, .int .i64 a, .string d] 23) = wa at hO z0 z1 z2 z3 z4 z5 ⊢
                refine (word_any e _).mono ?_
                rintro e' _ ⟨rfl, rfl⟩
                rw [hb0.out]
                go_wp2_with fail
                refine (word_any n _).mono ?_
                rintro e' _ ⟨rfl, rfl⟩
                rw [hb1.out]
                go_wp2_with fail
                refine (word_any a _).mono ?_
                rintro e' _ ⟨rfl, rfl⟩
                rw [hb2.out]
                go_wp2_with fail
                refine (known_role r _).mono ?_
                rintro e' _ ⟨rfl, rfl⟩
                rw [hb3.out]
                go_wp2_with fail
                go_ret
                exact ⟨by unfold lcode; rw [HL.out]; rfl, hO⟩
          · have ds : decide ((d.size : Int) ≤ 4096) = false := by simpa using hs
            have HL := Lib.hid (show letterB k e r n a d = false from by unfold letterB; simp [hh0, hh1, hh2, hh3, ds])
            have hb0 := Lib.hid hh0
            have hb1 := Lib.hid hh1
            have hb2 := Lib.hid hh2
            have hb3 := Lib.hid hh3
            clear hh0 hh1 hh2 hh3
            clear hs
            go_enter Try.func15, Try.ntmps15
            go_wp2_with fail
            generalize w.alloc (.cells #[.int .i64 k, .int .i64 e, .int .i64 r, .int .i64 n, .int .i64 a, .string d] 23) = wa at hO z0 z1 z2 z3 z4 z5 ⊢
            refine (word_any e _).mono ?_
            rintro e' _ ⟨rfl, rfl⟩
            rw [hb0.out]
            go_wp2_with fail
            refine (word_any n _).mono ?_
            rintro e' _ ⟨rfl, rfl⟩
            rw [hb1.out]
            go_wp2_with fail
            refine (word_any a _).mono ?_
            rintro e' _ ⟨rfl, rfl⟩
            rw [hb2.out]
            go_wp2_with fail
            refine (known_role r _).mono ?_
            rintro e' _ ⟨rfl, rfl⟩
            rw [hb3.out]
            go_wp2_with fail
            go_ret
            exact ⟨by unfold lcode; rw [HL.out]; rfl, hO⟩

set_option maxHeartbeats 2000000 in
theorem rlcheck_any (k e r n a : Int) (d : ByteArray) (w : World) : Calls Try.prog 16 #[.agg #[.int .i64 k, .int .i64 e, .int .i64 r, .int .i64 n, .int .i64 a, .string d]] w fun e' w' => e' = .returned (.int .i64 (lcode k e r n a d)) ∧ Only (fun _ => False) w w' := by
  have hO := (Only.refl (fun _ => False) w).alloc (.cells #[.int .i64 k, .int .i64 e, .int .i64 r, .int .i64 n, .int .i64 a, .string d] 23)
  have hz := blk_new w (.cells #[.int .i64 k, .int .i64 e, .int .i64 r, .int .i64 n, .int .i64 a, .string d] 23)
  have z0 := blk_cell hz 0
  have z1 := blk_cell hz 1
  have z2 := blk_cell hz 2
  have z3 := blk_cell hz 3
  have z4 := blk_cell hz 4
  have z5 := blk_cell hz 5
  simp only [List.getElem?_toArray, List.getElem?_cons_zero, List.getElem?_cons_succ] at z0 z1 z2 z3 z4 z5
  by_cases hk1 : k = 1
  · have b1 : (k == 1) = true := by simp [hk1]
    have b1' : (k != 1) = false := by simp [hk1]
    have b3 : (k == 2) = false := by simp [hk1]
    cases hh0 : wordB e with
    | false =>
      have HL := Lib.hid (show letterB k e r n a d = false from by unfold letterB; simp [hh0])
      clear hk1
      have hb0 := Lib.hid hh0
      clear hh0
      go_enter Try.func16, Try.ntmps16
      go_wp2_with fail
      generalize w.alloc (.cells #[.int .i64 k, .int .i64 e, .int .i64 r, .int .i64 n, .int .i64 a, .string d] 23) = wa at hO z0 z1 z2 z3 z4 z5 ⊢
      refine (rword_any e _).mono ?_
      rintro e' _ ⟨rfl, rfl⟩
      rw [hb0.out]
      go_wp2_with fail
      go_ret
      exact ⟨by unfold lcode; rw [HL.out]; rfl, hO⟩
    | true =>
      cases hh1 : wordB n with
      | false =>
        have HL := Lib.hid (show letterB k e r n a d = false from by unfold letterB; simp [hh0, hh1])
        clear hk1
        have hb0 := Lib.hid hh0
        have hb1 := Lib.hid hh1
        clear hh0 hh1
        go_enter Try.func16, Try.ntmps16
        go_wp2_with fail
        generalize w.alloc (.cells #[.int .i64 k, .int .i64 e, .int .i64 r, .int .i64 n, .int .i64 a, .string d] 23) = wa at hO z0 z1 z2 z3 z4 z5 ⊢
        refine (rword_any e _).mono ?_
        rintro e' _ ⟨rfl, rfl⟩
        rw [hb0.out]
        go_wp2_with fail
        refine (rword_any n _).mono ?_
        rintro e' _ ⟨rfl, rfl⟩
        rw [hb1.out]
        go_wp2_with fail
        go_ret
        exact ⟨by unfold lcode; rw [HL.out]; rfl, hO⟩
      | true =>
        cases hh2 : wordB a with
        | false =>
          have HL := Lib.hid (show letterB k e r n a d = false from by unfold letterB; simp [hh0, hh1, hh2])
          clear hk1
          have hb0 := Lib.hid hh0
          have hb1 := Lib.hid hh1
          have hb2 := Lib.hid hh2
          clear hh0 hh1 hh2
          go_enter Try.func16, Try.ntmps16
          go_wp2_with fail
          generalize w.alloc (.cells #[.int .i64 k, .int .i64 e, .int .i64 r, .int .i64 n, .int .i64 a, .string d] 23) = wa at hO z0 z1 z2 z3 z4 z5 ⊢
          refine (rword_any e _).mono ?_
          rintro e' _ ⟨rfl, rfl⟩
          rw [hb0.out]
          go_wp2_with fail
          refine (rword_any n _).mono ?_
          rintro e' _ ⟨rfl, rfl⟩
          rw [hb1.out]
          go_wp2_with fail
          refine (rword_any a _).mono ?_
          rintro e' _ ⟨rfl, rfl⟩
          rw [hb2.out]
          go_wp2_with fail
          go_ret
          exact ⟨by unfold lcode; rw [HL.out]; rfl, hO⟩
        | true =>
          cases hh3 : roleB r with
          | false =>
            have HL := Lib.hid (show letterB k e r n a d = false from by unfold letterB; simp [hh0, hh1, hh2, hh3])
            clear hk1
            have hb0 := Lib.hid hh0
            have hb1 := Lib.hid hh1
            have hb2 := Lib.hid hh2
            have hb3 := Lib.hid hh3
            clear hh0 hh1 hh2 hh3
            go_enter Try.func16, Try.ntmps16
            go_wp2_with fail
            generalize w.alloc (.cells #[.int .i64 k, .int .i64 e, .int .i64 r, .int .i64 n, .int .i64 a, .string d] 23) = wa at hO z0 z1 z2 z3 z4 z5 ⊢
            refine (rword_any e _).mono ?_
            rintro e' _ ⟨rfl, rfl⟩
            rw [hb0.out]
            go_wp2_with fail
            refine (rword_any n _).mono ?_
            rintro e' _ ⟨rfl, rfl⟩
            rw [hb1.out]
            go_wp2_with fail
            refine (rword_any a _).mono ?_
            rintro e' _ ⟨rfl, rfl⟩
            rw [hb2.out]
            go_wp2_with fail
            refine (rrole_any r _).mono ?_
            rintro e' _ ⟨rfl, rfl⟩
            rw [hb3.out]
            go_wp2_with fail
            go_ret
            exact ⟨by unfold lcode; rw [HL.out]; rfl, hO⟩
          | true =>
            by_cases hs : (d.size : Int) ≤ 4096
            · have ds : decide ((d.size : Int) ≤ 4096) = true := by simpa using hs
              have ds2 : decide (4096 < (d.size : Int)) = false := by simp; omega
              by_cases hn0 : 0 < n
              · have HL := Lib.hid (show letterB k e r n a d = true from by unfold letterB; simp [hh0, hh1, hh2, hh3, ds, hk1, hn0])
                have b2 : (n == 0) = false := by simp; omega
                clear hn0 hs hk1
                have hb0 := Lib.hid hh0
                have hb1 := Lib.hid hh1
                have hb2 := Lib.hid hh2
                have hb3 := Lib.hid hh3
                clear hh0 hh1 hh2 hh3
                go_enter Try.func16, Try.ntmps16
                go_wp2_with fail
                generalize w.alloc (.cells #[.int .i64 k, .int .i64 e, .int .i64 r, .int .i64 n, .int .i64 a, .string d] 23) = wa at hO z0 z1 z2 z3 z4 z5 ⊢
                refine (rword_any e _).mono ?_
                rintro e' _ ⟨rfl, rfl⟩
                rw [hb0.out]
                go_wp2_with fail
                refine (rword_any n _).mono ?_
                rintro e' _ ⟨rfl, rfl⟩
                rw [hb1.out]
                go_wp2_with fail
                refine (rword_any a _).mono ?_
                rintro e' _ ⟨rfl, rfl⟩
                rw [hb2.out]
                go_wp2_with fail
                refine (rrole_any r _).mono ?_
                rintro e' _ ⟨rfl, rfl⟩
                rw [hb3.out]
                go_wp2_with fail
                go_ret
                exact ⟨by unfold lcode; rw [HL.out]; rfl, hO⟩
              · have HL := Lib.hid (show letterB k e r n a d = false from by unfold letterB; simp [hh0, hh1, hh2, hh3, ds, hk1, hn0])
                have hw0 : 0 ≤ n := by unfold wordB at hh1; simp at hh1; omega
                have b2 : (n == 0) = true := by simp; omega
                clear hn0 hs hk1 hw0
                have hb0 := Lib.hid hh0
                have hb1 := Lib.hid hh1
                have hb2 := Lib.hid hh2
                have hb3 := Lib.hid hh3
                clear hh0 hh1 hh2 hh3
                go_enter Try.func16, Try.ntmps16
                go_wp2_with fail
                generalize w.alloc (.cells #[.int .i64 k, .int .i64 e, .int .i64 r, .int .i64 n, .int .i64 a, .string d] 23) = wa at hO z0 z1 z2 z3 z4 z5 ⊢
                refine (rword_any e _).mono ?_
                rintro e' _ ⟨rfl, rfl⟩
                rw [hb0.out]
                go_wp2_with fail
                refine (rword_any n _).mono ?_
                rintro e' _ ⟨rfl, rfl⟩
                rw [hb1.out]
                go_wp2_with fail
                refine (rword_any a _).mono ?_
                rintro e' _ ⟨rfl, rfl⟩
                rw [hb2.out]
                go_wp2_with fail
                refine (rrole_any r _).mono ?_
                rintro e' _ ⟨rfl, rfl⟩
                rw [hb3.out]
                go_wp2_with fail
                go_ret
                exact ⟨by unfold lcode; rw [HL.out]; rfl, hO⟩
            · have ds : decide ((d.size : Int) ≤ 4096) = false := by simpa using hs
              have ds2 : decide (4096 < (d.size : Int)) = true := by simp; omega
              have HL := Lib.hid (show letterB k e r n a d = false from by unfold letterB; simp [hh0, hh1, hh2, hh3, ds])
              clear hs
              clear hk1
              have hb0 := Lib.hid hh0
              have hb1 := Lib.hid hh1
              have hb2 := Lib.hid hh2
              have hb3 := Lib.hid hh3
              clear hh0 hh1 hh2 hh3
              go_enter Try.func16, Try.ntmps16
              go_wp2_with fail
              generalize w.alloc (.cells #[.int .i64 k, .int .i64 e, .int .i64 r, .int .i64 n, .int .i64 a, .string d] 23) = wa at hO z0 z1 z2 z3 z4 z5 ⊢
              refine (rword_any e _).mono ?_
              rintro e' _ ⟨rfl, rfl⟩
              rw [hb0.out]
              go_wp2_with fail
              refine (rword_any n _).mono ?_
              rintro e' _ ⟨rfl, rfl⟩
              rw [hb1.out]
              go_wp2_with fail
              refine (rword_any a _).mono ?_
              rintro e' _ ⟨rfl, rfl⟩
              rw [hb2.out]
              go_wp2_with fail
              refine (rrole_any r _).mono ?_
              rintro e' _ ⟨rfl, rfl⟩
              rw [hb3.out]
              go_wp2_with fail
              go_ret
              exact ⟨by unfold lcode; rw [HL.out]; rfl, hO⟩
  · by_cases hk2 : k = 2
    · have b1 : (k == 1) = false := by simp [hk2]
      have b1' : (k != 1) = true := by simp [hk2]
      have b3 : (k == 2) = true := by simp [hk2]
      have b3' : (k != 2) = false := by simp [hk2]
      clear hk1
      cases hh0 : wordB e with
      | false =>
        have HL := Lib.hid (show letterB k e r n a d = false from by unfold letterB; simp [hh0])
        clear hk2
        have hb0 := Lib.hid hh0
        clear hh0
        go_enter Try.func16, Try.ntmps16
        go_wp2_with fail
        generalize w.alloc (.cells #[.int .i64 k, .int .i64 e, .int .i64 r, .int .i64 n, .int .i64 a, .string d] 23) = wa at hO z0 z1 z2 z3 z4 z5 ⊢
        refine (rword_any e _).mono ?_
        rintro e' _ ⟨rfl, rfl⟩
        rw [hb0.out]
        go_wp2_with fail
        go_ret
        exact ⟨by unfold lcode; rw [HL.out]; rfl, hO⟩
      | true =>
        cases hh1 : wordB n with
        | false =>
          have HL := Lib.hid (show letterB k e r n a d = false from by unfold letterB; simp [hh0, hh1])
          clear hk2
          have hb0 := Lib.hid hh0
          have hb1 := Lib.hid hh1
          clear hh0 hh1
          go_enter Try.func16, Try.ntmps16
          go_wp2_with fail
          generalize w.alloc (.cells #[.int .i64 k, .int .i64 e, .int .i64 r, .int .i64 n, .int .i64 a, .string d] 23) = wa at hO z0 z1 z2 z3 z4 z5 ⊢
          refine (rword_any e _).mono ?_
          rintro e' _ ⟨rfl, rfl⟩
          rw [hb0.out]
          go_wp2_with fail
          refine (rword_any n _).mono ?_
          rintro e' _ ⟨rfl, rfl⟩
          rw [hb1.out]
          go_wp2_with fail
          go_ret
          exact ⟨by unfold lcode; rw [HL.out]; rfl, hO⟩
        | true =>
          cases hh2 : wordB a with
          | false =>
            have HL := Lib.hid (show letterB k e r n a d = false from by unfold letterB; simp [hh0, hh1, hh2])
            clear hk2
            have hb0 := Lib.hid hh0
            have hb1 := Lib.hid hh1
            have hb2 := Lib.hid hh2
            clear hh0 hh1 hh2
            go_enter Try.func16, Try.ntmps16
            go_wp2_with fail
            generalize w.alloc (.cells #[.int .i64 k, .int .i64 e, .int .i64 r, .int .i64 n, .int .i64 a, .string d] 23) = wa at hO z0 z1 z2 z3 z4 z5 ⊢
            refine (rword_any e _).mono ?_
            rintro e' _ ⟨rfl, rfl⟩
            rw [hb0.out]
            go_wp2_with fail
            refine (rword_any n _).mono ?_
            rintro e' _ ⟨rfl, rfl⟩
            rw [hb1.out]
            go_wp2_with fail
            refine (rword_any a _).mono ?_
            rintro e' _ ⟨rfl, rfl⟩
            rw [hb2.out]
            go_wp2_with fail
            go_ret
            exact ⟨by unfold lcode; rw [HL.out]; rfl, hO⟩
          | true =>
            cases hh3 : roleB r with
            | false =>
              have HL := Lib.hid (show letterB k e r n a d = false from by unfold letterB; simp [hh0, hh1, hh2, hh3])
              clear hk2
              have hb0 := Lib.hid hh0
              have hb1 := Lib.hid hh1
              have hb2 := Lib.hid hh2
              have hb3 := Lib.hid hh3
              clear hh0 hh1 hh2 hh3
              go_enter Try.func16, Try.ntmps16
              go_wp2_with fail
              generalize w.alloc (.cells #[.int .i64 k, .int .i64 e, .int .i64 r, .int .i64 n, .int .i64 a, .string d] 23) = wa at hO z0 z1 z2 z3 z4 z5 ⊢
              refine (rword_any e _).mono ?_
              rintro e' _ ⟨rfl, rfl⟩
              rw [hb0.out]
              go_wp2_with fail
              refine (rword_any n _).mono ?_
              rintro e' _ ⟨rfl, rfl⟩
              rw [hb1.out]
              go_wp2_with fail
              refine (rword_any a _).mono ?_
              rintro e' _ ⟨rfl, rfl⟩
              rw [hb2.out]
              go_wp2_with fail
              refine (rrole_any r _).mono ?_
              rintro e' _ ⟨rfl, rfl⟩
              rw [hb3.out]
              go_wp2_with fail
              go_ret
              exact ⟨by unfold lcode; rw [HL.out]; rfl, hO⟩
            | true =>
              by_cases hs : (d.size : Int) ≤ 4096
              · have ds : decide ((d.size : Int) ≤ 4096) = true := by simpa using hs
                have ds2 : decide (4096 < (d.size : Int)) = false := by simp; omega
                by_cases hd0 : d.size = 0
                · have HL := Lib.hid (show letterB k e r n a d = true from by unfold letterB; simp [hh0, hh1, hh2, hh3, ds, hk2, hd0])
                  have hde := empty_of_size hd0
                  clear hd0 hs hk2
                  have hb0 := Lib.hid hh0
                  have hb1 := Lib.hid hh1
                  have hb2 := Lib.hid hh2
                  have hb3 := Lib.hid hh3
                  clear hh0 hh1 hh2 hh3
                  go_enter Try.func16, Try.ntmps16
                  go_wp2_with fail
                  generalize w.alloc (.cells #[.int .i64 k, .int .i64 e, .int .i64 r, .int .i64 n, .int .i64 a, .string d] 23) = wa at hO z0 z1 z2 z3 z4 z5 ⊢
                  refine (rword_any e _).mono ?_
                  rintro e' _ ⟨rfl, rfl⟩
                  rw [hb0.out]
                  go_wp2_with fail
                  refine (rword_any n _).mono ?_
                  rintro e' _ ⟨rfl, rfl⟩
                  rw [hb1.out]
                  go_wp2_with fail
                  refine (rword_any a _).mono ?_
                  rintro e' _ ⟨rfl, rfl⟩
                  rw [hb2.out]
                  go_wp2_with fail
                  refine (rrole_any r _).mono ?_
                  rintro e' _ ⟨rfl, rfl⟩
                  rw [hb3.out]
                  go_wp2_with fail
                  go_ret
                  exact ⟨by unfold lcode; rw [HL.out]; rfl, hO⟩
                · have HL := Lib.hid (show letterB k e r n a d = false from by unfold letterB; simp [hh0, hh1, hh2, hh3, ds, hk2, hd0])
                  have hde := not_empty_of_size hd0
                  clear hd0 hs hk2
                  have hb0 := Lib.hid hh0
                  have hb1 := Lib.hid hh1
                  have hb2 := Lib.hid hh2
                  have hb3 := Lib.hid hh3
                  clear hh0 hh1 hh2 hh3
                  go_enter Try.func16, Try.ntmps16
                  go_wp2_with fail
                  generalize w.alloc (.cells #[.int .i64 k, .int .i64 e, .int .i64 r, .int .i64 n, .int .i64 a, .string d] 23) = wa at hO z0 z1 z2 z3 z4 z5 ⊢
                  refine (rword_any e _).mono ?_
                  rintro e' _ ⟨rfl, rfl⟩
                  rw [hb0.out]
                  go_wp2_with fail
                  refine (rword_any n _).mono ?_
                  rintro e' _ ⟨rfl, rfl⟩
                  rw [hb1.out]
                  go_wp2_with fail
                  refine (rword_any a _).mono ?_
                  rintro e' _ ⟨rfl, rfl⟩
                  rw [hb2.out]
                  go_wp2_with fail
                  refine (rrole_any r _).mono ?_
                  rintro e' _ ⟨rfl, rfl⟩
                  rw [hb3.out]
                  go_wp2_with fail
                  go_ret
                  exact ⟨by unfold lcode; rw [HL.out]; rfl, hO⟩
              · have ds : decide ((d.size : Int) ≤ 4096) = false := by simpa using hs
                have ds2 : decide (4096 < (d.size : Int)) = true := by simp; omega
                have HL := Lib.hid (show letterB k e r n a d = false from by unfold letterB; simp [hh0, hh1, hh2, hh3, ds])
                clear hs
                clear hk2
                have hb0 := Lib.hid hh0
                have hb1 := Lib.hid hh1
                have hb2 := Lib.hid hh2
                have hb3 := Lib.hid hh3
                clear hh0 hh1 hh2 hh3
                go_enter Try.func16, Try.ntmps16
                go_wp2_with fail
                generalize w.alloc (.cells #[.int .i64 k, .int .i64 e, .int .i64 r, .int .i64 n, .int .i64 a, .string d] 23) = wa at hO z0 z1 z2 z3 z4 z5 ⊢
                refine (rword_any e _).mono ?_
                rintro e' _ ⟨rfl, rfl⟩
                rw [hb0.out]
                go_wp2_with fail
                refine (rword_any n _).mono ?_
                rintro e' _ ⟨rfl, rfl⟩
                rw [hb1.out]
                go_wp2_with fail
                refine (rword_any a _).mono ?_
                rintro e' _ ⟨rfl, rfl⟩
                rw [hb2.out]
                go_wp2_with fail
                refine (rrole_any r _).mono ?_
                rintro e' _ ⟨rfl, rfl⟩
                rw [hb3.out]
                go_wp2_with fail
                go_ret
                exact ⟨by unfold lcode; rw [HL.out]; rfl, hO⟩
    · have b1' : (k != 1) = true := by simpa using hk1
      have b3' : (k != 2) = true := by simpa using hk2
      have HL := Lib.hid (show letterB k e r n a d = false from by unfold letterB; simp [hk1, hk2])
      clear hk1 hk2
      go_enter Try.func16, Try.ntmps16
      go_wp2_with fail
      go_ret
      exact ⟨by unfold lcode; rw [HL.out]; rfl, hO⟩

end Go.Proofs.Yteifehienpeaiaa

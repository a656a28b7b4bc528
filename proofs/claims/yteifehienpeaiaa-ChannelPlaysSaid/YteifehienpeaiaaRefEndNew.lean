/-
  New of an end of a channel and of the reference end, for every input.
  Conditions: numbers are of the kind int.
-/
import Derived.Test.YteifehienpeaiaaRefEnd
set_option linter.unusedVariables false
set_option linter.unusedSimpArgs false
set_option maxRecDepth 100000
namespace Go.Proofs.Yteifehienpeaiaa
open Go.RowKit
attribute [local go_sem] max_ii min_ii min_iii

def SetOk (room wait beat : Int) : Prop := (1 ≤ room ∧ room ≤ 64) ∧ (1 ≤ wait ∧ wait ≤ 1048576) ∧ (1 ≤ beat ∧ beat ≤ 1048576)
def NewOk (room wait beat epoch role mark now : Int) : Prop := SetOk room wait beat ∧ wordB epoch = true ∧ wordB mark = true ∧ roleB role = true ∧ 0 ≤ now ∧ now ≤ 1099511627776

set_option maxHeartbeats 2000000 in
theorem rend_new (w : World) (room wait beat epoch role mark now : Int) (h : NewOk room wait beat epoch role mark now) :
    Calls Try.prog 30 #[.agg #[.int .i64 room, .int .i64 wait, .int .i64 beat], .int .i64 epoch, .int .i64 role, .int .i64 mark, .int .i64 now] w fun e w' => ∃ r, e = .returned (.tuple #[.pointer (some ⟨r, 0, none⟩), .int .i64 0]) ∧ REAt w' r ⟨room, wait, beat, epoch, role, mark, now, now, 0, 0, 0, now, 0, 0, [], []⟩ ∧ w.heap.size ≤ r ∧ Only (fun _ => False) w w' := by
  obtain ⟨⟨⟨r1, r2⟩, ⟨w1, w2⟩, ⟨b1, b2⟩⟩, he, hm, ho, n1, n2⟩ := h
  have he0 := Lib.hid he
  have hm0 := Lib.hid hm
  have ho0 := Lib.hid ho
  clear he hm ho
  have hO := (Only.refl (fun _ => False) w).alloc (.cells #[.int .i64 room, .int .i64 wait, .int .i64 beat] 69)
  have hbox := blk_new w (.cells #[.int .i64 room, .int .i64 wait, .int .i64 beat] 69)
  have x0 := blk_cell hbox 0
  have x1 := blk_cell hbox 1
  have x2 := blk_cell hbox 2
  simp only [List.getElem?_toArray, List.getElem?_cons_zero, List.getElem?_cons_succ] at x0 x1 x2
  have d1 : ¬ room < 1 := by omega
  have d2 : ¬ 64 < room := by omega
  have d3 : ¬ wait < 1 := by omega
  have d4 : ¬ 1048576 < wait := by omega
  have d5 : ¬ beat < 1 := by omega
  have d6 : ¬ 1048576 < beat := by omega
  go_enter Try.func30, Try.ntmps30
  go_wp2_with fail
  refine (rword_any epoch _).mono ?_
  rintro e _ ⟨rfl, rfl⟩
  rw [he0.out]
  go_wp2_with fail
  refine (rword_any mark _).mono ?_
  rintro e _ ⟨rfl, rfl⟩
  rw [hm0.out]
  go_wp2_with fail
  refine (rrole_any role _).mono ?_
  rintro e _ ⟨rfl, rfl⟩
  rw [ho0.out]
  generalize w.alloc (.cells #[.int .i64 room, .int .i64 wait, .int .i64 beat] 69) = wa at hO x0 x1 x2 ⊢
  go_wp2_with fail
  go_ret2
  exact ⟨wa.heap.size, rfl, ⟨.slice none 0 0, .slice none 0 0, 0, 0, blk_new wa _, SRow.nil _ _, SRow.nil _ _⟩, hO.size, hO.alloc _⟩

set_option maxHeartbeats 4000000 in
theorem rend_new_bad (w : World) (room wait beat epoch role mark now : Int) (h : ¬ NewOk room wait beat epoch role mark now) :
    Calls Try.prog 30 #[.agg #[.int .i64 room, .int .i64 wait, .int .i64 beat], .int .i64 epoch, .int .i64 role, .int .i64 mark, .int .i64 now] w fun e w' => e = .returned (.tuple #[.pointer none, .int .i64 1]) ∧ Only (fun _ => False) w w' := by
  have hO := (Only.refl (fun _ => False) w).alloc (.cells #[.int .i64 room, .int .i64 wait, .int .i64 beat] 69)
  by_cases hs : SetOk room wait beat
  · obtain ⟨⟨r1, r2⟩, ⟨w1, w2⟩, ⟨b1, b2⟩⟩ := id hs
    have HN := Lib.hid (show ¬ (wordB epoch = true ∧ wordB mark = true ∧ roleB role = true ∧ 0 ≤ now ∧ now ≤ 1099511627776) from fun x => h ⟨hs, x⟩)
    have d1 : ¬ room < 1 := by omega
    have d2 : ¬ 64 < room := by omega
    have d3 : ¬ wait < 1 := by omega
    have d4 : ¬ 1048576 < wait := by omega
    have d5 : ¬ beat < 1 := by omega
    have d6 : ¬ 1048576 < beat := by omega
    clear h hs
    go_enter Try.func30, Try.ntmps30
    go_wp2_with fail
    refine (rword_any epoch _).mono ?_
    rintro e _ ⟨rfl, rfl⟩
    cases he : wordB epoch with
    | false =>
      go_wp2_with fail
      go_ret2
      exact ⟨rfl, hO⟩
    | true =>
      have HE := Lib.hid he
      clear he
      go_wp2_with fail
      refine (rword_any mark _).mono ?_
      rintro e _ ⟨rfl, rfl⟩
      cases hm : wordB mark with
      | false =>
        go_wp2_with fail
        go_ret2
        exact ⟨rfl, hO⟩
      | true =>
        have HM := Lib.hid hm
        clear hm
        go_wp2_with fail
        refine (rrole_any role _).mono ?_
        rintro e _ ⟨rfl, rfl⟩
        cases ho : roleB role with
        | false =>
          go_wp2_with fail
          go_ret2
          exact ⟨rfl, hO⟩
        | true =>
          have hc : now < 0 ∨ (¬ now < 0 ∧ 1099511627776 < now) := by
            by_cases h1 : now < 0
            · exact .inl h1
            · refine .inr ⟨h1, ?_⟩
              apply Classical.byContradiction
              intro h2
              exact HN.out ⟨HE.out, HM.out, ho, by omega, by omega⟩
          clear ho
          rcases hc with h1 | ⟨h1, h2⟩
          all_goals
            go_wp2_with fail
            go_ret2
            exact ⟨rfl, hO⟩
  · have hc : room < 1 ∨ (¬ room < 1 ∧ (64 < room ∨ (¬ 64 < room ∧ (wait < 1 ∨ (¬ wait < 1 ∧ (1048576 < wait ∨ (¬ 1048576 < wait ∧ (beat < 1 ∨ (¬ beat < 1 ∧ 1048576 < beat))))))))) := by
      unfold SetOk at hs
      omega
    clear h hs
    rcases hc with g1 | ⟨g1, g2 | ⟨g2, g3 | ⟨g3, g4 | ⟨g4, g5 | ⟨g5, g6⟩⟩⟩⟩⟩
    all_goals
      go_enter Try.func30, Try.ntmps30
      go_wp2_with fail
      go_ret2
      exact ⟨rfl, hO⟩

set_option maxHeartbeats 4000000 in
theorem end_new_bad (w : World) (room wait beat epoch role mark now : Int) (h : ¬ NewOk room wait beat epoch role mark now) :
    Calls Try.prog 20 #[.agg #[.int .i64 room, .int .i64 wait, .int .i64 beat], .int .i64 epoch, .int .i64 role, .int .i64 mark, .int .i64 now] w fun e w' => e = .returned (.tuple #[.pointer none, .int .i64 1]) ∧ Only (fun _ => False) w w' := by
  have hO := (Only.refl (fun _ => False) w).alloc (.cells #[.int .i64 room, .int .i64 wait, .int .i64 beat] 41)
  have hbox := blk_new w (.cells #[.int .i64 room, .int .i64 wait, .int .i64 beat] 41)
  have x0 := blk_cell hbox 0
  have x1 := blk_cell hbox 1
  have x2 := blk_cell hbox 2
  simp only [List.getElem?_toArray, List.getElem?_cons_zero, List.getElem?_cons_succ] at x0 x1 x2
  by_cases hs : SetOk room wait beat
  · obtain ⟨⟨r1, r2⟩, ⟨w1, w2⟩, ⟨b1, b2⟩⟩ := id hs
    have HN := Lib.hid (show ¬ (wordB epoch = true ∧ wordB mark = true ∧ roleB role = true ∧ 0 ≤ now ∧ now ≤ 1099511627776) from fun x => h ⟨hs, x⟩)
    have hmn : ¬ mn (mn room wait) beat < 1 := by unfold mn; omega
    have hmx : ¬ 1048576 < mx wait beat := by unfold mx; omega
    have d64 : decide (64 < room) = false := decide_eq_false (by omega)
    clear h hs
    go_enter Try.func20, Try.ntmps20
    go_wp2_with fail
    refine (word_any epoch _).mono ?_
    rintro e _ ⟨rfl, rfl⟩
    cases he : wordB epoch with
    | false =>
      go_wp2_with fail
      go_ret2
      exact ⟨rfl, hO⟩
    | true =>
      have HE := Lib.hid he
      clear he
      go_wp2_with fail
      refine (word_any mark _).mono ?_
      rintro e _ ⟨rfl, rfl⟩
      cases hm : wordB mark with
      | false =>
        go_wp2_with fail
        go_ret2
        exact ⟨rfl, hO⟩
      | true =>
        have HM := Lib.hid hm
        clear hm
        go_wp2_with fail
        refine (known_role role _).mono ?_
        rintro e _ ⟨rfl, rfl⟩
        cases ho : roleB role with
        | false =>
          go_wp2_with fail
          go_ret2
          exact ⟨rfl, hO⟩
        | true =>
          have hc : now < 0 ∨ (¬ now < 0 ∧ 1099511627776 < now) := by
            by_cases h1 : now < 0
            · exact .inl h1
            · refine .inr ⟨h1, ?_⟩
              apply Classical.byContradiction
              intro h2
              exact HN.out ⟨HE.out, HM.out, ho, by omega, by omega⟩
          clear ho
          rcases hc with h1 | ⟨h1, h2⟩
          all_goals
            go_wp2_with fail
            go_ret2
            exact ⟨rfl, hO⟩
  · have hc : mn (mn room wait) beat < 1 ∨ (¬ mn (mn room wait) beat < 1 ∧ (64 < room ∨ (¬ 64 < room ∧ 1048576 < mx wait beat))) := by
      unfold SetOk at hs
      unfold mn mx
      (repeat' split) <;> omega
    clear h hs
    rcases hc with g1 | ⟨g1, g2 | ⟨g2, g3⟩⟩
    all_goals
      go_enter Try.func20, Try.ntmps20
      go_wp2_with fail
      go_ret2
      exact ⟨rfl, hO⟩

end Go.Proofs.Yteifehienpeaiaa

/-
  The contract of Take of an end of a channel at bytes that are no letter, and at letters of another epoch.
  Conditions: strings within the form's reach.
-/
import Derived.Test.YteifehienpeaiaaEnd
set_option linter.unusedVariables false
set_option linter.unusedSimpArgs false
set_option maxRecDepth 100000
namespace Go.Proofs.Yteifehienpeaiaa
open Go.RowKit

theorem take_bad (w : World) (g : Nat) (S : ByteArray) (now : Int) (hs : S.size ≤ 140737488355328) (hno : ¬ DecOk S) : Calls Try.prog 25 #[.pointer (some ⟨g, 0, none⟩), .string S, .int .i64 now] w fun e w' => e = .returned (.tuple #[.slice none 0 0, .int .i64 240]) ∧ Only (fun _ => False) w w' := by
  go_enter Try.func25, Try.ntmps25
  go_wp2_with fail
  refine (decode_none S _ hs hno).mono ?_
  rintro e w1 ⟨rfl, hk⟩
  unfold noLetter
  replace hk := hk.alloc (.cells #[.int .i64 0, .int .i64 0, .int .i64 0, .int .i64 0, .int .i64 0, .string ⟨#[]⟩] 23)
  go_wp2_with fail
  go_ret2
  exact ⟨rfl, hk⟩

theorem take_epoch (w : World) (g mo me : Nat) (s : CS) (S : ByteArray) (now : Int) (h : EndAt w g mo me s) (hs : S.size ≤ 140737488355328) (hok : DecOk S) (hne : numAt S 1 4 ≠ s.epoch) : Calls Try.prog 25 #[.pointer (some ⟨g, 0, none⟩), .string S, .int .i64 now] w fun e w' => e = .returned (.tuple #[.slice none 0 0, .int .i64 260]) ∧ Only (fun _ => False) w w' := by
  have hb : (numAt S 1 4 != s.epoch) = true := by simpa using hne
  have H := Lib.hid h
  have HK := Lib.hid hok
  clear h hne hok
  go_enter Try.func25, Try.ntmps25
  go_wp2_with fail
  refine (decode_ok S _ hs HK.out).mono ?_
  rintro e w1 ⟨rfl, hk⟩
  unfold letterV
  have hO := hk.alloc (.cells #[.int .i64 (numAt S 0 1), .int .i64 (numAt S 1 4), .int .i64 (numAt S 5 1), .int .i64 (numAt S 6 4), .int .i64 (numAt S 10 4), .string (S.extract 16 (S.size - 4))] 23)
  have h1 := H.out.keep hO
  have hx := blk_new w1 (.cells #[.int .i64 (numAt S 0 1), .int .i64 (numAt S 1 4), .int .i64 (numAt S 5 1), .int .i64 (numAt S 6 4), .int .i64 (numAt S 10 4), .string (S.extract 16 (S.size - 4))] 23)
  have y1 := (blk_cell hx 1).trans rfl
  have x3 := (blk_cell h1.cell 3).trans (show (s.cells mo me)[3]? = some (.int .i64 s.epoch) from rfl)
  have hgl := heap_lt (hk.at H.out.cell (fun h => h))
  clear h1 hx hk
  go_wp2_with fail
  generalize w1.alloc (.cells #[.int .i64 (numAt S 0 1), .int .i64 (numAt S 1 4), .int .i64 (numAt S 5 1), .int .i64 (numAt S 6 4), .int .i64 (numAt S 10 4), .string (S.extract 16 (S.size - 4))] 23) = w2 at hO y1 x3 ⊢
  generalize numAt S 1 4 = ee at y1 hb ⊢
  go_quiet (fail)
  go_wp2_with fail
  go_ret2
  exact ⟨rfl, hO.drewN _⟩

/-- Whatever an end lets out is a letter of its epoch. -/
theorem letter_ok (s : CS) (h : COk s) (n : Int) (d : ByteArray) (h1 : 1 ≤ n) (h2 : n ≤ 4294967295) (hd : d.size ≤ 4096) : DecOk (s.letter 1 n d) ∧ numAt (s.letter 1 n d) 1 4 = s.epoch ∧ (s.letter 1 n d).size ≤ 5000 := by
  have hL : letterB 1 s.epoch s.role n s.taken d = true := by
    have := h.e0; have := h.e1; have := h.o0; have := h.o1; have := h.t0; have := h.t1
    unfold letterB wordB roleB
    simp only [Bool.and_eq_true, Bool.or_eq_true, decide_eq_true_eq, beq_iff_eq]
    refine ⟨⟨⟨⟨⟨?_, ?_⟩, ?_⟩, ?_⟩, ?_⟩, .inl ⟨trivial, ?_⟩⟩ <;> omega
  unfold CS.letter
  exact ⟨let_ok hL, (let_back hL).2.1, by rw [let_size]; omega⟩
theorem beat_ok (s : CS) (h : COk s) : DecOk (s.letter 2 s.mark ⟨#[]⟩) ∧ numAt (s.letter 2 s.mark ⟨#[]⟩) 1 4 = s.epoch ∧ (s.letter 2 s.mark ⟨#[]⟩).size ≤ 5000 := by
  have hL : letterB 2 s.epoch s.role s.mark s.taken ⟨#[]⟩ = true := by
    have := h.e0; have := h.e1; have := h.o0; have := h.o1; have := h.t0; have := h.t1; have := h.m0; have := h.m1
    unfold letterB wordB roleB
    simp only [Bool.and_eq_true, Bool.or_eq_true, decide_eq_true_eq, beq_iff_eq]
    refine ⟨⟨⟨⟨⟨?_, ?_⟩, ?_⟩, ?_⟩, ?_⟩, .inr ⟨trivial, ?_⟩⟩ <;> first | omega | rfl | decide
  unfold CS.letter
  exact ⟨let_ok hL, (let_back hL).2.1, by rw [let_size]; decide⟩

end Go.Proofs.Yteifehienpeaiaa

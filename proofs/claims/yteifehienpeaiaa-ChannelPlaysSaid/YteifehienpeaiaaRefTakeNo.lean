/-
  Take of the reference end at bytes that are no letter, and at letters of another epoch.
  Conditions: strings within the form's reach.
-/
import Derived.Test.YteifehienpeaiaaRefGo
set_option linter.unusedVariables false
set_option linter.unusedSimpArgs false
set_option maxRecDepth 100000
namespace Go.Proofs.Yteifehienpeaiaa
open Go.RowKit

theorem rtake_bad (w : World) (r : Nat) (S : ByteArray) (now : Int) (hs : S.size ≤ 140737488355328) (hno : ¬ DecOk S) : Calls Try.prog 57 #[.pointer (some ⟨r, 0, none⟩), .string S, .int .i64 now] w fun e w' => e = .returned (.tuple #[.slice none 0 0, .int .i64 240]) ∧ Only (fun _ => False) w w' := by
  go_enter Try.func57, Try.ntmps57
  go_wp2_with fail
  refine (rdecode_none S _ hs hno).mono ?_
  rintro e w1 ⟨rfl, hk⟩
  unfold noLetter
  replace hk := hk.alloc (.cells #[.int .i64 0, .int .i64 0, .int .i64 0, .int .i64 0, .int .i64 0, .string ⟨#[]⟩] 23)
  go_wp2_with fail
  go_ret2
  exact ⟨rfl, hk⟩

theorem rtake_epoch (w : World) (r : Nat) (s : CS) (S : ByteArray) (now : Int) (h : REAt w r s) (hs : S.size ≤ 140737488355328) (hok : DecOk S) (hne : numAt S 1 4 ≠ s.epoch) : Calls Try.prog 57 #[.pointer (some ⟨r, 0, none⟩), .string S, .int .i64 now] w fun e w' => e = .returned (.tuple #[.slice none 0 0, .int .i64 260]) ∧ Only (fun _ => False) w w' := by
  have hb : (numAt S 1 4 != s.epoch) = true := by simpa using hne
  have H := Lib.hid h
  have HK := Lib.hid hok
  clear h hne hok
  go_enter Try.func57, Try.ntmps57
  go_wp2_with fail
  refine (rdecode_ok S _ hs HK.out).mono ?_
  rintro e w1 ⟨rfl, hk⟩
  unfold letterV
  have hO := hk.alloc (.cells #[.int .i64 (numAt S 0 1), .int .i64 (numAt S 1 4), .int .i64 (numAt S 5 1), .int .i64 (numAt S 6 4), .int .i64 (numAt S 10 4), .string (S.extract 16 (S.size - 4))] 23)
  have h1 := H.out.keep hO
  have hx := blk_new w1 (.cells #[.int .i64 (numAt S 0 1), .int .i64 (numAt S 1 4), .int .i64 (numAt S 5 1), .int .i64 (numAt S 6 4), .int .i64 (numAt S 10 4), .string (S.extract 16 (S.size - 4))] 23)
  have y1 := (blk_cell hx 1).trans rfl
  obtain ⟨wv, yv, wb, eb, hg, _, _⟩ := id h1
  have x3 := (blk_cell hg 3).trans (show (s.rcells wv yv)[3]? = some (.int .i64 s.epoch) from rfl)
  have hgl : r < w1.heap.size := (H.out.keep hk).lt
  clear h1 hx hk hg
  go_wp2_with fail
  generalize w1.alloc (.cells #[.int .i64 (numAt S 0 1), .int .i64 (numAt S 1 4), .int .i64 (numAt S 5 1), .int .i64 (numAt S 6 4), .int .i64 (numAt S 10 4), .string (S.extract 16 (S.size - 4))] 23) = w2 at hO y1 x3 ⊢
  generalize numAt S 1 4 = ee at y1 hb ⊢
  go_quiet (fail)
  go_wp2_with fail
  go_ret2
  exact ⟨rfl, hO.drewN _⟩

end Go.Proofs.Yteifehienpeaiaa

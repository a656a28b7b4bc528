/-
  SameTexts of sternpostbook at two lists that are the same.
  Conditions: lists of at most a million.
-/
import Derived.Test.YteifehienpeaiaaChanIdle
import Derived.Deep.QuietTactic
set_option linter.unusedVariables false
set_option linter.unusedSimpArgs false
set_option maxRecDepth 100000
namespace Go.Proofs.Yteifehienpeaiaa
open Go.RowKit

/-- A slice of strings that reads as this list. -/
def TextsAt (w : World) (a : Option Addr) (L : List ByteArray) : Prop := ∀ i, i < L.length → ∃ blk, a = some ⟨blk, 0, none⟩ ∧ blk < w.heap.size ∧ w.cell? ⟨blk, i, none⟩ = some (.string (L.getD i ⟨#[]⟩))
theorem TextsAt.keep {w w' : World} {a : Option Addr} {L : List ByteArray} (h : TextsAt w a L) (hk : Only (fun _ => False) w w') : TextsAt w' a L := fun i hi => by
  obtain ⟨blk, e1, e2, e3⟩ := h i hi
  exact ⟨blk, e1, Nat.lt_of_lt_of_le e2 hk.size, cell_only hk (fun h => h) e3⟩
theorem row_texts {w : World} {B : Nat} {v : Value} {L : List ByteArray} (h : w.ownsRow B 9 1 v L.length (L.map Value.string)) : ∃ a cap, v = .slice a L.length cap ∧ L.length ≤ cap ∧ TextsAt w a L := by
  obtain ⟨a, cap, e1, e2, e3⟩ := strs_lie h
  refine ⟨a, cap, e1, e2, fun i hi => ?_⟩
  obtain ⟨blk, f1, f2, f3, f4⟩ := e3 i hi
  exact ⟨blk, f1, f3, f4⟩

set_option maxHeartbeats 1000000 in
theorem same_texts (w : World) (a b : Option Addr) (ca cb : Nat) (L : List ByteArray) (hl : L.length ≤ 1000000) (ha : TextsAt w a L) (hb : TextsAt w b L) :
    Calls Try.prog 55 #[.slice a L.length ca, .slice b L.length cb] w fun e w' => e = .returned (.bool true) ∧ Only (fun _ => False) w w' := by
  have HA := Lib.hid ha
  have HB := Lib.hid hb
  clear ha hb
  generalize hN : L.length = N at hl ⊢
  have HN := Lib.hid hN
  clear hN
  go_enter Try.func55, Try.ntmps55
  go_wp2_with fail
  go_loopw [5] (fun iv wr => ∃ i : Nat, iv = .int .i64 i ∧ i ≤ N ∧ Only (fun _ => False) w wr) (fun iv _ => N - (intOf iv).toNat)
  case atStart => exact ⟨0, rfl, by omega, Only.refl _ _⟩
  case round =>
    obtain ⟨i, rfl, hiN, hO⟩ := hrel
    by_cases hi : i < N
    · obtain ⟨b1, rfl, hl1, hc1⟩ := (HA.out.keep hO) i (by rw [HN.out]; exact hi)
      obtain ⟨b2, rfl, hl2, hc2⟩ := (HB.out.keep hO) i (by rw [HN.out]; exact hi)
      generalize L.getD i ⟨#[]⟩ = x at hc1 hc2
      have hxx : (x.toList != x.toList) = false := by simp
      have hxx2 : (x.toList == x.toList) = true := by simp
      go_wp2_with fail
      go_quiet (fail)
      have hO2 := hO.drewN nq
      generalize wr.drewN nq = w2 at hO2 ⊢
      go_wp2_with fail
      go_roundw
      case rel => exact ⟨i + 1, by go_num, by omega, hO2⟩
      case measure => simp [intOf]; omega
    · go_wp2_with fail
      go_ret
      exact ⟨rfl, hO⟩

/-- At two rows of the same strings. -/
theorem same_rows {w : World} {B B' : Nat} {v v' : Value} {L : List ByteArray} (h : w.ownsRow B 9 1 v L.length (L.map Value.string)) (h' : w.ownsRow B' 9 1 v' L.length (L.map Value.string)) (hl : L.length ≤ 1000000) :
    Calls Try.prog 55 #[v, v'] w fun e w' => e = .returned (.bool true) ∧ Only (fun _ => False) w w' := by
  obtain ⟨a, ca, rfl, _, ha⟩ := row_texts h
  obtain ⟨b, cb, rfl, _, hb⟩ := row_texts h'
  exact same_texts w a b ca cb L hl ha hb

end Go.Proofs.Yteifehienpeaiaa

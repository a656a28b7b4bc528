/-
  The bytes of ARP packets, of the reference for layer 4.
  Conditions: strings within the form's reach.
-/
import Derived.Test.YtgpmphcfjlojpaaArpCode
import Derived.Test.YtgpmphcfjlojpaaText
import Derived.Deep.RegionHeld3
set_option linter.unusedVariables false
set_option linter.unusedSimpArgs false
namespace Go.Proofs.Ytgpmphcfjlojpaa
open Go.RowKit

theorem rcheck_fine (op fm fi tm ti : Int) (w : World) (h : ArpOk op fm fi tm ti) :
    Calls Try.prog 20 #[.agg #[.int .i64 op, .int .i64 fm, .int .i64 fi, .int .i64 tm, .int .i64 ti]] w fun e w' => e = .returned (.int .i64 0) ∧ Only (fun _ => False) w w' := by
  have := rcheck_any op fm fi tm ti w
  rwa [show arC op fm fi tm ti = 0 from if_pos h] at this
theorem rcheck_not (op fm fi tm ti : Int) (w : World) (h : ¬ ArpOk op fm fi tm ti) :
    Calls Try.prog 20 #[.agg #[.int .i64 op, .int .i64 fm, .int .i64 fi, .int .i64 tm, .int .i64 ti]] w fun e w' => e = .returned (.int .i64 40) ∧ Only (fun _ => False) w w' := by
  have := rcheck_any op fm fi tm ti w
  rwa [show arC op fm fi tm ti = 40 from if_neg h] at this

theorem rhead (w : World) : Calls Try.prog 36 #[] w fun e w' => e = .returned (.string ⟨#[0, 1, 8, 0, 6, 4]⟩) ∧ w = w' := by
  go_enter Try.func36, Try.ntmps36
  go_wp2
  go_ret
  exact ⟨rfl, rfl⟩

set_option maxHeartbeats 4000000 in
theorem rbytes_ok (op fm fi tm ti : Int) (w : World) (h : ArpOk op fm fi tm ti) :
    Calls Try.prog 28 #[.agg #[.int .i64 op, .int .i64 fm, .int .i64 fi, .int .i64 tm, .int .i64 ti]] w fun e w' => e = .returned (.string (arpText op fm fi tm ti)) ∧ Only (fun _ => False) w w' := by
  have b0 : 0 ≤ op ∧ op < 65536 := by rcases h.op with rfl | rfl <;> omega
  have b1 : 0 ≤ fm ∧ fm < 281474976710656 := ⟨h.fr.1, by have := h.fr.2; omega⟩
  have b2 : 0 ≤ fi ∧ fi < 4294967296 := ⟨h.fi.1, by have := h.fi.2; omega⟩
  have b3 : 0 ≤ tm ∧ tm < 281474976710656 := ⟨h.to.1, by have := h.to.2; omega⟩
  have b4 : 0 ≤ ti ∧ ti < 4294967296 := ⟨h.ti.1, by have := h.ti.2; omega⟩
  clear h
  have z0 : (textOf 2 op).size = 2 := textOf_size _ _
  have z1 : (textOf 6 fm).size = 6 := textOf_size _ _
  have z2 : (textOf 4 fi).size = 4 := textOf_size _ _
  have z3 : (textOf 6 tm).size = 6 := textOf_size _ _
  have z4 : (textOf 4 ti).size = 4 := textOf_size _ _
  have s0 : ¬ 9223372036854775807 < 6 + (textOf 2 op).size := by omega
  have s1 : ¬ 9223372036854775807 < 6 + (textOf 2 op).size + (textOf 6 fm).size := by omega
  have s2 : ¬ 9223372036854775807 < 6 + (textOf 2 op).size + (textOf 6 fm).size + (textOf 4 fi).size := by omega
  have s3 : ¬ 9223372036854775807 < 6 + (textOf 2 op).size + (textOf 6 fm).size + (textOf 4 fi).size + (textOf 6 tm).size := by omega
  have s4 : ¬ 9223372036854775807 < 6 + (textOf 2 op).size + (textOf 6 fm).size + (textOf 4 fi).size + (textOf 6 tm).size + (textOf 4 ti).size := by omega
  have hA : arpHead = ⟨#[0, 1, 8, 0, 6, 4]⟩ := rfl
  go_enter Try.func28, Try.ntmps28
  go_wp2_with fail
  have hb := blk_new w (.cells #[.int .i64 op, .int .i64 fm, .int .i64 fi, .int .i64 tm, .int .i64 ti] 23)
  have x0 := blk_cell hb 0
  have x1 := blk_cell hb 1
  have x2 := blk_cell hb 2
  have x3 := blk_cell hb 3
  have x4 := blk_cell hb 4
  simp only [List.setIfInBounds_toArray, List.set_cons_zero, List.set_cons_succ, List.getElem?_toArray, List.getElem?_cons_zero, List.getElem?_cons_succ] at x0 x1 x2 x3 x4
  have hO := (Only.refl (fun _ => False) w).alloc (.cells #[.int .i64 op, .int .i64 fm, .int .i64 fi, .int .i64 tm, .int .i64 ti] 23)
  clear hb
  generalize w.alloc (.cells #[.int .i64 op, .int .i64 fm, .int .i64 fi, .int .i64 tm, .int .i64 ti] 23) = w0 at *
  generalize w.heap.size = p at *
  go_region_held3 (fun w' => (w'.cell? ⟨p, 0, none⟩ = some (.int .i64 op) ∧ w'.cell? ⟨p, 1, none⟩ = some (.int .i64 fm) ∧ w'.cell? ⟨p, 2, none⟩ = some (.int .i64 fi) ∧ w'.cell? ⟨p, 3, none⟩ = some (.int .i64 tm) ∧ w'.cell? ⟨p, 4, none⟩ = some (.int .i64 ti)) ∧ Only (fun _ => False) w w')
    (first | exact ⟨⟨x0, x1, x2, x3, x4⟩, hO⟩ | exact ⟨⟨x0, x1, x2, x3, x4⟩, hO.drew⟩ | assumption)
    (first | (go_at_call 38; refine (rtext_any _ _ _ (by omega)).mono ?_; rintro e wn ⟨rfl, hk⟩; replace x0 := cell_only hk (fun h => h) x0; replace x1 := cell_only hk (fun h => h) x1; replace x2 := cell_only hk (fun h => h) x2; replace x3 := cell_only hk (fun h => h) x3; replace x4 := cell_only hk (fun h => h) x4; replace hO := hO.step hk ⟨rfl, rfl, rfl, rfl⟩ (fun _ _ h => h)) | (go_at_call 36; refine (rhead _).mono ?_; rintro e _ ⟨rfl, rfl⟩))
  go_wp2_with fail
  go_ret
  exact ⟨by rw [← hA]; rfl, hO⟩

theorem rencode_ok (op fm fi tm ti : Int) (w : World) (h : ArpOk op fm fi tm ti) :
    Calls Try.prog 18 #[.agg #[.int .i64 op, .int .i64 fm, .int .i64 fi, .int .i64 tm, .int .i64 ti]] w fun e w' => e = .returned (.tuple #[.string (arpText op fm fi tm ti), .int .i64 0]) ∧ Only (fun _ => False) w w' := by
  have H := Lib.hid h
  clear h
  go_enter Try.func18, Try.ntmps18
  go_wp2_with fail
  refine (rcheck_fine op fm fi tm ti _ H.out).mono ?_
  rintro e w1 ⟨rfl, hk1⟩
  have hb := hk1.at (blk_new w _) (fun h => h)
  have hO := ((Only.refl (fun _ => False) w).alloc _).then hk1 (fun _ _ h => h)
  have x0 := blk_cell hb 0
  have x1 := blk_cell hb 1
  have x2 := blk_cell hb 2
  have x3 := blk_cell hb 3
  have x4 := blk_cell hb 4
  simp only [List.setIfInBounds_toArray, List.set_cons_zero, List.set_cons_succ, List.getElem?_toArray, List.getElem?_cons_zero, List.getElem?_cons_succ] at x0 x1 x2 x3 x4
  go_wp2_with fail
  refine (rbytes_ok op fm fi tm ti _ H.out).mono ?_
  rintro e w2 ⟨rfl, hk⟩
  replace hO := hO.trans hk
  go_wp2_with fail
  go_ret2
  exact ⟨rfl, hO⟩

theorem rencode_bad (op fm fi tm ti : Int) (w : World) (h : ¬ ArpOk op fm fi tm ti) :
    Calls Try.prog 18 #[.agg #[.int .i64 op, .int .i64 fm, .int .i64 fi, .int .i64 tm, .int .i64 ti]] w fun e w' => e = .returned (.tuple #[.string ⟨#[]⟩, .int .i64 40]) ∧ Only (fun _ => False) w w' := by
  go_enter Try.func18, Try.ntmps18
  go_wp2_with fail
  refine (rcheck_not op fm fi tm ti _ h).mono ?_
  rintro e w1 ⟨rfl, hk1⟩
  have hK1 := ((Only.refl (fun _ => False) w).alloc _).then hk1 (fun _ _ h => h)
  go_wp2_with fail
  go_ret2
  exact ⟨rfl, hK1⟩

theorem rencode_any (op fm fi tm ti : Int) (w : World) :
    Calls Try.prog 18 #[.agg #[.int .i64 op, .int .i64 fm, .int .i64 fi, .int .i64 tm, .int .i64 ti]] w fun e w' => e = .returned (.tuple #[.string (arpS op fm fi tm ti), .int .i64 (arC op fm fi tm ti)]) ∧ Only (fun _ => False) w w' := by
  unfold arpS arC
  by_cases h : ArpOk op fm fi tm ti
  · rw [if_pos h, if_pos h]; exact rencode_ok op fm fi tm ti w h
  · rw [if_neg h, if_neg h]; exact rencode_bad op fm fi tm ti w h

theorem num_ext (s : ByteArray) (a b : Nat) (w : World) (hb : b ≤ a + 6) :
    Calls Try.prog 37 #[.string (s.extract a b)] w fun e w' => e = .returned (.int .i64 (numAt s a (b - a))) ∧ w = w' :=
  (num_any (s.extract a b) w (by rw [ByteArray.size_extract]; omega)).mono fun _ _ x => ⟨by rw [x.1, nums_extract]; rfl, x.2⟩

/-- What bytes are as a packet. -/
def arpShape (s : ByteArray) : Prop := 28 ≤ s.size ∧ s.size ≤ 46 ∧ s.extract 0 6 = ⟨#[0, 1, 8, 0, 6, 4]⟩

end Go.Proofs.Ytgpmphcfjlojpaa

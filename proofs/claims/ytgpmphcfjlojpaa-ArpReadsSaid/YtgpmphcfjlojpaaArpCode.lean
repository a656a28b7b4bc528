/-
  The bytes of ARP packets: arp.Encode.
  Conditions: numbers are of the kind int.
-/
import Derived.Test.YtgpmphcfjlojpaaArpCheck
import Derived.Test.YtgpmphcfjlojpaaSum
import Derived.Deep.RegionHeld3
set_option linter.unusedVariables false
set_option linter.unusedSimpArgs false
namespace Go.Proofs.Ytgpmphcfjlojpaa
open Go.RowKit

theorem parts_any (b : Nat) (w : World) : Calls Try.prog 26 #[.pointer (some ⟨b, 0, none⟩)] w fun e w' => e = .returned (.slice (some ⟨w.heap.size, 0, none⟩) 5 5) ∧ w'.heap[w.heap.size]? = some (.cells #[.pointer (some ⟨b, 0, none⟩), .int .i64 2, .pointer (some ⟨b, 1, none⟩), .int .i64 6, .pointer (some ⟨b, 2, none⟩), .int .i64 4, .pointer (some ⟨b, 3, none⟩), .int .i64 6, .pointer (some ⟨b, 4, none⟩), .int .i64 4] 46) ∧ Only (fun _ => False) w w' := by
  go_enter Try.func26, Try.ntmps26
  go_wp2_with fail
  go_region
  go_wp2_with fail
  go_ret
  exact ⟨rfl, blk_new _ _, ((Only.refl _ _).alloc _).drew⟩

theorem acheck_fine (op fm fi tm ti : Int) (w : World) (h : ArpOk op fm fi tm ti) :
    Calls Try.prog 19 #[.agg #[.int .i64 op, .int .i64 fm, .int .i64 fi, .int .i64 tm, .int .i64 ti]] w fun e w' => e = .returned (.int .i64 0) ∧ Only (fun _ => False) w w' := by
  have := acheck_any op fm fi tm ti w
  rwa [show arC op fm fi tm ti = 0 from if_pos h] at this

/-- The bytes of a packet. -/
def arpHead : ByteArray := ⟨#[0, 1, 8, 0, 6, 4]⟩
def arpText (op fm fi tm ti : Int) : ByteArray := arpHead ++ textOf 2 op ++ textOf 6 fm ++ textOf 4 fi ++ textOf 6 tm ++ textOf 4 ti

set_option maxHeartbeats 4000000 in
theorem aencode_ok (op fm fi tm ti : Int) (w : World) (h : ArpOk op fm fi tm ti) :
    Calls Try.prog 17 #[.agg #[.int .i64 op, .int .i64 fm, .int .i64 fi, .int .i64 tm, .int .i64 ti]] w fun e w' => e = .returned (.tuple #[.string (arpText op fm fi tm ti), .int .i64 0]) ∧ Only (fun _ => False) w w' := by
  have H := Lib.hid h
  have b0 : 0 ≤ op ∧ op < 65536 := by rcases h.op with rfl | rfl <;> omega
  have b1 : 0 ≤ fm ∧ fm < 281474976710656 := ⟨h.fr.1, by have := h.fr.2; omega⟩
  have b2 : 0 ≤ fi ∧ fi < 4294967296 := ⟨h.fi.1, by have := h.fi.2; omega⟩
  have b3 : 0 ≤ tm ∧ tm < 281474976710656 := ⟨h.to.1, by have := h.to.2; omega⟩
  have b4 : 0 ≤ ti ∧ ti < 4294967296 := ⟨h.ti.1, by have := h.ti.2; omega⟩
  clear h
  have z0 : (textOf 2 op).size = 2 := textOf_size _ _
  have z1 : (textOf 6 fm).size = 6 := textOf_size _ _
  have z2 : (textOf 4 fi).size = 4 := textOf_size _ _
  have z3 : (textOf 6 tm).size = 6 := textOf_size _ _
  have z4 : (textOf 4 ti).size = 4 := textOf_size _ _
  have zh : arpHead.size = 6 := rfl
  have hA : arpHead = ⟨#[0, 1, 8, 0, 6, 4]⟩ := rfl
  have s0 : ¬ 9223372036854775807 < 6 + (textOf 2 op).size := by omega
  have s1 : ¬ 9223372036854775807 < 6 + (textOf 2 op).size + (textOf 6 fm).size := by omega
  have s2 : ¬ 9223372036854775807 < 6 + (textOf 2 op).size + (textOf 6 fm).size + (textOf 4 fi).size := by omega
  have s3 : ¬ 9223372036854775807 < 6 + (textOf 2 op).size + (textOf 6 fm).size + (textOf 4 fi).size + (textOf 6 tm).size := by omega
  have s4 : ¬ 9223372036854775807 < 6 + (textOf 2 op).size + (textOf 6 fm).size + (textOf 4 fi).size + (textOf 6 tm).size + (textOf 4 ti).size := by omega
  have HP := Lib.hid (fun b w => parts_any b w)
  go_enter Try.func17, Try.ntmps17
  go_wp2_with fail
  have hb := blk_new w (.cells #[.int .i64 op, .int .i64 fm, .int .i64 fi, .int .i64 tm, .int .i64 ti] 23)
  refine (acheck_fine op fm fi tm ti _ H.out).mono ?_
  rintro e w1 ⟨rfl, hk⟩
  replace hb := hk.at hb (fun h => h)
  have hO := ((Only.refl (fun _ => False) w).alloc _).then hk (fun _ _ h => h)
  clear hk
  have hl := heap_lt hb
  generalize w.heap.size = p at *
  go_wp2_with fail
  refine (parts_any p _).mono ?_
  rintro e w2 ⟨rfl, hq, hk⟩
  replace hb := hk.at hb (fun h => h)
  replace hO := hO.trans hk
  have hne : p < w1.heap.size := hl
  clear hk hl
  generalize w1.heap.size = q at *
  have x0 := blk_cell hb 0
  have x1 := blk_cell hb 1
  have x2 := blk_cell hb 2
  have x3 := blk_cell hb 3
  have x4 := blk_cell hb 4
  have y0 := blk_cell hq 0
  have y1 := blk_cell hq 1
  have y2 := blk_cell hq 2
  have y3 := blk_cell hq 3
  have y4 := blk_cell hq 4
  have y5 := blk_cell hq 5
  have y6 := blk_cell hq 6
  have y7 := blk_cell hq 7
  have y8 := blk_cell hq 8
  have y9 := blk_cell hq 9
  simp only [List.getElem?_toArray, List.getElem?_cons_zero, List.getElem?_cons_succ] at x0 x1 x2 x3 x4 y0 y1 y2 y3 y4 y5 y6 y7 y8 y9
  clear hb hq
  generalize w2 = u0 at *
  go_wp2_with fail
  refine wp_loop_rounds 6 ?_
  rw [rounds_succ]
  go_wp2_with fail
  have hm := (Only.refl (fun _ => False) u0).alloc (.cells #[.pointer (some ⟨p, 0, none⟩), .int .i64 2] 46)
  have hv := blk_new u0 (.cells #[.pointer (some ⟨p, 0, none⟩), .int .i64 2] 46)
  have v0 := blk_cell hv 0
  have v1 := blk_cell hv 1
  simp only [List.getElem?_toArray, List.getElem?_cons_zero, List.getElem?_cons_succ] at v0 v1
  replace hO := hO.alloc (.cells #[.pointer (some ⟨p, 0, none⟩), .int .i64 2] 46)
  replace x0 := cell_only hm (fun h => h) x0
  replace x1 := cell_only hm (fun h => h) x1
  replace x2 := cell_only hm (fun h => h) x2
  replace x3 := cell_only hm (fun h => h) x3
  replace x4 := cell_only hm (fun h => h) x4
  replace y2 := cell_only hm (fun h => h) y2
  replace y3 := cell_only hm (fun h => h) y3
  replace y4 := cell_only hm (fun h => h) y4
  replace y5 := cell_only hm (fun h => h) y5
  replace y6 := cell_only hm (fun h => h) y6
  replace y7 := cell_only hm (fun h => h) y7
  replace y8 := cell_only hm (fun h => h) y8
  replace y9 := cell_only hm (fun h => h) y9
  clear hm hv
  generalize u0.alloc (.cells #[.pointer (some ⟨p, 0, none⟩), .int .i64 2] 46) = m0 at *
  generalize u0.heap.size = v at *
  go_region_held3 (fun w' => (w'.cell? ⟨v, 0, none⟩ = some (.pointer (some ⟨p, 0, none⟩)) ∧ w'.cell? ⟨v, 1, none⟩ = some (.int .i64 2) ∧ w'.cell? ⟨p, 0, none⟩ = some (.int .i64 op)) ∧ Only (fun _ => False) w w')
    (first | exact ⟨⟨v0, v1, x0⟩, hO⟩ | exact ⟨⟨v0, v1, x0⟩, hO.drew⟩ | assumption)
    (first | (go_at_call 27; refine (put2 op _ (by exact b0.1) (by exact b0.2)).mono ?_; rintro e u1 ⟨rfl, hk⟩; replace x0 := cell_only hk (fun h => h) x0; replace x1 := cell_only hk (fun h => h) x1; replace x2 := cell_only hk (fun h => h) x2; replace x3 := cell_only hk (fun h => h) x3; replace x4 := cell_only hk (fun h => h) x4; replace y2 := cell_only hk (fun h => h) y2; replace y3 := cell_only hk (fun h => h) y3; replace y4 := cell_only hk (fun h => h) y4; replace y5 := cell_only hk (fun h => h) y5; replace y6 := cell_only hk (fun h => h) y6; replace y7 := cell_only hk (fun h => h) y7; replace y8 := cell_only hk (fun h => h) y8; replace y9 := cell_only hk (fun h => h) y9; replace v0 := cell_only hk (fun h => h) v0; replace v1 := cell_only hk (fun h => h) v1; replace hO := hO.step hk ⟨rfl, rfl, rfl, rfl⟩ (fun _ _ h => h)))
  clear x0 v0 v1 
  go_wp2_with fail
  rw [rounds_succ]
  go_wp2_with fail
  have hm := (Only.refl (fun _ => False) u1).alloc (.cells #[.pointer (some ⟨p, 1, none⟩), .int .i64 6] 46)
  have hv := blk_new u1 (.cells #[.pointer (some ⟨p, 1, none⟩), .int .i64 6] 46)
  have v0 := blk_cell hv 0
  have v1 := blk_cell hv 1
  simp only [List.getElem?_toArray, List.getElem?_cons_zero, List.getElem?_cons_succ] at v0 v1
  replace hO := hO.alloc (.cells #[.pointer (some ⟨p, 1, none⟩), .int .i64 6] 46)
  replace x1 := cell_only hm (fun h => h) x1
  replace x2 := cell_only hm (fun h => h) x2
  replace x3 := cell_only hm (fun h => h) x3
  replace x4 := cell_only hm (fun h => h) x4
  replace y4 := cell_only hm (fun h => h) y4
  replace y5 := cell_only hm (fun h => h) y5
  replace y6 := cell_only hm (fun h => h) y6
  replace y7 := cell_only hm (fun h => h) y7
  replace y8 := cell_only hm (fun h => h) y8
  replace y9 := cell_only hm (fun h => h) y9
  clear hm hv
  generalize u1.alloc (.cells #[.pointer (some ⟨p, 1, none⟩), .int .i64 6] 46) = m1 at *
  generalize u1.heap.size = v at *
  go_region_held3 (fun w' => (w'.cell? ⟨v, 0, none⟩ = some (.pointer (some ⟨p, 1, none⟩)) ∧ w'.cell? ⟨v, 1, none⟩ = some (.int .i64 6) ∧ w'.cell? ⟨p, 1, none⟩ = some (.int .i64 fm)) ∧ Only (fun _ => False) w w')
    (first | exact ⟨⟨v0, v1, x1⟩, hO⟩ | exact ⟨⟨v0, v1, x1⟩, hO.drew⟩ | assumption)
    (first | (go_at_call 27; refine (put6 fm _ (by exact b1.1) (by exact b1.2)).mono ?_; rintro e u2 ⟨rfl, hk⟩; replace x1 := cell_only hk (fun h => h) x1; replace x2 := cell_only hk (fun h => h) x2; replace x3 := cell_only hk (fun h => h) x3; replace x4 := cell_only hk (fun h => h) x4; replace y4 := cell_only hk (fun h => h) y4; replace y5 := cell_only hk (fun h => h) y5; replace y6 := cell_only hk (fun h => h) y6; replace y7 := cell_only hk (fun h => h) y7; replace y8 := cell_only hk (fun h => h) y8; replace y9 := cell_only hk (fun h => h) y9; replace v0 := cell_only hk (fun h => h) v0; replace v1 := cell_only hk (fun h => h) v1; replace hO := hO.step hk ⟨rfl, rfl, rfl, rfl⟩ (fun _ _ h => h)))
  clear x1 v0 v1 
  go_wp2_with fail
  rw [rounds_succ]
  go_wp2_with fail
  have hm := (Only.refl (fun _ => False) u2).alloc (.cells #[.pointer (some ⟨p, 2, none⟩), .int .i64 4] 46)
  have hv := blk_new u2 (.cells #[.pointer (some ⟨p, 2, none⟩), .int .i64 4] 46)
  have v0 := blk_cell hv 0
  have v1 := blk_cell hv 1
  simp only [List.getElem?_toArray, List.getElem?_cons_zero, List.getElem?_cons_succ] at v0 v1
  replace hO := hO.alloc (.cells #[.pointer (some ⟨p, 2, none⟩), .int .i64 4] 46)
  replace x2 := cell_only hm (fun h => h) x2
  replace x3 := cell_only hm (fun h => h) x3
  replace x4 := cell_only hm (fun h => h) x4
  replace y6 := cell_only hm (fun h => h) y6
  replace y7 := cell_only hm (fun h => h) y7
  replace y8 := cell_only hm (fun h => h) y8
  replace y9 := cell_only hm (fun h => h) y9
  clear hm hv
  generalize u2.alloc (.cells #[.pointer (some ⟨p, 2, none⟩), .int .i64 4] 46) = m2 at *
  generalize u2.heap.size = v at *
  go_region_held3 (fun w' => (w'.cell? ⟨v, 0, none⟩ = some (.pointer (some ⟨p, 2, none⟩)) ∧ w'.cell? ⟨v, 1, none⟩ = some (.int .i64 4) ∧ w'.cell? ⟨p, 2, none⟩ = some (.int .i64 fi)) ∧ Only (fun _ => False) w w')
    (first | exact ⟨⟨v0, v1, x2⟩, hO⟩ | exact ⟨⟨v0, v1, x2⟩, hO.drew⟩ | assumption)
    (first | (go_at_call 27; refine (put4 fi _ (by exact b2.1) (by exact b2.2)).mono ?_; rintro e u3 ⟨rfl, hk⟩; replace x2 := cell_only hk (fun h => h) x2; replace x3 := cell_only hk (fun h => h) x3; replace x4 := cell_only hk (fun h => h) x4; replace y6 := cell_only hk (fun h => h) y6; replace y7 := cell_only hk (fun h => h) y7; replace y8 := cell_only hk (fun h => h) y8; replace y9 := cell_only hk (fun h => h) y9; replace v0 := cell_only hk (fun h => h) v0; replace v1 := cell_only hk (fun h => h) v1; replace hO := hO.step hk ⟨rfl, rfl, rfl, rfl⟩ (fun _ _ h => h)))
  clear x2 v0 v1 
  go_wp2_with fail
  rw [rounds_succ]
  go_wp2_with fail
  have hm := (Only.refl (fun _ => False) u3).alloc (.cells #[.pointer (some ⟨p, 3, none⟩), .int .i64 6] 46)
  have hv := blk_new u3 (.cells #[.pointer (some ⟨p, 3, none⟩), .int .i64 6] 46)
  have v0 := blk_cell hv 0
  have v1 := blk_cell hv 1
  simp only [List.getElem?_toArray, List.getElem?_cons_zero, List.getElem?_cons_succ] at v0 v1
  replace hO := hO.alloc (.cells #[.pointer (some ⟨p, 3, none⟩), .int .i64 6] 46)
  replace x3 := cell_only hm (fun h => h) x3
  replace x4 := cell_only hm (fun h => h) x4
  replace y8 := cell_only hm (fun h => h) y8
  replace y9 := cell_only hm (fun h => h) y9
  clear hm hv
  generalize u3.alloc (.cells #[.pointer (some ⟨p, 3, none⟩), .int .i64 6] 46) = m3 at *
  generalize u3.heap.size = v at *
  go_region_held3 (fun w' => (w'.cell? ⟨v, 0, none⟩ = some (.pointer (some ⟨p, 3, none⟩)) ∧ w'.cell? ⟨v, 1, none⟩ = some (.int .i64 6) ∧ w'.cell? ⟨p, 3, none⟩ = some (.int .i64 tm)) ∧ Only (fun _ => False) w w')
    (first | exact ⟨⟨v0, v1, x3⟩, hO⟩ | exact ⟨⟨v0, v1, x3⟩, hO.drew⟩ | assumption)
    (first | (go_at_call 27; refine (put6 tm _ (by exact b3.1) (by exact b3.2)).mono ?_; rintro e u4 ⟨rfl, hk⟩; replace x3 := cell_only hk (fun h => h) x3; replace x4 := cell_only hk (fun h => h) x4; replace y8 := cell_only hk (fun h => h) y8; replace y9 := cell_only hk (fun h => h) y9; replace v0 := cell_only hk (fun h => h) v0; replace v1 := cell_only hk (fun h => h) v1; replace hO := hO.step hk ⟨rfl, rfl, rfl, rfl⟩ (fun _ _ h => h)))
  clear x3 v0 v1 
  go_wp2_with fail
  rw [rounds_succ]
  go_wp2_with fail
  have hm := (Only.refl (fun _ => False) u4).alloc (.cells #[.pointer (some ⟨p, 4, none⟩), .int .i64 4] 46)
  have hv := blk_new u4 (.cells #[.pointer (some ⟨p, 4, none⟩), .int .i64 4] 46)
  have v0 := blk_cell hv 0
  have v1 := blk_cell hv 1
  simp only [List.getElem?_toArray, List.getElem?_cons_zero, List.getElem?_cons_succ] at v0 v1
  replace hO := hO.alloc (.cells #[.pointer (some ⟨p, 4, none⟩), .int .i64 4] 46)
  replace x4 := cell_only hm (fun h => h) x4
  clear hm hv
  generalize u4.alloc (.cells #[.pointer (some ⟨p, 4, none⟩), .int .i64 4] 46) = m4 at *
  generalize u4.heap.size = v at *
  go_region_held3 (fun w' => (w'.cell? ⟨v, 0, none⟩ = some (.pointer (some ⟨p, 4, none⟩)) ∧ w'.cell? ⟨v, 1, none⟩ = some (.int .i64 4) ∧ w'.cell? ⟨p, 4, none⟩ = some (.int .i64 ti)) ∧ Only (fun _ => False) w w')
    (first | exact ⟨⟨v0, v1, x4⟩, hO⟩ | exact ⟨⟨v0, v1, x4⟩, hO.drew⟩ | assumption)
    (first | (go_at_call 27; refine (put4 ti _ (by exact b4.1) (by exact b4.2)).mono ?_; rintro e u5 ⟨rfl, hk⟩; replace x4 := cell_only hk (fun h => h) x4; replace v0 := cell_only hk (fun h => h) v0; replace v1 := cell_only hk (fun h => h) v1; replace hO := hO.step hk ⟨rfl, rfl, rfl, rfl⟩ (fun _ _ h => h)))
  clear x4 v0 v1 
  go_wp2_with fail
  rw [rounds_succ]
  go_wp2_with fail
  go_ret2
  exact ⟨by rw [← hA]; rfl, hO⟩

theorem acheck_not (op fm fi tm ti : Int) (w : World) (h : ¬ ArpOk op fm fi tm ti) :
    Calls Try.prog 19 #[.agg #[.int .i64 op, .int .i64 fm, .int .i64 fi, .int .i64 tm, .int .i64 ti]] w fun e w' => e = .returned (.int .i64 40) ∧ Only (fun _ => False) w w' := by
  have := acheck_any op fm fi tm ti w
  rwa [show arC op fm fi tm ti = 40 from if_neg h] at this

theorem aencode_bad (op fm fi tm ti : Int) (w : World) (h : ¬ ArpOk op fm fi tm ti) :
    Calls Try.prog 17 #[.agg #[.int .i64 op, .int .i64 fm, .int .i64 fi, .int .i64 tm, .int .i64 ti]] w fun e w' => e = .returned (.tuple #[.string ⟨#[]⟩, .int .i64 40]) ∧ Only (fun _ => False) w w' := by
  go_enter Try.func17, Try.ntmps17
  go_wp2_with fail
  refine (acheck_not op fm fi tm ti _ h).mono ?_
  rintro e w1 ⟨rfl, hk1⟩
  have hK1 := ((Only.refl (fun _ => False) w).alloc _).then hk1 (fun _ _ h => h)
  go_wp2_with fail
  go_ret2
  exact ⟨rfl, hK1⟩

open Classical in
noncomputable def arpS (op fm fi tm ti : Int) : ByteArray := if ArpOk op fm fi tm ti then arpText op fm fi tm ti else ⟨#[]⟩

theorem aencode_any (op fm fi tm ti : Int) (w : World) :
    Calls Try.prog 17 #[.agg #[.int .i64 op, .int .i64 fm, .int .i64 fi, .int .i64 tm, .int .i64 ti]] w fun e w' => e = .returned (.tuple #[.string (arpS op fm fi tm ti), .int .i64 (arC op fm fi tm ti)]) ∧ Only (fun _ => False) w w' := by
  unfold arpS arC
  by_cases h : ArpOk op fm fi tm ti
  · rw [if_pos h, if_pos h]; exact aencode_ok op fm fi tm ti w h
  · rw [if_neg h, if_neg h]; exact aencode_bad op fm fi tm ti w h

end Go.Proofs.Ytgpmphcfjlojpaa

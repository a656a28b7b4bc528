/-
  The bytes of ARP packets: arp.Decode.
  Conditions: strings within the form's reach.
-/
import Derived.Test.YtgpmphcfjlojpaaArpCode
import Derived.Test.YtgpmphcfjlojpaaArp
import Derived.Deep.RegionHeld3
set_option linter.unusedVariables false
set_option linter.unusedSimpArgs false
namespace Go.Proofs.Ytgpmphcfjlojpaa
open Go.RowKit

theorem hasPrefix2 (s : ByteArray) (w : World) (h : 28 ≤ s.size) :
    Calls Try.prog 41 #[.string s, .string ⟨#[0, 1, 8, 0, 6, 4]⟩] w fun e w' => e = .returned (.bool ((s.extract 0 6).toList == [0, 1, 8, 0, 6, 4])) ∧ w = w' := by
  have h6 : (6 : Int) ≤ (s.size : Int) := by omega
  have d1 : decide ((6 : Int) ≤ (s.size : Int)) = true := decide_eq_true h6
  generalize hb : ((s.extract 0 6).toList == [0, 1, 8, 0, 6, 4]) = b
  have HB := Lib.hid hb
  clear hb
  go_enter Try.func41, Try.ntmps41
  go_wp2_with fail
  rw [HB.out]
  go_wp2_with fail
  go_ret
  exact ⟨rfl, rfl⟩
theorem hasPrefix (s : ByteArray) (w : World) (h : 28 ≤ s.size) :
    Calls Try.prog 34 #[.string s, .string ⟨#[0, 1, 8, 0, 6, 4]⟩] w fun e w' => e = .returned (.bool ((s.extract 0 6).toList == [0, 1, 8, 0, 6, 4])) ∧ w = w' := by
  go_enter Try.func34, Try.ntmps34
  go_wp2_with fail
  refine (hasPrefix2 s _ h).mono ?_
  rintro e _ ⟨rfl, rfl⟩
  go_wp2_with fail
  go_ret
  exact ⟨rfl, rfl⟩

theorem cell_setOther {w : World} {p a : Addr} {v x : Value} (hc : w.cell? a = some v) (hne : p.block ≠ a.block) : (w.setCell p x).cell? a = some v := by
  rw [World.cell?_of_block (w := w) (w' := w.setCell p x) (a := a) (Below.heap_setCell _ _ _ _ (fun e => hne e.symm))]; exact hc

theorem adecode_size (s : ByteArray) (w : World) (h : s.size < 28 ∨ 46 < s.size) :
    Calls Try.prog 22 #[.string s] w fun e w' => e = .returned (.tuple #[.agg #[.int .i64 0, .int .i64 0, .int .i64 0, .int .i64 0, .int .i64 0], .int .i64 40]) ∧ Only (fun _ => False) w w' := by
  by_cases h1 : s.size < 28
  · have d1 : decide ((s.size : Int) < 28) = true := decide_eq_true (by omega)
    have s28 : (s.size : Int) < 28 := by omega
    clear h h1
    go_enter Try.func22, Try.ntmps22
    go_wp2_with fail
    refine bodyPost_ret (v := .tuple #[.agg #[.int .i64 0, .int .i64 0, .int .i64 0, .int .i64 0, .int .i64 0], .int .i64 40]) (by simp [results, Try.results22, go_sem]) rfl ⟨rfl, ?_⟩
    repeat (first | exact Only.refl _ _ | apply Only.alloc | refine Only.setCell ?_ _ _ (by simp))
  · have h2 : 46 < s.size := by omega
    have d1 : decide ((s.size : Int) < 28) = false := decide_eq_false (by omega)
    have d2 : decide (46 < (s.size : Int)) = true := decide_eq_true (by omega)
    have s28 : (28 : Int) ≤ s.size := by omega
    have s46 : (46 : Int) < s.size := by omega
    clear h h1
    go_enter Try.func22, Try.ntmps22
    go_wp2_with fail
    refine bodyPost_ret (v := .tuple #[.agg #[.int .i64 0, .int .i64 0, .int .i64 0, .int .i64 0, .int .i64 0], .int .i64 40]) (by simp [results, Try.results22, go_sem]) rfl ⟨rfl, ?_⟩
    repeat (first | exact Only.refl _ _ | apply Only.alloc | refine Only.setCell ?_ _ _ (by simp))

theorem adecode_head (s : ByteArray) (w : World) (h0 : 28 ≤ s.size) (h1 : s.size ≤ 46) (hp : s.extract 0 6 ≠ ⟨#[0, 1, 8, 0, 6, 4]⟩) :
    Calls Try.prog 22 #[.string s] w fun e w' => e = .returned (.tuple #[.agg #[.int .i64 0, .int .i64 0, .int .i64 0, .int .i64 0, .int .i64 0], .int .i64 40]) ∧ Only (fun _ => False) w w' := by
  have hp' : ((s.extract 0 6).toList == [0, 1, 8, 0, 6, 4]) = false := by
    rw [beq_eq_false_iff_ne]
    intro e
    exact hp (ByteArray.ext (Array.toList_inj.1 (by simpa [ByteArray.toList_eq] using e)))
  have d1 : decide ((s.size : Int) < 28) = false := decide_eq_false (by omega)
  have d2 : decide (46 < (s.size : Int)) = false := decide_eq_false (by omega)
  have s28 : (28 : Int) ≤ s.size := by omega
  have s46 : (s.size : Int) ≤ 46 := by omega
  have HH := Lib.hid (fun w => hasPrefix s w h0)
  rw [hp'] at HH
  clear hp hp'
  go_enter Try.func22, Try.ntmps22
  go_wp2_with fail
  refine (HH.out _).mono ?_
  rintro e _ ⟨rfl, rfl⟩
  go_wp2_with fail
  refine bodyPost_ret (v := .tuple #[.agg #[.int .i64 0, .int .i64 0, .int .i64 0, .int .i64 0, .int .i64 0], .int .i64 40]) (by simp [results, Try.results22, go_sem]) rfl ⟨rfl, ?_⟩
  repeat (first | exact Only.refl _ _ | apply Only.alloc | refine Only.setCell ?_ _ _ (by simp))

set_option maxHeartbeats 8000000 in
theorem adecode_ok (s : ByteArray) (w : World) (h0 : 28 ≤ s.size) (h1 : s.size ≤ 46) (hp : s.extract 0 6 = ⟨#[0, 1, 8, 0, 6, 4]⟩) :
    Calls Try.prog 22 #[.string s] w fun e w' => e = .returned (.tuple #[.agg #[.int .i64 (amade (numAt s 6 2) (numAt s 8 6) (numAt s 14 4) (numAt s 18 6) (numAt s 24 4)).op, .int .i64 (amade (numAt s 6 2) (numAt s 8 6) (numAt s 14 4) (numAt s 18 6) (numAt s 24 4)).fm, .int .i64 (amade (numAt s 6 2) (numAt s 8 6) (numAt s 14 4) (numAt s 18 6) (numAt s 24 4)).fi, .int .i64 (amade (numAt s 6 2) (numAt s 8 6) (numAt s 14 4) (numAt s 18 6) (numAt s 24 4)).tm, .int .i64 (amade (numAt s 6 2) (numAt s 8 6) (numAt s 14 4) (numAt s 18 6) (numAt s 24 4)).ti], .int .i64 (arC (numAt s 6 2) (numAt s 8 6) (numAt s 14 4) (numAt s 18 6) (numAt s 24 4))]) ∧ Only (fun _ => False) w w' := by
  have hp' : ((s.extract 0 6).toList == [0, 1, 8, 0, 6, 4]) = true := by rw [hp]; decide +kernel
  have d1 : decide ((s.size : Int) < 28) = false := decide_eq_false (by omega)
  have d2 : decide (46 < (s.size : Int)) = false := decide_eq_false (by omega)
  have s28 : (28 : Int) ≤ s.size := by omega
  have s46 : (s.size : Int) ≤ 46 := by omega
  have HH := Lib.hid (fun w => hasPrefix s w h0)
  rw [hp'] at HH
  clear hp hp'
  have HM := Lib.hid (fun w => made_any (numAt s 6 2) (numAt s 8 6) (numAt s 14 4) (numAt s 18 6) (numAt s 24 4) w)
  generalize hm0 : amade (numAt s 6 2) (numAt s 8 6) (numAt s 14 4) (numAt s 18 6) (numAt s 24 4) = am at HM ⊢
  generalize hm1 : arC (numAt s 6 2) (numAt s 8 6) (numAt s 14 4) (numAt s 18 6) (numAt s 24 4) = ac at HM ⊢
  clear hm0 hm1
  obtain ⟨m0, m1, m2, m3, m4⟩ := am
  simp only at HM ⊢
  go_enter Try.func22, Try.ntmps22
  go_wp2_with fail
  refine (HH.out _).mono ?_
  rintro e _ ⟨rfl, rfl⟩
  go_wp2_with fail
  have hr := blk_alloc (blk_new w (.cells #[.int .i64 0, .int .i64 0, .int .i64 0, .int .i64 0, .int .i64 0] 23)) (.cells #[.int .i64 0, .int .i64 0, .int .i64 0, .int .i64 0, .int .i64 0] 23)
  have hb := blk_new2 w (.cells #[.int .i64 0, .int .i64 0, .int .i64 0, .int .i64 0, .int .i64 0] 23) (.cells #[.int .i64 0, .int .i64 0, .int .i64 0, .int .i64 0, .int .i64 0] 23)
  have hO := ((Only.refl (fun _ => False) w).alloc (.cells #[.int .i64 0, .int .i64 0, .int .i64 0, .int .i64 0, .int .i64 0] 23)).alloc (.cells #[.int .i64 0, .int .i64 0, .int .i64 0, .int .i64 0, .int .i64 0] 23)
  refine (parts_any _ _).mono ?_
  rintro e w1 ⟨rfl, hq, hk⟩
  replace hr := hk.at hr (fun h => h)
  replace hb := hk.at hb (fun h => h)
  replace hO := hO.trans hk
  have hne : w.heap.size + 1 < ((w.alloc (.cells #[.int .i64 0, .int .i64 0, .int .i64 0, .int .i64 0, .int .i64 0] 23)).alloc (.cells #[.int .i64 0, .int .i64 0, .int .i64 0, .int .i64 0, .int .i64 0] 23)).heap.size := by rw [World.size_alloc, World.size_alloc]; omega
  clear hk
  generalize ((w.alloc (.cells #[.int .i64 0, .int .i64 0, .int .i64 0, .int .i64 0, .int .i64 0] 23)).alloc (.cells #[.int .i64 0, .int .i64 0, .int .i64 0, .int .i64 0, .int .i64 0] 23)).heap.size = q at *
  have hp1 : w.heap.size < w.heap.size + 1 := by omega
  generalize hpp : w.heap.size + 1 = p at *
  generalize hrr : w.heap.size = r at *
  have hpw : ¬ p < w.heap.size := by omega
  have hrw : ¬ r < w.heap.size := by omega
  have y0 := blk_cell hq 0
  have y1 := blk_cell hq 1
  have y2 := blk_cell hq 2
  have y3 := blk_cell hq 3
  have y4 := blk_cell hq 4
  have y5 := blk_cell hq 5
  have y6 := blk_cell hq 6
  have y7 := blk_cell hq 7
  have y8 := blk_cell hq 8
  have y9 := blk_cell hq 9
  simp only [List.setIfInBounds_toArray, List.set_cons_zero, List.set_cons_succ, List.getElem?_toArray, List.getElem?_cons_zero, List.getElem?_cons_succ] at y0 y1 y2 y3 y4 y5 y6 y7 y8 y9
  clear hq
  generalize w1 = ua0 at *
  go_wp2_with fail
  refine wp_loop_rounds 6 ?_
  rw [rounds_succ]
  go_wp2_with fail
  have hm := (Only.refl (fun _ => False) ua0).alloc (.cells #[.pointer (some ⟨p, 0, none⟩), .int .i64 2] 46)
  have hv := blk_new ua0 (.cells #[.pointer (some ⟨p, 0, none⟩), .int .i64 2] 46)
  have hpv : p < ua0.heap.size := heap_lt hb
  have v0 := blk_cell hv 0
  have v1 := blk_cell hv 1
  simp only [List.getElem?_toArray, List.getElem?_cons_zero, List.getElem?_cons_succ] at v0 v1
  replace hO := hO.alloc (.cells #[.pointer (some ⟨p, 0, none⟩), .int .i64 2] 46)
  replace hb := hm.at hb (fun h => h)
  replace hr := hm.at hr (fun h => h)
  replace y2 := cell_only hm (fun h => h) y2
  replace y3 := cell_only hm (fun h => h) y3
  replace y4 := cell_only hm (fun h => h) y4
  replace y5 := cell_only hm (fun h => h) y5
  replace y6 := cell_only hm (fun h => h) y6
  replace y7 := cell_only hm (fun h => h) y7
  replace y8 := cell_only hm (fun h => h) y8
  replace y9 := cell_only hm (fun h => h) y9
  have x0 := blk_cell hb 0
  have xf := blk_free hb 0
  simp only [List.getElem?_toArray, List.getElem?_cons_zero, List.getElem?_cons_succ] at x0
  clear hm hv
  generalize ua0.alloc (.cells #[.pointer (some ⟨p, 0, none⟩), .int .i64 2] 46) = ub0 at *
  generalize ua0.heap.size = v at *
  go_region_held3 (fun w' => (w'.cell? ⟨v, 0, none⟩ = some (.pointer (some ⟨p, 0, none⟩)) ∧ w'.cell? ⟨v, 1, none⟩ = some (.int .i64 2)) ∧ Only (fun _ => False) w w')
    (first | exact ⟨⟨v0, v1⟩, hO⟩ | exact ⟨⟨v0, v1⟩, hO.drew⟩ | assumption | exact ⟨⟨cell_setOther v0 (Nat.ne_of_lt hpv), cell_setOther v1 (Nat.ne_of_lt hpv)⟩, hO.setCell _ _ (fun h => absurd h hpw)⟩)
    (first | (go_at_call 35; refine (get2 s _ _ (by omega) (by omega) (by omega)).mono ?_; rintro e uc0 ⟨rfl, hk⟩; replace y2 := cell_only hk (fun h => h) y2; replace y3 := cell_only hk (fun h => h) y3; replace y4 := cell_only hk (fun h => h) y4; replace y5 := cell_only hk (fun h => h) y5; replace y6 := cell_only hk (fun h => h) y6; replace y7 := cell_only hk (fun h => h) y7; replace y8 := cell_only hk (fun h => h) y8; replace y9 := cell_only hk (fun h => h) y9; replace v0 := cell_only hk (fun h => h) v0; replace v1 := cell_only hk (fun h => h) v1; replace x0 := cell_only hk (fun h => h) x0; replace hb := hk.undrew.at hb (fun h => h); replace hr := hk.undrew.at hr (fun h => h); replace xf := blk_free hb 0; replace hO := hO.step hk ⟨rfl, rfl, rfl, rfl⟩ (fun _ _ h => h)))
  go_wp2_with fail
  replace hb := blk_set hb 0 (.int .i64 (numAt s 6 2))
  replace hr := blk_set_other hr ⟨p, 0, none⟩ (.int .i64 (numAt s 6 2)) (by show p ≠ r; omega)
  replace y2 := cell_setOther (p := ⟨p, 0, none⟩) (x := (.int .i64 (numAt s 6 2))) y2 (Nat.ne_of_lt hne)
  replace y3 := cell_setOther (p := ⟨p, 0, none⟩) (x := (.int .i64 (numAt s 6 2))) y3 (Nat.ne_of_lt hne)
  replace y4 := cell_setOther (p := ⟨p, 0, none⟩) (x := (.int .i64 (numAt s 6 2))) y4 (Nat.ne_of_lt hne)
  replace y5 := cell_setOther (p := ⟨p, 0, none⟩) (x := (.int .i64 (numAt s 6 2))) y5 (Nat.ne_of_lt hne)
  replace y6 := cell_setOther (p := ⟨p, 0, none⟩) (x := (.int .i64 (numAt s 6 2))) y6 (Nat.ne_of_lt hne)
  replace y7 := cell_setOther (p := ⟨p, 0, none⟩) (x := (.int .i64 (numAt s 6 2))) y7 (Nat.ne_of_lt hne)
  replace y8 := cell_setOther (p := ⟨p, 0, none⟩) (x := (.int .i64 (numAt s 6 2))) y8 (Nat.ne_of_lt hne)
  replace y9 := cell_setOther (p := ⟨p, 0, none⟩) (x := (.int .i64 (numAt s 6 2))) y9 (Nat.ne_of_lt hne)
  replace hO := hO.setCell ⟨p, 0, none⟩ (.int .i64 (numAt s 6 2)) (fun h => absurd h hpw)
  simp only [List.setIfInBounds_toArray, List.set_cons_zero, List.set_cons_succ] at hb
  clear x0 xf v0 v1
  generalize uc0.setCell ⟨p, 0, none⟩ (.int .i64 (numAt s 6 2)) = ua1 at *
  rw [rounds_succ]
  go_wp2_with fail
  have hm := (Only.refl (fun _ => False) ua1).alloc (.cells #[.pointer (some ⟨p, 1, none⟩), .int .i64 6] 46)
  have hv := blk_new ua1 (.cells #[.pointer (some ⟨p, 1, none⟩), .int .i64 6] 46)
  have hpv : p < ua1.heap.size := heap_lt hb
  have v0 := blk_cell hv 0
  have v1 := blk_cell hv 1
  simp only [List.getElem?_toArray, List.getElem?_cons_zero, List.getElem?_cons_succ] at v0 v1
  replace hO := hO.alloc (.cells #[.pointer (some ⟨p, 1, none⟩), .int .i64 6] 46)
  replace hb := hm.at hb (fun h => h)
  replace hr := hm.at hr (fun h => h)
  replace y4 := cell_only hm (fun h => h) y4
  replace y5 := cell_only hm (fun h => h) y5
  replace y6 := cell_only hm (fun h => h) y6
  replace y7 := cell_only hm (fun h => h) y7
  replace y8 := cell_only hm (fun h => h) y8
  replace y9 := cell_only hm (fun h => h) y9
  have x0 := blk_cell hb 1
  have xf := blk_free hb 1
  simp only [List.getElem?_toArray, List.getElem?_cons_zero, List.getElem?_cons_succ] at x0
  clear hm hv
  generalize ua1.alloc (.cells #[.pointer (some ⟨p, 1, none⟩), .int .i64 6] 46) = ub1 at *
  generalize ua1.heap.size = v at *
  go_region_held3 (fun w' => (w'.cell? ⟨v, 0, none⟩ = some (.pointer (some ⟨p, 1, none⟩)) ∧ w'.cell? ⟨v, 1, none⟩ = some (.int .i64 6)) ∧ Only (fun _ => False) w w')
    (first | exact ⟨⟨v0, v1⟩, hO⟩ | exact ⟨⟨v0, v1⟩, hO.drew⟩ | assumption | exact ⟨⟨cell_setOther v0 (Nat.ne_of_lt hpv), cell_setOther v1 (Nat.ne_of_lt hpv)⟩, hO.setCell _ _ (fun h => absurd h hpw)⟩)
    (first | (go_at_call 35; refine (get6 s _ _ (by omega) (by omega) (by omega)).mono ?_; rintro e uc1 ⟨rfl, hk⟩; replace y4 := cell_only hk (fun h => h) y4; replace y5 := cell_only hk (fun h => h) y5; replace y6 := cell_only hk (fun h => h) y6; replace y7 := cell_only hk (fun h => h) y7; replace y8 := cell_only hk (fun h => h) y8; replace y9 := cell_only hk (fun h => h) y9; replace v0 := cell_only hk (fun h => h) v0; replace v1 := cell_only hk (fun h => h) v1; replace x0 := cell_only hk (fun h => h) x0; replace hb := hk.undrew.at hb (fun h => h); replace hr := hk.undrew.at hr (fun h => h); replace xf := blk_free hb 1; replace hO := hO.step hk ⟨rfl, rfl, rfl, rfl⟩ (fun _ _ h => h)))
  go_wp2_with fail
  replace hb := blk_set hb 1 (.int .i64 (numAt s 8 6))
  replace hr := blk_set_other hr ⟨p, 1, none⟩ (.int .i64 (numAt s 8 6)) (by show p ≠ r; omega)
  replace y4 := cell_setOther (p := ⟨p, 1, none⟩) (x := (.int .i64 (numAt s 8 6))) y4 (Nat.ne_of_lt hne)
  replace y5 := cell_setOther (p := ⟨p, 1, none⟩) (x := (.int .i64 (numAt s 8 6))) y5 (Nat.ne_of_lt hne)
  replace y6 := cell_setOther (p := ⟨p, 1, none⟩) (x := (.int .i64 (numAt s 8 6))) y6 (Nat.ne_of_lt hne)
  replace y7 := cell_setOther (p := ⟨p, 1, none⟩) (x := (.int .i64 (numAt s 8 6))) y7 (Nat.ne_of_lt hne)
  replace y8 := cell_setOther (p := ⟨p, 1, none⟩) (x := (.int .i64 (numAt s 8 6))) y8 (Nat.ne_of_lt hne)
  replace y9 := cell_setOther (p := ⟨p, 1, none⟩) (x := (.int .i64 (numAt s 8 6))) y9 (Nat.ne_of_lt hne)
  replace hO := hO.setCell ⟨p, 1, none⟩ (.int .i64 (numAt s 8 6)) (fun h => absurd h hpw)
  simp only [List.setIfInBounds_toArray, List.set_cons_zero, List.set_cons_succ] at hb
  clear x0 xf v0 v1
  generalize uc1.setCell ⟨p, 1, none⟩ (.int .i64 (numAt s 8 6)) = ua2 at *
  rw [rounds_succ]
  go_wp2_with fail
  have hm := (Only.refl (fun _ => False) ua2).alloc (.cells #[.pointer (some ⟨p, 2, none⟩), .int .i64 4] 46)
  have hv := blk_new ua2 (.cells #[.pointer (some ⟨p, 2, none⟩), .int .i64 4] 46)
  have hpv : p < ua2.heap.size := heap_lt hb
  have v0 := blk_cell hv 0
  have v1 := blk_cell hv 1
  simp only [List.getElem?_toArray, List.getElem?_cons_zero, List.getElem?_cons_succ] at v0 v1
  replace hO := hO.alloc (.cells #[.pointer (some ⟨p, 2, none⟩), .int .i64 4] 46)
  replace hb := hm.at hb (fun h => h)
  replace hr := hm.at hr (fun h => h)
  replace y6 := cell_only hm (fun h => h) y6
  replace y7 := cell_only hm (fun h => h) y7
  replace y8 := cell_only hm (fun h => h) y8
  replace y9 := cell_only hm (fun h => h) y9
  have x0 := blk_cell hb 2
  have xf := blk_free hb 2
  simp only [List.getElem?_toArray, List.getElem?_cons_zero, List.getElem?_cons_succ] at x0
  clear hm hv
  generalize ua2.alloc (.cells #[.pointer (some ⟨p, 2, none⟩), .int .i64 4] 46) = ub2 at *
  generalize ua2.heap.size = v at *
  go_region_held3 (fun w' => (w'.cell? ⟨v, 0, none⟩ = some (.pointer (some ⟨p, 2, none⟩)) ∧ w'.cell? ⟨v, 1, none⟩ = some (.int .i64 4)) ∧ Only (fun _ => False) w w')
    (first | exact ⟨⟨v0, v1⟩, hO⟩ | exact ⟨⟨v0, v1⟩, hO.drew⟩ | assumption | exact ⟨⟨cell_setOther v0 (Nat.ne_of_lt hpv), cell_setOther v1 (Nat.ne_of_lt hpv)⟩, hO.setCell _ _ (fun h => absurd h hpw)⟩)
    (first | (go_at_call 35; refine (get4 s _ _ (by omega) (by omega) (by omega)).mono ?_; rintro e uc2 ⟨rfl, hk⟩; replace y6 := cell_only hk (fun h => h) y6; replace y7 := cell_only hk (fun h => h) y7; replace y8 := cell_only hk (fun h => h) y8; replace y9 := cell_only hk (fun h => h) y9; replace v0 := cell_only hk (fun h => h) v0; replace v1 := cell_only hk (fun h => h) v1; replace x0 := cell_only hk (fun h => h) x0; replace hb := hk.undrew.at hb (fun h => h); replace hr := hk.undrew.at hr (fun h => h); replace xf := blk_free hb 2; replace hO := hO.step hk ⟨rfl, rfl, rfl, rfl⟩ (fun _ _ h => h)))
  go_wp2_with fail
  replace hb := blk_set hb 2 (.int .i64 (numAt s 14 4))
  replace hr := blk_set_other hr ⟨p, 2, none⟩ (.int .i64 (numAt s 14 4)) (by show p ≠ r; omega)
  replace y6 := cell_setOther (p := ⟨p, 2, none⟩) (x := (.int .i64 (numAt s 14 4))) y6 (Nat.ne_of_lt hne)
  replace y7 := cell_setOther (p := ⟨p, 2, none⟩) (x := (.int .i64 (numAt s 14 4))) y7 (Nat.ne_of_lt hne)
  replace y8 := cell_setOther (p := ⟨p, 2, none⟩) (x := (.int .i64 (numAt s 14 4))) y8 (Nat.ne_of_lt hne)
  replace y9 := cell_setOther (p := ⟨p, 2, none⟩) (x := (.int .i64 (numAt s 14 4))) y9 (Nat.ne_of_lt hne)
  replace hO := hO.setCell ⟨p, 2, none⟩ (.int .i64 (numAt s 14 4)) (fun h => absurd h hpw)
  simp only [List.setIfInBounds_toArray, List.set_cons_zero, List.set_cons_succ] at hb
  clear x0 xf v0 v1
  generalize uc2.setCell ⟨p, 2, none⟩ (.int .i64 (numAt s 14 4)) = ua3 at *
  rw [rounds_succ]
  go_wp2_with fail
  have hm := (Only.refl (fun _ => False) ua3).alloc (.cells #[.pointer (some ⟨p, 3, none⟩), .int .i64 6] 46)
  have hv := blk_new ua3 (.cells #[.pointer (some ⟨p, 3, none⟩), .int .i64 6] 46)
  have hpv : p < ua3.heap.size := heap_lt hb
  have v0 := blk_cell hv 0
  have v1 := blk_cell hv 1
  simp only [List.getElem?_toArray, List.getElem?_cons_zero, List.getElem?_cons_succ] at v0 v1
  replace hO := hO.alloc (.cells #[.pointer (some ⟨p, 3, none⟩), .int .i64 6] 46)
  replace hb := hm.at hb (fun h => h)
  replace hr := hm.at hr (fun h => h)
  replace y8 := cell_only hm (fun h => h) y8
  replace y9 := cell_only hm (fun h => h) y9
  have x0 := blk_cell hb 3
  have xf := blk_free hb 3
  simp only [List.getElem?_toArray, List.getElem?_cons_zero, List.getElem?_cons_succ] at x0
  clear hm hv
  generalize ua3.alloc (.cells #[.pointer (some ⟨p, 3, none⟩), .int .i64 6] 46) = ub3 at *
  generalize ua3.heap.size = v at *
  go_region_held3 (fun w' => (w'.cell? ⟨v, 0, none⟩ = some (.pointer (some ⟨p, 3, none⟩)) ∧ w'.cell? ⟨v, 1, none⟩ = some (.int .i64 6)) ∧ Only (fun _ => False) w w')
    (first | exact ⟨⟨v0, v1⟩, hO⟩ | exact ⟨⟨v0, v1⟩, hO.drew⟩ | assumption | exact ⟨⟨cell_setOther v0 (Nat.ne_of_lt hpv), cell_setOther v1 (Nat.ne_of_lt hpv)⟩, hO.setCell _ _ (fun h => absurd h hpw)⟩)
    (first | (go_at_call 35; refine (get6 s _ _ (by omega) (by omega) (by omega)).mono ?_; rintro e uc3 ⟨rfl, hk⟩; replace y8 := cell_only hk (fun h => h) y8; replace y9 := cell_only hk (fun h => h) y9; replace v0 := cell_only hk (fun h => h) v0; replace v1 := cell_only hk (fun h => h) v1; replace x0 := cell_only hk (fun h => h) x0; replace hb := hk.undrew.at hb (fun h => h); replace hr := hk.undrew.at hr (fun h => h); replace xf := blk_free hb 3; replace hO := hO.step hk ⟨rfl, rfl, rfl, rfl⟩ (fun _ _ h => h)))
  go_wp2_with fail
  replace hb := blk_set hb 3 (.int .i64 (numAt s 18 6))
  replace hr := blk_set_other hr ⟨p, 3, none⟩ (.int .i64 (numAt s 18 6)) (by show p ≠ r; omega)
  replace y8 := cell_setOther (p := ⟨p, 3, none⟩) (x := (.int .i64 (numAt s 18 6))) y8 (Nat.ne_of_lt hne)
  replace y9 := cell_setOther (p := ⟨p, 3, none⟩) (x := (.int .i64 (numAt s 18 6))) y9 (Nat.ne_of_lt hne)
  replace hO := hO.setCell ⟨p, 3, none⟩ (.int .i64 (numAt s 18 6)) (fun h => absurd h hpw)
  simp only [List.setIfInBounds_toArray, List.set_cons_zero, List.set_cons_succ] at hb
  clear x0 xf v0 v1
  generalize uc3.setCell ⟨p, 3, none⟩ (.int .i64 (numAt s 18 6)) = ua4 at *
  rw [rounds_succ]
  go_wp2_with fail
  have hm := (Only.refl (fun _ => False) ua4).alloc (.cells #[.pointer (some ⟨p, 4, none⟩), .int .i64 4] 46)
  have hv := blk_new ua4 (.cells #[.pointer (some ⟨p, 4, none⟩), .int .i64 4] 46)
  have hpv : p < ua4.heap.size := heap_lt hb
  have v0 := blk_cell hv 0
  have v1 := blk_cell hv 1
  simp only [List.getElem?_toArray, List.getElem?_cons_zero, List.getElem?_cons_succ] at v0 v1
  replace hO := hO.alloc (.cells #[.pointer (some ⟨p, 4, none⟩), .int .i64 4] 46)
  replace hb := hm.at hb (fun h => h)
  replace hr := hm.at hr (fun h => h)
  have x0 := blk_cell hb 4
  have xf := blk_free hb 4
  simp only [List.getElem?_toArray, List.getElem?_cons_zero, List.getElem?_cons_succ] at x0
  clear hm hv
  generalize ua4.alloc (.cells #[.pointer (some ⟨p, 4, none⟩), .int .i64 4] 46) = ub4 at *
  generalize ua4.heap.size = v at *
  go_region_held3 (fun w' => (w'.cell? ⟨v, 0, none⟩ = some (.pointer (some ⟨p, 4, none⟩)) ∧ w'.cell? ⟨v, 1, none⟩ = some (.int .i64 4)) ∧ Only (fun _ => False) w w')
    (first | exact ⟨⟨v0, v1⟩, hO⟩ | exact ⟨⟨v0, v1⟩, hO.drew⟩ | assumption | exact ⟨⟨cell_setOther v0 (Nat.ne_of_lt hpv), cell_setOther v1 (Nat.ne_of_lt hpv)⟩, hO.setCell _ _ (fun h => absurd h hpw)⟩)
    (first | (go_at_call 35; refine (get4 s _ _ (by omega) (by omega) (by omega)).mono ?_; rintro e uc4 ⟨rfl, hk⟩; replace v0 := cell_only hk (fun h => h) v0; replace v1 := cell_only hk (fun h => h) v1; replace x0 := cell_only hk (fun h => h) x0; replace hb := hk.undrew.at hb (fun h => h); replace hr := hk.undrew.at hr (fun h => h); replace xf := blk_free hb 4; replace hO := hO.step hk ⟨rfl, rfl, rfl, rfl⟩ (fun _ _ h => h)))
  go_wp2_with fail
  replace hb := blk_set hb 4 (.int .i64 (numAt s 24 4))
  replace hr := blk_set_other hr ⟨p, 4, none⟩ (.int .i64 (numAt s 24 4)) (by show p ≠ r; omega)
  replace hO := hO.setCell ⟨p, 4, none⟩ (.int .i64 (numAt s 24 4)) (fun h => absurd h hpw)
  simp only [List.setIfInBounds_toArray, List.set_cons_zero, List.set_cons_succ] at hb
  clear x0 xf v0 v1
  generalize uc4.setCell ⟨p, 4, none⟩ (.int .i64 (numAt s 24 4)) = ua5 at *
  rw [rounds_succ]
  have x0 := blk_cell hb 0
  have x1 := blk_cell hb 1
  have x2 := blk_cell hb 2
  have x3 := blk_cell hb 3
  have x4 := blk_cell hb 4
  simp only [List.setIfInBounds_toArray, List.set_cons_zero, List.set_cons_succ, List.getElem?_toArray, List.getElem?_cons_zero, List.getElem?_cons_succ] at x0 x1 x2 x3 x4
  go_wp2_with fail
  refine (HM.out _).mono ?_
  rintro e w2 ⟨rfl, hk⟩
  replace hr := hk.at hr (fun h => h)
  replace hO := hO.trans hk
  clear hk hb x0 x1 x2 x3 x4
  have z0 := blk_cell hr 0
  have z1 := blk_cell hr 1
  have z2 := blk_cell hr 2
  have z3 := blk_cell hr 3
  have z4 := blk_cell hr 4
  have q0 := blk_free hr 0
  have q1 := blk_free hr 1
  have q2 := blk_free hr 2
  have q3 := blk_free hr 3
  have q4 := blk_free hr 4
  simp only [List.getElem?_toArray, List.getElem?_cons_zero, List.getElem?_cons_succ] at z0 z1 z2 z3 z4
  go_wp2_with fail
  have hs := (blk_set (blk_set (blk_set (blk_set (blk_set hr 0 (.int .i64 m0)) 1 (.int .i64 m1)) 2 (.int .i64 m2)) 3 (.int .i64 m3)) 4 (.int .i64 m4))
  replace hO := (((((hO.setCell ⟨r, 0, none⟩ (.int .i64 m0) (fun h => absurd h hrw)).setCell ⟨r, 1, none⟩ (.int .i64 m1) (fun h => absurd h hrw)).setCell ⟨r, 2, none⟩ (.int .i64 m2) (fun h => absurd h hrw)).setCell ⟨r, 3, none⟩ (.int .i64 m3) (fun h => absurd h hrw)).setCell ⟨r, 4, none⟩ (.int .i64 m4) (fun h => absurd h hrw))
  generalize (World.setCell (World.setCell (World.setCell (World.setCell (World.setCell w2 ⟨r, 0, none⟩ (.int .i64 m0)) ⟨r, 1, none⟩ (.int .i64 m1)) ⟨r, 2, none⟩ (.int .i64 m2)) ⟨r, 3, none⟩ (.int .i64 m3)) ⟨r, 4, none⟩ (.int .i64 m4)) = wz at hs hO ⊢
  have e0 := blk_cell hs 0
  have e1 := blk_cell hs 1
  have e2 := blk_cell hs 2
  have e3 := blk_cell hs 3
  have e4 := blk_cell hs 4
  simp only [List.setIfInBounds_toArray, List.set_cons_zero, List.set_cons_succ, List.getElem?_toArray, List.getElem?_cons_zero, List.getElem?_cons_succ] at e0 e1 e2 e3 e4
  clear hs
  refine bodyPost_ret (v := .tuple #[.agg #[.int .i64 m0, .int .i64 m1, .int .i64 m2, .int .i64 m3, .int .i64 m4], .int .i64 ac]) (by simp [results, Try.results22, go_sem, e0, e1, e2, e3, e4]) rfl ⟨rfl, hO⟩


end Go.Proofs.Ytgpmphcfjlojpaa

/-
  The walk of the law ArpMakes.
  No conditions.
-/
import Derived.Test.YtgpmphcfjlojpaaArpTold
import Derived.Test.YtgpmphcfjlojpaaOpen
set_option linter.unusedVariables false
set_option linter.unusedSimpArgs false
namespace Go.Proofs.Ytgpmphcfjlojpaa
open Go.RowKit

theorem arp_ask0 : ArpOk 1 2 10 0 11 := ⟨Or.inl rfl, ⟨by omega, by omega⟩, by decide, ⟨by omega, by omega⟩, ⟨by omega, by omega⟩, ⟨by omega, by omega⟩⟩
theorem arp_tell0 : ArpOk 2 3 11 2 10 := ⟨Or.inr rfl, ⟨by omega, by omega⟩, by decide, ⟨by omega, by omega⟩, ⟨by omega, by omega⟩, ⟨by omega, by omega⟩⟩

theorem arp_cells {cs : List Value} (h : CellsAre [.i, .i, .i, .i, .i] cs) : ∃ (op fm fi tm ti : Int), cs = [.int .i64 op, .int .i64 fm, .int .i64 fi, .int .i64 tm, .int .i64 ti] := by
  obtain ⟨t, _, rfl, _, h1⟩ := h.i
  obtain ⟨f, _, rfl, _, h2⟩ := h1.i
  obtain ⟨k, _, rfl, _, h3⟩ := h2.i
  obtain ⟨l, _, rfl, _, h4⟩ := h3.i
  obtain ⟨m, _, rfl, _, h5⟩ := h4.i
  obtain rfl := h5.nil
  exact ⟨t, f, k, l, m, rfl⟩

theorem works04 (w : World) : Calls Try.prog 13 #[] w fun e w' => e = .returned (.bool true) ∧ Only (fun _ => False) w w' := by
  have ha : amade 1 2 10 0 11 = ⟨1, 2, 10, 0, 11⟩ := if_pos arp_ask0
  have hb : arC 1 2 10 0 11 = 0 := if_pos arp_ask0
  have hc : amade 2 3 11 2 10 = ⟨2, 3, 11, 2, 10⟩ := if_pos arp_tell0
  have hd : arC 2 3 11 2 10 = 0 := if_pos arp_tell0
  have a1 := fun w => ask_any 2 10 11 w
  have a2 := fun w => tell_yes 2 10 0 11 3 w arp_ask0
  simp only [ha, hb, hc, hd] at a1 a2
  have A1 := Lib.hid a1
  have A2 := Lib.hid a2
  clear a1 a2 ha hb hc hd
  go_enter Try.func13, Try.ntmps13
  go_wp2_with fail
  refine (A1.out _).mono ?_
  rintro e w1 ⟨rfl, hk1⟩
  have hb := blk_new w1 (.cells #[.int .i64 1, .int .i64 2, .int .i64 10, .int .i64 0, .int .i64 11] 23)
  have x0 := blk_cell hb 0
  have x1 := blk_cell hb 1
  have x2 := blk_cell hb 2
  have x3 := blk_cell hb 3
  have x4 := blk_cell hb 4
  simp only [List.getElem?_toArray, List.getElem?_cons_zero, List.getElem?_cons_succ] at x0 x1 x2 x3 x4
  go_wp2_with fail
  refine (A2.out _).mono ?_
  rintro e w2 ⟨rfl, hk2⟩
  go_wp2_with fail
  go_ret
  exact ⟨rfl, (((hk1.alloc _).trans hk2).alloc _)⟩

theorem ask_both (mac ip want : Int) : ∃ a0 a1 a2 a3 a4 c : Int, (∀ w, Calls Try.prog 9 #[.int .i64 mac, .int .i64 ip, .int .i64 want] w fun e w' => e = .returned (.tuple #[.agg #[.int .i64 a0, .int .i64 a1, .int .i64 a2, .int .i64 a3, .int .i64 a4], .int .i64 c]) ∧ Only (fun _ => False) w w') ∧ (∀ w, Calls Try.prog 10 #[.int .i64 mac, .int .i64 ip, .int .i64 want] w fun e w' => e = .returned (.tuple #[.agg #[.int .i64 a0, .int .i64 a1, .int .i64 a2, .int .i64 a3, .int .i64 a4], .int .i64 c]) ∧ Only (fun _ => False) w w') :=
  ⟨_, _, _, _, _, _, fun w => ask_any mac ip want w, fun w => rask_any mac ip want w⟩

theorem claim_both (mac ip : Int) : ∃ a0 a1 a2 a3 a4 c : Int, (∀ w, Calls Try.prog 14 #[.int .i64 mac, .int .i64 ip] w fun e w' => e = .returned (.tuple #[.agg #[.int .i64 a0, .int .i64 a1, .int .i64 a2, .int .i64 a3, .int .i64 a4], .int .i64 c]) ∧ Only (fun _ => False) w w') ∧ (∀ w, Calls Try.prog 15 #[.int .i64 mac, .int .i64 ip] w fun e w' => e = .returned (.tuple #[.agg #[.int .i64 a0, .int .i64 a1, .int .i64 a2, .int .i64 a3, .int .i64 a4], .int .i64 c]) ∧ Only (fun _ => False) w w') :=
  ⟨_, _, _, _, _, _, fun w => claim_any mac ip w, fun w => rclaim_any mac ip w⟩

theorem tell_both (op fm fi tm ti mac : Int) : ∃ a0 a1 a2 a3 a4 c : Int, (∀ w, Calls Try.prog 11 #[.agg #[.int .i64 op, .int .i64 fm, .int .i64 fi, .int .i64 tm, .int .i64 ti], .int .i64 mac] w fun e w' => e = .returned (.tuple #[.agg #[.int .i64 a0, .int .i64 a1, .int .i64 a2, .int .i64 a3, .int .i64 a4], .int .i64 c]) ∧ Only (fun _ => False) w w') ∧ (∀ w, Calls Try.prog 12 #[.agg #[.int .i64 op, .int .i64 fm, .int .i64 fi, .int .i64 tm, .int .i64 ti], .int .i64 mac] w fun e w' => e = .returned (.tuple #[.agg #[.int .i64 a0, .int .i64 a1, .int .i64 a2, .int .i64 a3, .int .i64 a4], .int .i64 c]) ∧ Only (fun _ => False) w w') :=
  ⟨_, _, _, _, _, _, fun w => tell_any op fm fi tm ti mac w, fun w => rtell_any op fm fi tm ti mac w⟩

set_option maxHeartbeats 4000000 in
theorem arpMakes_walk (W : World) (cs : List Value) (hcs : CellsAre [.i, .i, .i, .i, .i] cs) (mac : Int) (wm : (Lit.int .i64 mac).wf = true) (ip : Int) (wi : (Lit.int .i64 ip).wf = true) :
    Calls Try.prog 3 #[.agg cs.toArray, .int .i64 mac, .int .i64 ip] W fun e W' => e = .returned (.bool true) ∧ Below W.heap.size W W' := by
  obtain ⟨op, fm, fi, tm, ti, rfl⟩ := arp_cells hcs
  clear hcs wm wi
  obtain ⟨a0, a1, a2, a3, a4, ac, ha, hra⟩ := ask_both mac ip ti
  obtain ⟨b0, b1, b2, b3, b4, bc, hb, hrb⟩ := tell_both op fm fi tm ti mac
  obtain ⟨c0, c1, c2, c3, c4, cc, hc, hrc⟩ := claim_both mac ip
  have HA := Lib.hid ha
  have HRA := Lib.hid hra
  have HB := Lib.hid hb
  have HRB := Lib.hid hrb
  have HC := Lib.hid hc
  have HRC := Lib.hid hrc
  clear ha hra hb hrb hc hrc
  go_enter Try.func3, Try.ntmps3
  go_wp2_with fail
  have kP := blk_new W (.cells #[.int .i64 op, .int .i64 fm, .int .i64 fi, .int .i64 tm, .int .i64 ti] 23)
  refine (HA.out _).mono ?_
  rintro e w1 ⟨rfl, hk⟩
  have hO := ((Only.refl (fun _ => False) W).alloc _).then hk (fun _ _ h => h)
  have hWx := hO.size
  replace kP := blk_alloc (hk.at kP (fun h => h)) (.cells #[.int .i64 a0, .int .i64 a1, .int .i64 a2, .int .i64 a3, .int .i64 a4] 23)
  have kX := blk_new w1 (.cells #[.int .i64 a0, .int .i64 a1, .int .i64 a2, .int .i64 a3, .int .i64 a4] 23)
  replace hO := hO.alloc (.cells #[.int .i64 a0, .int .i64 a1, .int .i64 a2, .int .i64 a3, .int .i64 a4] 23)
  clear hk
  have p0 := blk_cell kP 0
  have p1 := blk_cell kP 1
  have p2 := blk_cell kP 2
  have p3 := blk_cell kP 3
  have p4 := blk_cell kP 4
  simp only [List.setIfInBounds_toArray, List.set_cons_zero, List.set_cons_succ, List.getElem?_toArray, List.getElem?_cons_zero, List.getElem?_cons_succ] at p0 p1 p2 p3 p4
  go_wp2_with fail
  clear p0 p1 p2 p3 p4
  refine (HRA.out _).mono ?_
  rintro e w2 ⟨rfl, hk⟩
  replace hO := (hO.trans hk).alloc (.cells #[.int .i64 a0, .int .i64 a1, .int .i64 a2, .int .i64 a3, .int .i64 a4] 23)
  replace kP := blk_alloc (hk.at kP (fun h => h)) (.cells #[.int .i64 a0, .int .i64 a1, .int .i64 a2, .int .i64 a3, .int .i64 a4] 23)
  replace kX := blk_alloc (hk.at kX (fun h => h)) (.cells #[.int .i64 a0, .int .i64 a1, .int .i64 a2, .int .i64 a3, .int .i64 a4] 23)
  have kY := blk_new w2 (.cells #[.int .i64 a0, .int .i64 a1, .int .i64 a2, .int .i64 a3, .int .i64 a4] 23)
  have hxy : w1.heap.size < w2.heap.size := by have := hk.size; rw [World.size_alloc] at this; omega
  clear hk
  have p0 := blk_cell kP 0
  have p1 := blk_cell kP 1
  have p2 := blk_cell kP 2
  have p3 := blk_cell kP 3
  have p4 := blk_cell kP 4
  simp only [List.setIfInBounds_toArray, List.set_cons_zero, List.set_cons_succ, List.getElem?_toArray, List.getElem?_cons_zero, List.getElem?_cons_succ] at p0 p1 p2 p3 p4
  go_wp2_with fail
  clear p0 p1 p2 p3 p4
  refine (HB.out _).mono ?_
  rintro e w3 ⟨rfl, hk⟩
  replace hO := (hO.trans hk).alloc (.cells #[.int .i64 b0, .int .i64 b1, .int .i64 b2, .int .i64 b3, .int .i64 b4] 23)
  replace kP := blk_alloc (hk.at kP (fun h => h)) (.cells #[.int .i64 b0, .int .i64 b1, .int .i64 b2, .int .i64 b3, .int .i64 b4] 23)
  replace kX := blk_alloc (hk.at kX (fun h => h)) (.cells #[.int .i64 b0, .int .i64 b1, .int .i64 b2, .int .i64 b3, .int .i64 b4] 23)
  replace kY := blk_alloc (hk.at kY (fun h => h)) (.cells #[.int .i64 b0, .int .i64 b1, .int .i64 b2, .int .i64 b3, .int .i64 b4] 23)
  have kU := blk_new w3 (.cells #[.int .i64 b0, .int .i64 b1, .int .i64 b2, .int .i64 b3, .int .i64 b4] 23)
  clear hk
  have p0 := blk_cell kP 0
  have p1 := blk_cell kP 1
  have p2 := blk_cell kP 2
  have p3 := blk_cell kP 3
  have p4 := blk_cell kP 4
  simp only [List.setIfInBounds_toArray, List.set_cons_zero, List.set_cons_succ, List.getElem?_toArray, List.getElem?_cons_zero, List.getElem?_cons_succ] at p0 p1 p2 p3 p4
  go_wp2_with fail
  clear p0 p1 p2 p3 p4
  refine (HRB.out _).mono ?_
  rintro e w4 ⟨rfl, hk⟩
  replace hO := (hO.trans hk).alloc (.cells #[.int .i64 b0, .int .i64 b1, .int .i64 b2, .int .i64 b3, .int .i64 b4] 23)
  replace kX := blk_alloc (hk.at kX (fun h => h)) (.cells #[.int .i64 b0, .int .i64 b1, .int .i64 b2, .int .i64 b3, .int .i64 b4] 23)
  replace kY := blk_alloc (hk.at kY (fun h => h)) (.cells #[.int .i64 b0, .int .i64 b1, .int .i64 b2, .int .i64 b3, .int .i64 b4] 23)
  replace kU := blk_alloc (hk.at kU (fun h => h)) (.cells #[.int .i64 b0, .int .i64 b1, .int .i64 b2, .int .i64 b3, .int .i64 b4] 23)
  have kV := blk_new w4 (.cells #[.int .i64 b0, .int .i64 b1, .int .i64 b2, .int .i64 b3, .int .i64 b4] 23)
  clear hk kP
  have x0 := blk_cell kX 0
  have x1 := blk_cell kX 1
  have x2 := blk_cell kX 2
  have x3 := blk_cell kX 3
  have x4 := blk_cell kX 4
  simp only [List.setIfInBounds_toArray, List.set_cons_zero, List.set_cons_succ, List.getElem?_toArray, List.getElem?_cons_zero, List.getElem?_cons_succ] at x0 x1 x2 x3 x4
  have y0 := blk_cell kY 0
  have y1 := blk_cell kY 1
  have y2 := blk_cell kY 2
  have y3 := blk_cell kY 3
  have y4 := blk_cell kY 4
  simp only [List.setIfInBounds_toArray, List.set_cons_zero, List.set_cons_succ, List.getElem?_toArray, List.getElem?_cons_zero, List.getElem?_cons_succ] at y0 y1 y2 y3 y4
  have u0 := blk_cell kU 0
  have u1 := blk_cell kU 1
  have u2 := blk_cell kU 2
  have u3 := blk_cell kU 3
  have u4 := blk_cell kU 4
  simp only [List.setIfInBounds_toArray, List.set_cons_zero, List.set_cons_succ, List.getElem?_toArray, List.getElem?_cons_zero, List.getElem?_cons_succ] at u0 u1 u2 u3 u4
  have hlx := heap_lt kX
  have hly := heap_lt kY
  have hlu := heap_lt kU
  go_wp2_with fail
  clear x0 x1 x2 x3 x4 y0 y1 y2 y3 y4 u0 u1 u2 u3 u4
  refine (works04 _).mono ?_
  rintro e w5 ⟨rfl, hk⟩
  replace hO := hO.trans hk
  replace kX := hk.at kX (fun h => h)
  replace kY := hk.at kY (fun h => h)
  clear hk kU kV
  go_wp2_with fail
  clear hlx hly hlu
  refine (HC.out _).mono ?_
  rintro e w6 ⟨rfl, hk⟩
  replace hO := hO.trans hk
  replace kX := hk.at kX (fun h => h)
  replace kY := hk.at kY (fun h => h)
  clear hk
  have x0 := blk_cell kX 0
  have x1 := blk_cell kX 1
  have x2 := blk_cell kX 2
  have x3 := blk_cell kX 3
  have x4 := blk_cell kX 4
  simp only [List.setIfInBounds_toArray, List.set_cons_zero, List.set_cons_succ, List.getElem?_toArray, List.getElem?_cons_zero, List.getElem?_cons_succ] at x0 x1 x2 x3 x4
  have fx0 := blk_free kX 0
  have fx1 := blk_free kX 1
  have fx2 := blk_free kX 2
  have fx3 := blk_free kX 3
  have fx4 := blk_free kX 4
  have hlx := heap_lt kX
  have hly := heap_lt kY
  go_wp2_with fail
  have sX := (blk_set (blk_set (blk_set (blk_set (blk_set kX 0 (.int .i64 c0)) 1 (.int .i64 c1)) 2 (.int .i64 c2)) 3 (.int .i64 c3)) 4 (.int .i64 c4))
  have sY := (blk_set_other (blk_set_other (blk_set_other (blk_set_other (blk_set_other kY ⟨w1.heap.size, 0, none⟩ (.int .i64 c0) (by show w1.heap.size ≠ w2.heap.size; omega)) ⟨w1.heap.size, 1, none⟩ (.int .i64 c1) (by show w1.heap.size ≠ w2.heap.size; omega)) ⟨w1.heap.size, 2, none⟩ (.int .i64 c2) (by show w1.heap.size ≠ w2.heap.size; omega)) ⟨w1.heap.size, 3, none⟩ (.int .i64 c3) (by show w1.heap.size ≠ w2.heap.size; omega)) ⟨w1.heap.size, 4, none⟩ (.int .i64 c4) (by show w1.heap.size ≠ w2.heap.size; omega))
  replace hO := (((((hO.setCell ⟨w1.heap.size, 0, none⟩ (.int .i64 c0) (by show w1.heap.size < W.heap.size → False; omega)).setCell ⟨w1.heap.size, 1, none⟩ (.int .i64 c1) (by show w1.heap.size < W.heap.size → False; omega)).setCell ⟨w1.heap.size, 2, none⟩ (.int .i64 c2) (by show w1.heap.size < W.heap.size → False; omega)).setCell ⟨w1.heap.size, 3, none⟩ (.int .i64 c3) (by show w1.heap.size < W.heap.size → False; omega)).setCell ⟨w1.heap.size, 4, none⟩ (.int .i64 c4) (by show w1.heap.size < W.heap.size → False; omega))
  refine (HRC.out _).mono ?_
  rintro e w7 ⟨rfl, hk⟩
  replace hO := hO.trans hk
  replace kX := hk.at sX (fun h => h)
  replace kY := hk.at sY (fun h => h)
  clear hk sX sY x0 x1 x2 x3 x4 fx0 fx1 fx2 fx3 fx4 hlx hly
  have x0 := blk_cell kX 0
  have x1 := blk_cell kX 1
  have x2 := blk_cell kX 2
  have x3 := blk_cell kX 3
  have x4 := blk_cell kX 4
  simp only [List.setIfInBounds_toArray, List.set_cons_zero, List.set_cons_succ, List.getElem?_toArray, List.getElem?_cons_zero, List.getElem?_cons_succ] at x0 x1 x2 x3 x4
  have y0 := blk_cell kY 0
  have y1 := blk_cell kY 1
  have y2 := blk_cell kY 2
  have y3 := blk_cell kY 3
  have y4 := blk_cell kY 4
  simp only [List.setIfInBounds_toArray, List.set_cons_zero, List.set_cons_succ, List.getElem?_toArray, List.getElem?_cons_zero, List.getElem?_cons_succ] at y0 y1 y2 y3 y4
  have fy0 := blk_free kY 0
  have fy1 := blk_free kY 1
  have fy2 := blk_free kY 2
  have fy3 := blk_free kY 3
  have fy4 := blk_free kY 4
  have hlx := heap_lt kX
  have hly := heap_lt kY
  go_wp2_with fail
  clear x0 x1 x2 x3 x4 y0 y1 y2 y3 y4 fy0 fy1 fy2 fy3 fy4 hlx hly
  have sX := (blk_set_other (blk_set_other (blk_set_other (blk_set_other (blk_set_other kX ⟨w2.heap.size, 0, none⟩ (.int .i64 c0) (by show w2.heap.size ≠ w1.heap.size; omega)) ⟨w2.heap.size, 1, none⟩ (.int .i64 c1) (by show w2.heap.size ≠ w1.heap.size; omega)) ⟨w2.heap.size, 2, none⟩ (.int .i64 c2) (by show w2.heap.size ≠ w1.heap.size; omega)) ⟨w2.heap.size, 3, none⟩ (.int .i64 c3) (by show w2.heap.size ≠ w1.heap.size; omega)) ⟨w2.heap.size, 4, none⟩ (.int .i64 c4) (by show w2.heap.size ≠ w1.heap.size; omega))
  have sY := (blk_set (blk_set (blk_set (blk_set (blk_set kY 0 (.int .i64 c0)) 1 (.int .i64 c1)) 2 (.int .i64 c2)) 3 (.int .i64 c3)) 4 (.int .i64 c4))
  replace hO := (((((hO.setCell ⟨w2.heap.size, 0, none⟩ (.int .i64 c0) (by show w2.heap.size < W.heap.size → False; omega)).setCell ⟨w2.heap.size, 1, none⟩ (.int .i64 c1) (by show w2.heap.size < W.heap.size → False; omega)).setCell ⟨w2.heap.size, 2, none⟩ (.int .i64 c2) (by show w2.heap.size < W.heap.size → False; omega)).setCell ⟨w2.heap.size, 3, none⟩ (.int .i64 c3) (by show w2.heap.size < W.heap.size → False; omega)).setCell ⟨w2.heap.size, 4, none⟩ (.int .i64 c4) (by show w2.heap.size < W.heap.size → False; omega))
  generalize (World.setCell (World.setCell (World.setCell (World.setCell (World.setCell w7 ⟨w2.heap.size, 0, none⟩ (.int .i64 c0)) ⟨w2.heap.size, 1, none⟩ (.int .i64 c1)) ⟨w2.heap.size, 2, none⟩ (.int .i64 c2)) ⟨w2.heap.size, 3, none⟩ (.int .i64 c3)) ⟨w2.heap.size, 4, none⟩ (.int .i64 c4)) = wz at sX sY hO ⊢
  clear kX kY
  have x0 := blk_cell sX 0
  have x1 := blk_cell sX 1
  have x2 := blk_cell sX 2
  have x3 := blk_cell sX 3
  have x4 := blk_cell sX 4
  simp only [List.setIfInBounds_toArray, List.set_cons_zero, List.set_cons_succ, List.getElem?_toArray, List.getElem?_cons_zero, List.getElem?_cons_succ] at x0 x1 x2 x3 x4
  have y0 := blk_cell sY 0
  have y1 := blk_cell sY 1
  have y2 := blk_cell sY 2
  have y3 := blk_cell sY 3
  have y4 := blk_cell sY 4
  simp only [List.setIfInBounds_toArray, List.set_cons_zero, List.set_cons_succ, List.getElem?_toArray, List.getElem?_cons_zero, List.getElem?_cons_succ] at y0 y1 y2 y3 y4
  clear sX sY
  go_wp2_with fail
  go_ret
  exact ⟨rfl, hO.below (Nat.le_refl _) (fun _ _ h => h)⟩

end Go.Proofs.Ytgpmphcfjlojpaa

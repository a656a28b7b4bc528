/-
  The walk of the law ArpBack.
  No conditions.
-/
import Derived.Test.YtgpmphcfjlojpaaArpLaws
import Derived.Test.YtgpmphcfjlojpaaArpDecode
import Derived.Test.YtgpmphcfjlojpaaArpMakes
set_option linter.unusedVariables false
set_option linter.unusedSimpArgs false
namespace Go.Proofs.Ytgpmphcfjlojpaa
open Go.RowKit

theorem dec_good (s : ByteArray) (w : World) (h0 : 28 ≤ s.size) (h1 : s.size ≤ 46) (hp : s.extract 0 6 = ⟨#[0, 1, 8, 0, 6, 4]⟩) (h : ArpOk (numAt s 6 2) (numAt s 8 6) (numAt s 14 4) (numAt s 18 6) (numAt s 24 4)) :
    Calls Try.prog 22 #[.string s] w fun e w' => e = .returned (.tuple #[.agg #[.int .i64 (numAt s 6 2), .int .i64 (numAt s 8 6), .int .i64 (numAt s 14 4), .int .i64 (numAt s 18 6), .int .i64 (numAt s 24 4)], .int .i64 0]) ∧ Only (fun _ => False) w w' := by
  have := adecode_ok s w h0 h1 hp
  rw [show amade (numAt s 6 2) (numAt s 8 6) (numAt s 14 4) (numAt s 18 6) (numAt s 24 4) = ⟨_, _, _, _, _⟩ from if_pos h, show arC (numAt s 6 2) (numAt s 8 6) (numAt s 14 4) (numAt s 18 6) (numAt s 24 4) = 0 from if_pos h] at this
  exact this
theorem dec_none (s : ByteArray) (w : World) (h : ¬ ((28 ≤ s.size ∧ s.size ≤ 46 ∧ s.extract 0 6 = ⟨#[0, 1, 8, 0, 6, 4]⟩) ∧ ArpOk (numAt s 6 2) (numAt s 8 6) (numAt s 14 4) (numAt s 18 6) (numAt s 24 4))) :
    Calls Try.prog 22 #[.string s] w fun e w' => e = .returned (.tuple #[.agg #[.int .i64 0, .int .i64 0, .int .i64 0, .int .i64 0, .int .i64 0], .int .i64 40]) ∧ Only (fun _ => False) w w' := by
  by_cases h0 : 28 ≤ s.size
  · by_cases h1 : s.size ≤ 46
    · by_cases hp : s.extract 0 6 = ⟨#[0, 1, 8, 0, 6, 4]⟩
      · have := adecode_ok s w h0 h1 hp
        have hn : ¬ ArpOk (numAt s 6 2) (numAt s 8 6) (numAt s 14 4) (numAt s 18 6) (numAt s 24 4) := fun x => h ⟨⟨h0, h1, hp⟩, x⟩
        rw [show amade (numAt s 6 2) (numAt s 8 6) (numAt s 14 4) (numAt s 18 6) (numAt s 24 4) = ⟨0, 0, 0, 0, 0⟩ from if_neg hn, show arC (numAt s 6 2) (numAt s 8 6) (numAt s 14 4) (numAt s 18 6) (numAt s 24 4) = 40 from if_neg hn] at this
        exact this
      · exact adecode_head s w h0 h1 hp
    · exact adecode_size s w (Or.inr (by omega))
  · exact adecode_size s w (Or.inl (by omega))
theorem enc_good (s : ByteArray) (w : World) (h0 : 28 ≤ s.size) (hp : s.extract 0 6 = ⟨#[0, 1, 8, 0, 6, 4]⟩) (h : ArpOk (numAt s 6 2) (numAt s 8 6) (numAt s 14 4) (numAt s 18 6) (numAt s 24 4)) :
    Calls Try.prog 17 #[.agg #[.int .i64 (numAt s 6 2), .int .i64 (numAt s 8 6), .int .i64 (numAt s 14 4), .int .i64 (numAt s 18 6), .int .i64 (numAt s 24 4)]] w fun e w' => e = .returned (.tuple #[.string (s.extract 0 28), .int .i64 0]) ∧ Only (fun _ => False) w w' := by
  have := aencode_ok _ _ _ _ _ w h
  rw [arp_back s h0 hp] at this
  exact this
theorem dec_text (op fm fi tm ti : Int) (d : ByteArray) (w : World) (h : ArpOk op fm fi tm ti) (hd : d.size ≤ 18) :
    Calls Try.prog 22 #[.string (arpText op fm fi tm ti ++ d)] w fun e w' => e = .returned (.tuple #[.agg #[.int .i64 op, .int .i64 fm, .int .i64 fi, .int .i64 tm, .int .i64 ti], .int .i64 0]) ∧ Only (fun _ => False) w w' := by
  have hz : (arpText op fm fi tm ti ++ d).size = 28 + d.size := by rw [ByteArray.size_append, arpText_size]
  obtain ⟨e0, e1, e2, e3, e4, hp⟩ := arp_reads (arpText op fm fi tm ti ++ d) (nums d) op fm fi tm ti (by rw [nums_append, nums_arpText]) h
  have := dec_good (arpText op fm fi tm ti ++ d) w (by omega) (by omega) hp (by rw [e0, e1, e2, e3, e4]; exact h)
  rw [e0, e1, e2, e3, e4] at this
  exact this
theorem dec_text0 (op fm fi tm ti : Int) (w : World) (h : ArpOk op fm fi tm ti) :
    Calls Try.prog 22 #[.string (arpText op fm fi tm ti)] w fun e w' => e = .returned (.tuple #[.agg #[.int .i64 op, .int .i64 fm, .int .i64 fi, .int .i64 tm, .int .i64 ti], .int .i64 0]) ∧ Only (fun _ => False) w w' := by
  have := dec_text op fm fi tm ti ⟨#[]⟩ w h (by decide)
  rwa [show arpText op fm fi tm ti ++ ⟨#[]⟩ = arpText op fm fi tm ti from by apply nums_inj; rw [nums_append]; exact List.append_nil _] at this

set_option maxHeartbeats 8000000 in
theorem arpBack_walk (W : World) (cs : List Value) (hcs : CellsAre [.i, .i, .i, .i, .i] cs) (more : ByteArray) (hmo : more.size ≤ reachB) (s : ByteArray) (hs : s.size ≤ reachB) :
    Calls Try.prog 8 #[.agg cs.toArray, .string more, .string s] W fun e W' => e = .returned (.bool true) ∧ Below W.heap.size W W' := by
  obtain ⟨op, fm, fi, tm, ti, rfl⟩ := arp_cells hcs
  unfold reachB at hs hmo
  clear hcs
  by_cases h : ArpOk op fm fi tm ti
  · have hz := arpText_size op fm fi tm ti
    have hcat : ¬ 9223372036854775807 < (arpText op fm fi tm ti).size + more.size := by omega
    have HENC := Lib.hid (fun w => aencode_ok op fm fi tm ti w h)
    have HD1 := Lib.hid (fun w => dec_text0 op fm fi tm ti w h)
    by_cases hm : more.size ≤ 18
    · have HD2 := Lib.hid (fun w => dec_text op fm fi tm ti more w h hm)
      have d1 : decide ((more.size : Int) ≤ 18) = true := decide_eq_true (by omega)
      have d2 : (more.size : Int) ≤ 18 := by omega
      have hz' : ((arpText op fm fi tm ti).size : Int) = 28 := by omega
      clear h hm
      go_enter Try.func8, Try.ntmps8
      go_wp2_with fail
      have kP := blk_new W (.cells #[.int .i64 op, .int .i64 fm, .int .i64 fi, .int .i64 tm, .int .i64 ti] 23)
      have hO := (Only.refl (fun _ => False) W).alloc (.cells #[.int .i64 op, .int .i64 fm, .int .i64 fi, .int .i64 tm, .int .i64 ti] 23)
      refine (works04 _).mono ?_
      rintro e w1 ⟨rfl, hk⟩
      replace hO := hO.trans hk
      replace kP := hk.at kP (fun h => h)
      clear hk
      have p0 := blk_cell kP 0
      have p1 := blk_cell kP 1
      have p2 := blk_cell kP 2
      have p3 := blk_cell kP 3
      have p4 := blk_cell kP 4
      simp only [List.getElem?_toArray, List.getElem?_cons_zero, List.getElem?_cons_succ] at p0 p1 p2 p3 p4
      go_wp2_with fail
      clear p0 p1 p2 p3 p4
      refine (HENC.out _).mono ?_
      rintro e w2 ⟨rfl, hk⟩
      replace hO := hO.trans hk
      replace kP := hk.at kP (fun h => h)
      clear hk
      go_wp2_with fail
      refine (HD1.out _).mono ?_
      rintro e w3 ⟨rfl, hk⟩
      replace hO := (hO.trans hk).alloc (.cells #[.int .i64 op, .int .i64 fm, .int .i64 fi, .int .i64 tm, .int .i64 ti] 23)
      replace kP := blk_alloc (hk.at kP (fun h => h)) (.cells #[.int .i64 op, .int .i64 fm, .int .i64 fi, .int .i64 tm, .int .i64 ti] 23)
      have kX := blk_new w3 (.cells #[.int .i64 op, .int .i64 fm, .int .i64 fi, .int .i64 tm, .int .i64 ti] 23)
      clear hk
      go_wp2_with fail
      refine (HD2.out _).mono ?_
      rintro e w4 ⟨rfl, hk⟩
      replace hO := (hO.trans hk).alloc (.cells #[.int .i64 op, .int .i64 fm, .int .i64 fi, .int .i64 tm, .int .i64 ti] 23)
      replace kP := blk_alloc (hk.at kP (fun h => h)) (.cells #[.int .i64 op, .int .i64 fm, .int .i64 fi, .int .i64 tm, .int .i64 ti] 23)
      replace kX := blk_alloc (hk.at kX (fun h => h)) (.cells #[.int .i64 op, .int .i64 fm, .int .i64 fi, .int .i64 tm, .int .i64 ti] 23)
      have kY := blk_new w4 (.cells #[.int .i64 op, .int .i64 fm, .int .i64 fi, .int .i64 tm, .int .i64 ti] 23)
      clear hk
      have p0 := blk_cell kP 0
      have p1 := blk_cell kP 1
      have p2 := blk_cell kP 2
      have p3 := blk_cell kP 3
      have p4 := blk_cell kP 4
      simp only [List.getElem?_toArray, List.getElem?_cons_zero, List.getElem?_cons_succ] at p0 p1 p2 p3 p4
      have x0 := blk_cell kX 0
      have x1 := blk_cell kX 1
      have x2 := blk_cell kX 2
      have x3 := blk_cell kX 3
      have x4 := blk_cell kX 4
      simp only [List.getElem?_toArray, List.getElem?_cons_zero, List.getElem?_cons_succ] at x0 x1 x2 x3 x4
      have y0 := blk_cell kY 0
      have y1 := blk_cell kY 1
      have y2 := blk_cell kY 2
      have y3 := blk_cell kY 3
      have y4 := blk_cell kY 4
      simp only [List.getElem?_toArray, List.getElem?_cons_zero, List.getElem?_cons_succ] at y0 y1 y2 y3 y4
      have hlp := heap_lt kP
      have hlx := heap_lt kX
      have hly := heap_lt kY
      go_wp2_with fail
      clear p0 p1 p2 p3 p4 x0 x1 x2 x3 x4 y0 y1 y2 y3 y4 hlp hlx hly kX kY kP
      go_wp2_with fail
      by_cases hr : (28 ≤ s.size ∧ s.size ≤ 46 ∧ s.extract 0 6 = ⟨#[0, 1, 8, 0, 6, 4]⟩) ∧ ArpOk (numAt s 6 2) (numAt s 8 6) (numAt s 14 4) (numAt s 18 6) (numAt s 24 4)
      · refine (dec_good s _ hr.1.1 hr.1.2.1 hr.1.2.2 hr.2).mono ?_
        rintro e w5 ⟨rfl, hk⟩
        replace hO := (hO.trans hk).alloc (.cells #[.int .i64 (numAt s 6 2), .int .i64 (numAt s 8 6), .int .i64 (numAt s 14 4), .int .i64 (numAt s 18 6), .int .i64 (numAt s 24 4)] 23)
        have kX := blk_new w5 (.cells #[.int .i64 (numAt s 6 2), .int .i64 (numAt s 8 6), .int .i64 (numAt s 14 4), .int .i64 (numAt s 18 6), .int .i64 (numAt s 24 4)] 23)
        have s28 : (28 : Int) ≤ (s.size : Int) := by have := hr.1.1; omega
        have HE := Lib.hid (fun w => enc_good s w hr.1.1 hr.1.2.2 hr.2)
        clear hk hr
        have x0 := blk_cell kX 0
        have x1 := blk_cell kX 1
        have x2 := blk_cell kX 2
        have x3 := blk_cell kX 3
        have x4 := blk_cell kX 4
        simp only [List.getElem?_toArray, List.getElem?_cons_zero, List.getElem?_cons_succ] at x0 x1 x2 x3 x4
        go_wp2_with fail
        refine (HE.out _).mono ?_
        rintro e w6 ⟨rfl, hk⟩
        replace hO := hO.trans hk
        clear hk
        go_wp2_with fail
        go_ret
        exact ⟨rfl, hO.below (Nat.le_refl _) (fun _ _ h => h)⟩
      · refine (dec_none s _ hr).mono ?_
        rintro e w5 ⟨rfl, hk⟩
        replace hO := (hO.trans hk).alloc (.cells #[.int .i64 0, .int .i64 0, .int .i64 0, .int .i64 0, .int .i64 0] 23)
        have kX := blk_new w5 (.cells #[.int .i64 0, .int .i64 0, .int .i64 0, .int .i64 0, .int .i64 0] 23)
        clear hk hr
        have x0 := blk_cell kX 0
        have x1 := blk_cell kX 1
        have x2 := blk_cell kX 2
        have x3 := blk_cell kX 3
        have x4 := blk_cell kX 4
        simp only [List.getElem?_toArray, List.getElem?_cons_zero, List.getElem?_cons_succ] at x0 x1 x2 x3 x4
        have hlx := heap_lt kX
        go_wp2_with fail
        go_ret
        exact ⟨rfl, by first | exact hO.below (Nat.le_refl _) (fun _ _ h => h) | exact (hO.alloc _).below (Nat.le_refl _) (fun _ _ h => h)⟩
    · have hbig : 46 < (arpText op fm fi tm ti ++ more).size := by rw [ByteArray.size_append, hz]; omega
      have HD2 := Lib.hid (fun w => adecode_size (arpText op fm fi tm ti ++ more) w (Or.inr hbig))
      have d1 : decide ((more.size : Int) ≤ 18) = false := decide_eq_false (by omega)
      have d2 : (18 : Int) < (more.size : Int) := by omega
      have hz' : ((arpText op fm fi tm ti).size : Int) = 28 := by omega
      clear h hm hbig
      go_enter Try.func8, Try.ntmps8
      go_wp2_with fail
      have kP := blk_new W (.cells #[.int .i64 op, .int .i64 fm, .int .i64 fi, .int .i64 tm, .int .i64 ti] 23)
      have hO := (Only.refl (fun _ => False) W).alloc (.cells #[.int .i64 op, .int .i64 fm, .int .i64 fi, .int .i64 tm, .int .i64 ti] 23)
      refine (works04 _).mono ?_
      rintro e w1 ⟨rfl, hk⟩
      replace hO := hO.trans hk
      replace kP := hk.at kP (fun h => h)
      clear hk
      have p0 := blk_cell kP 0
      have p1 := blk_cell kP 1
      have p2 := blk_cell kP 2
      have p3 := blk_cell kP 3
      have p4 := blk_cell kP 4
      simp only [List.getElem?_toArray, List.getElem?_cons_zero, List.getElem?_cons_succ] at p0 p1 p2 p3 p4
      go_wp2_with fail
      clear p0 p1 p2 p3 p4
      refine (HENC.out _).mono ?_
      rintro e w2 ⟨rfl, hk⟩
      replace hO := hO.trans hk
      replace kP := hk.at kP (fun h => h)
      clear hk
      go_wp2_with fail
      refine (HD1.out _).mono ?_
      rintro e w3 ⟨rfl, hk⟩
      replace hO := (hO.trans hk).alloc (.cells #[.int .i64 op, .int .i64 fm, .int .i64 fi, .int .i64 tm, .int .i64 ti] 23)
      replace kP := blk_alloc (hk.at kP (fun h => h)) (.cells #[.int .i64 op, .int .i64 fm, .int .i64 fi, .int .i64 tm, .int .i64 ti] 23)
      have kX := blk_new w3 (.cells #[.int .i64 op, .int .i64 fm, .int .i64 fi, .int .i64 tm, .int .i64 ti] 23)
      clear hk
      go_wp2_with fail
      refine (HD2.out _).mono ?_
      rintro e w4 ⟨rfl, hk⟩
      replace hO := (hO.trans hk).alloc (.cells #[.int .i64 0, .int .i64 0, .int .i64 0, .int .i64 0, .int .i64 0] 23)
      replace kP := blk_alloc (hk.at kP (fun h => h)) (.cells #[.int .i64 0, .int .i64 0, .int .i64 0, .int .i64 0, .int .i64 0] 23)
      replace kX := blk_alloc (hk.at kX (fun h => h)) (.cells #[.int .i64 0, .int .i64 0, .int .i64 0, .int .i64 0, .int .i64 0] 23)
      have kY := blk_new w4 (.cells #[.int .i64 0, .int .i64 0, .int .i64 0, .int .i64 0, .int .i64 0] 23)
      clear hk
      have p0 := blk_cell kP 0
      have p1 := blk_cell kP 1
      have p2 := blk_cell kP 2
      have p3 := blk_cell kP 3
      have p4 := blk_cell kP 4
      simp only [List.getElem?_toArray, List.getElem?_cons_zero, List.getElem?_cons_succ] at p0 p1 p2 p3 p4
      have x0 := blk_cell kX 0
      have x1 := blk_cell kX 1
      have x2 := blk_cell kX 2
      have x3 := blk_cell kX 3
      have x4 := blk_cell kX 4
      simp only [List.getElem?_toArray, List.getElem?_cons_zero, List.getElem?_cons_succ] at x0 x1 x2 x3 x4
      have y0 := blk_cell kY 0
      have y1 := blk_cell kY 1
      have y2 := blk_cell kY 2
      have y3 := blk_cell kY 3
      have y4 := blk_cell kY 4
      simp only [List.getElem?_toArray, List.getElem?_cons_zero, List.getElem?_cons_succ] at y0 y1 y2 y3 y4
      have hlp := heap_lt kP
      have hlx := heap_lt kX
      have hly := heap_lt kY
      go_wp2_with fail
      clear p0 p1 p2 p3 p4 x0 x1 x2 x3 x4 y0 y1 y2 y3 y4 hlp hlx hly kX kY kP
      go_wp2_with fail
      by_cases hr : (28 ≤ s.size ∧ s.size ≤ 46 ∧ s.extract 0 6 = ⟨#[0, 1, 8, 0, 6, 4]⟩) ∧ ArpOk (numAt s 6 2) (numAt s 8 6) (numAt s 14 4) (numAt s 18 6) (numAt s 24 4)
      · refine (dec_good s _ hr.1.1 hr.1.2.1 hr.1.2.2 hr.2).mono ?_
        rintro e w5 ⟨rfl, hk⟩
        replace hO := (hO.trans hk).alloc (.cells #[.int .i64 (numAt s 6 2), .int .i64 (numAt s 8 6), .int .i64 (numAt s 14 4), .int .i64 (numAt s 18 6), .int .i64 (numAt s 24 4)] 23)
        have kX := blk_new w5 (.cells #[.int .i64 (numAt s 6 2), .int .i64 (numAt s 8 6), .int .i64 (numAt s 14 4), .int .i64 (numAt s 18 6), .int .i64 (numAt s 24 4)] 23)
        have s28 : (28 : Int) ≤ (s.size : Int) := by have := hr.1.1; omega
        have HE := Lib.hid (fun w => enc_good s w hr.1.1 hr.1.2.2 hr.2)
        clear hk hr
        have x0 := blk_cell kX 0
        have x1 := blk_cell kX 1
        have x2 := blk_cell kX 2
        have x3 := blk_cell kX 3
        have x4 := blk_cell kX 4
        simp only [List.getElem?_toArray, List.getElem?_cons_zero, List.getElem?_cons_succ] at x0 x1 x2 x3 x4
        go_wp2_with fail
        refine (HE.out _).mono ?_
        rintro e w6 ⟨rfl, hk⟩
        replace hO := hO.trans hk
        clear hk
        go_wp2_with fail
        go_ret
        exact ⟨rfl, hO.below (Nat.le_refl _) (fun _ _ h => h)⟩
      · refine (dec_none s _ hr).mono ?_
        rintro e w5 ⟨rfl, hk⟩
        replace hO := (hO.trans hk).alloc (.cells #[.int .i64 0, .int .i64 0, .int .i64 0, .int .i64 0, .int .i64 0] 23)
        have kX := blk_new w5 (.cells #[.int .i64 0, .int .i64 0, .int .i64 0, .int .i64 0, .int .i64 0] 23)
        clear hk hr
        have x0 := blk_cell kX 0
        have x1 := blk_cell kX 1
        have x2 := blk_cell kX 2
        have x3 := blk_cell kX 3
        have x4 := blk_cell kX 4
        simp only [List.getElem?_toArray, List.getElem?_cons_zero, List.getElem?_cons_succ] at x0 x1 x2 x3 x4
        have hlx := heap_lt kX
        go_wp2_with fail
        go_ret
        exact ⟨rfl, by first | exact hO.below (Nat.le_refl _) (fun _ _ h => h) | exact (hO.alloc _).below (Nat.le_refl _) (fun _ _ h => h)⟩
  · have HENC := Lib.hid (fun w => aencode_bad op fm fi tm ti w h)
    clear h
    go_enter Try.func8, Try.ntmps8
    go_wp2_with fail
    have kP := blk_new W (.cells #[.int .i64 op, .int .i64 fm, .int .i64 fi, .int .i64 tm, .int .i64 ti] 23)
    have hO := (Only.refl (fun _ => False) W).alloc (.cells #[.int .i64 op, .int .i64 fm, .int .i64 fi, .int .i64 tm, .int .i64 ti] 23)
    refine (works04 _).mono ?_
    rintro e w1 ⟨rfl, hk⟩
    replace hO := hO.trans hk
    replace kP := hk.at kP (fun h => h)
    clear hk
    have p0 := blk_cell kP 0
    have p1 := blk_cell kP 1
    have p2 := blk_cell kP 2
    have p3 := blk_cell kP 3
    have p4 := blk_cell kP 4
    simp only [List.getElem?_toArray, List.getElem?_cons_zero, List.getElem?_cons_succ] at p0 p1 p2 p3 p4
    go_wp2_with fail
    clear p0 p1 p2 p3 p4
    refine (HENC.out _).mono ?_
    rintro e w2 ⟨rfl, hk⟩
    replace hO := hO.trans hk
    replace kP := hk.at kP (fun h => h)
    clear hk
    clear kP
    go_wp2_with fail
    by_cases hr : (28 ≤ s.size ∧ s.size ≤ 46 ∧ s.extract 0 6 = ⟨#[0, 1, 8, 0, 6, 4]⟩) ∧ ArpOk (numAt s 6 2) (numAt s 8 6) (numAt s 14 4) (numAt s 18 6) (numAt s 24 4)
    · refine (dec_good s _ hr.1.1 hr.1.2.1 hr.1.2.2 hr.2).mono ?_
      rintro e w5 ⟨rfl, hk⟩
      replace hO := (hO.trans hk).alloc (.cells #[.int .i64 (numAt s 6 2), .int .i64 (numAt s 8 6), .int .i64 (numAt s 14 4), .int .i64 (numAt s 18 6), .int .i64 (numAt s 24 4)] 23)
      have kX := blk_new w5 (.cells #[.int .i64 (numAt s 6 2), .int .i64 (numAt s 8 6), .int .i64 (numAt s 14 4), .int .i64 (numAt s 18 6), .int .i64 (numAt s 24 4)] 23)
      have s28 : (28 : Int) ≤ (s.size : Int) := by have := hr.1.1; omega
      have HE := Lib.hid (fun w => enc_good s w hr.1.1 hr.1.2.2 hr.2)
      clear hk hr
      have x0 := blk_cell kX 0
      have x1 := blk_cell kX 1
      have x2 := blk_cell kX 2
      have x3 := blk_cell kX 3
      have x4 := blk_cell kX 4
      simp only [List.getElem?_toArray, List.getElem?_cons_zero, List.getElem?_cons_succ] at x0 x1 x2 x3 x4
      go_wp2_with fail
      refine (HE.out _).mono ?_
      rintro e w6 ⟨rfl, hk⟩
      replace hO := hO.trans hk
      clear hk
      go_wp2_with fail
      go_ret
      exact ⟨rfl, hO.below (Nat.le_refl _) (fun _ _ h => h)⟩
    · refine (dec_none s _ hr).mono ?_
      rintro e w5 ⟨rfl, hk⟩
      replace hO := (hO.trans hk).alloc (.cells #[.int .i64 0, .int .i64 0, .int .i64 0, .int .i64 0, .int .i64 0] 23)
      have kX := blk_new w5 (.cells #[.int .i64 0, .int .i64 0, .int .i64 0, .int .i64 0, .int .i64 0] 23)
      clear hk hr
      have x0 := blk_cell kX 0
      have x1 := blk_cell kX 1
      have x2 := blk_cell kX 2
      have x3 := blk_cell kX 3
      have x4 := blk_cell kX 4
      simp only [List.getElem?_toArray, List.getElem?_cons_zero, List.getElem?_cons_succ] at x0 x1 x2 x3 x4
      have hlx := heap_lt kX
      go_wp2_with fail
      go_ret
      exact ⟨rfl, by first | exact hO.below (Nat.le_refl _) (fun _ _ h => h) | exact (hO.alloc _).below (Nat.le_refl _) (fun _ _ h => h)⟩

end Go.Proofs.Ytgpmphcfjlojpaa

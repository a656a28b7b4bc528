/-
  The contracts of package cong .
  Conditions: numbers are of the kind int.
-/
import Derived.Test.YtdijimjcoollcaaProg
import Derived.Test.YtdijimjcoollcaaBase
import Derived.Test.YtdijimjcoollcaaAhead
import Derived.BigQuiet
import Derived.Deep.RegionHeld3
set_option linter.unusedVariables false
set_option linter.unusedSimpArgs false
namespace Go.Proofs.Ytdijimjcoollcaa
open Go.RowKit
attribute [local go_sem] max_ii min_ii

/-- A valve's state. -/
structure VS where
  m : Int
  wi : Int
  th : Int
  sa : Int
  ga : Int
  me : Bool
  up : Int

/-- A valve lies at g, its mss for the closure at c. -/
def ValveAt (w : World) (c g : Nat) (s : VS) : Prop :=
  w.heap[c]? = some (.cells #[.int .i64 s.m] 3 (0, 0)) ∧
  w.heap[g]? = some (.cells #[.int .i64 s.m, .int .i64 s.wi, .int .i64 s.th, .int .i64 s.sa, .int .i64 s.ga, .bool s.me, .int .i64 s.up, .func (.func 14) #[] #[.pointer (some ⟨c, 0, none⟩)]] 41 (0, 0)) ∧ c ≠ g

theorem count_any (n : Int) (w : World) : Calls Try.prog 16 #[.int .i64 n] w fun e w' => e = .returned (.int .i64 (mx 0 (mn 1048576 n))) ∧ w = w' := by
  go_enter Try.func16, Try.ntmps16
  go_wp2_with fail
  go_ret
  exact ⟨rfl, rfl⟩

theorem new_good (m : Int) (w : World) (h0 : 1 ≤ m) (h1 : m ≤ 1460) : Calls Try.prog 7 #[.int .i64 m] w fun e w' => e = .returned (.tuple #[.pointer (some ⟨w.heap.size + 1, 0, none⟩), .int .i64 0]) ∧ ValveAt w' w.heap.size (w.heap.size + 1) ⟨m, mn (4 * m) (mx (2 * m) 4380), 1048576, 0, 0, false, 0⟩ ∧ Only (fun _ => False) w w' := by
  go_enter Try.func7, Try.ntmps7
  go_wp2_with fail
  go_ret2
  exact ⟨rfl, ⟨blk_alloc (blk_new w _) _, blk_new2 w _ _, by omega⟩, ((Only.refl _ w).alloc _).alloc _⟩

theorem bound_any (n m : Int) (c : Nat) (w : World) (h : w.heap[c]? = some (.cells #[.int .i64 m] 3 (0, 0))) : Calls Try.prog 14 #[.int .i64 n, .pointer (some ⟨c, 0, none⟩)] w fun e w' => e = .returned (.int .i64 (mn 1048576 (mx m n))) ∧ w = w' := by
  have x0 := blk_cell h 0
  simp only [List.getElem?_toArray, List.getElem?_cons_zero] at x0
  go_enter Try.func14, Try.ntmps14
  go_wp2_with fail
  go_ret
  exact ⟨rfl, rfl⟩

theorem window_any (s : VS) (c g : Nat) (w : World) (h : ValveAt w c g s) : Calls Try.prog 12 #[.pointer (some ⟨g, 0, none⟩)] w fun e w' => e = .returned (.int .i64 s.wi) ∧ w = w' := by
  obtain ⟨_, h, _⟩ := h
  have x1 := blk_cell h 1
  simp only [List.getElem?_toArray, List.getElem?_cons_zero, List.getElem?_cons_succ] at x1
  go_enter Try.func12, Try.ntmps12
  go_wp2_with fail
  go_ret
  exact ⟨rfl, rfl⟩

theorem state_any (s : VS) (c g : Nat) (w : World) (h : ValveAt w c g s) : Calls Try.prog 11 #[.pointer (some ⟨g, 0, none⟩)] w fun e w' => e = .returned (.tuple #[.int .i64 s.th, .int .i64 s.sa, .int .i64 s.ga, .bool s.me, .int .i64 s.up]) ∧ Only (fun _ => False) w w' := by
  obtain ⟨_, h, _⟩ := h
  have x2 := blk_cell h 2
  have x3 := blk_cell h 3
  have x4 := blk_cell h 4
  have x5 := blk_cell h 5
  have x6 := blk_cell h 6
  simp only [List.getElem?_toArray, List.getElem?_cons_zero, List.getElem?_cons_succ] at x2 x3 x4 x5 x6
  go_enter Try.func11, Try.ntmps11
  go_wp2_with fail
  go_quiet (fail)
  go_wp2_with fail
  refine bodyPost_ret (v := .tuple #[.int .i64 s.th, .int .i64 s.sa, .int .i64 s.ga, .bool s.me, .int .i64 s.up]) (by simp [results, Try.results11, go_sem]) rfl ⟨rfl, (Only.refl _ w).drewN _⟩


/-- A number of bytes that may be. -/
def cnt (n : Int) : Int := mx 0 (mn 1048576 n)
theorem cnt_bounds (n : Int) : 0 ≤ cnt n ∧ cnt n ≤ 1048576 := by unfold cnt mx mn; omega
theorem count_cnt (n : Int) (w : World) : Calls Try.prog 16 #[.int .i64 n] w fun e w' => e = .returned (.int .i64 (cnt n)) ∧ w = w' := count_any n w

/-- Its numbers are in their bounds. -/
structure VOk (s : VS) : Prop where
  m1 : 1 ≤ s.m
  m2 : s.m ≤ 1460
  w1 : s.m ≤ s.wi
  w2 : s.wi ≤ 1048576
  t1 : 2 * s.m ≤ s.th
  t2 : s.th ≤ 1048576
  s1 : 0 ≤ s.sa
  s2 : s.sa ≤ 1048576
  g1 : 0 ≤ s.ga
  u1 : 0 ≤ s.up
  u2 : s.up < 4294967296
  u3 : s.me = false → s.up = 0

def VS.bound (s : VS) (n : Int) : Int := mn 1048576 (mx s.m n)
def VS.halve (s : VS) (f : Int) : VS := { s with th := mx (cnt f / 2) (2 * s.m) }
def VS.healed (s : VS) : VS := { s with me := false, up := 0, sa := 0 }
def VS.late (s : VS) (f : Int) : VS := { s with th := mx (cnt f / 2) (2 * s.m), wi := s.m, ga := 0, me := false, up := 0, sa := 0 }

theorem cell_setElse {w : World} {g i j : Nat} {v x : Value} (h : w.cell? ⟨g, i, none⟩ = some v) (hne : j ≠ i) : (w.setCell ⟨g, j, none⟩ x).cell? ⟨g, i, none⟩ = some v := by
  revert h
  unfold World.cell? World.setCell
  simp only [Array.getElem?_modify, if_true]
  cases w.heap[g]? with
  | none => simp
  | some o => cases o <;> simp [Array.getElem?_setIfInBounds, hne]

theorem halve_any (s : VS) (c g : Nat) (f : Int) (w : World) (h : ValveAt w c g s) (ho : VOk s) : Calls Try.prog 15 #[.pointer (some ⟨g, 0, none⟩), .int .i64 f] w fun e w' => e = .returned (.tuple #[]) ∧ ValveAt w' c g (s.halve f) ∧ Only (fun k => k = g) w w' := by
  obtain ⟨hc, h, hcg⟩ := h
  have x0 := blk_cell h 0
  have x2 := blk_cell h 2
  have f2 := blk_free h 2
  simp only [List.getElem?_toArray, List.getElem?_cons_zero, List.getElem?_cons_succ] at x0 x2
  obtain ⟨hb0, hb1⟩ := cnt_bounds f
  have hm1 := ho.m1
  have hm2 := ho.m2
  have H := Lib.hid h
  clear h ho
  go_enter Try.func15, Try.ntmps15
  go_wp2_with fail
  have hO := Only.refl (fun k => k = g) w
  go_region_held3 (fun w2 => w2.cell? ⟨g, 0, none⟩ = some (.int .i64 s.m) ∧ Only (· = g) w w2) (first | exact ⟨x0, hO⟩ | exact ⟨x0, hO.drew⟩ | assumption | exact ⟨cell_setElse x0 (by decide), hO.drew.setCell _ _ (fun _ => rfl)⟩ | exact ⟨cell_setElse x0 (by decide), (hO.setCell _ _ (fun _ => rfl)).drew⟩) (first | go_at_call 16; refine (count_cnt f _).mono ?_; rintro e _ ⟨rfl, rfl⟩)
  have e1 : IntKind.i64.wrap ((cnt f).tdiv 2) = cnt f / 2 := by rw [IntKind.wrap_i64, Int.tdiv_eq_ediv_of_nonneg hb0]; omega
  have e2 : IntKind.i64.wrap (2 * s.m) = 2 * s.m := by rw [IntKind.wrap_i64]; omega
  rw [e1, e2]
  go_wp2_with fail
  go_end0
  refine ⟨rfl, ⟨blk_set_other hc _ _ hcg.symm, blk_set H.out _ _, hcg⟩, (hO.setCell _ _ (fun _ => rfl)).drew⟩

theorem ValveAt.put {w : World} {c g : Nat} {s : VS} (h : ValveAt w c g s) (i : Nat) (v : Value) (s' : VS) (hm : s'.m = s.m)
    (e : (#[.int .i64 s.m, .int .i64 s.wi, .int .i64 s.th, .int .i64 s.sa, .int .i64 s.ga, .bool s.me, .int .i64 s.up, .func (.func 14) #[] #[.pointer (some ⟨c, 0, none⟩)]] : Array Value).setIfInBounds i v = #[.int .i64 s'.m, .int .i64 s'.wi, .int .i64 s'.th, .int .i64 s'.sa, .int .i64 s'.ga, .bool s'.me, .int .i64 s'.up, .func (.func 14) #[] #[.pointer (some ⟨c, 0, none⟩)]]) :
    ValveAt (w.setCell ⟨g, i, none⟩ v) c g s' := by
  obtain ⟨hc, h, hcg⟩ := h
  exact ⟨by rw [hm]; exact blk_set_other hc _ _ hcg.symm, by rw [← e]; exact blk_set h _ _, hcg⟩

theorem ValveAt.cells {w : World} {c g : Nat} {s : VS} (h : ValveAt w c g s) :
    w.cell? ⟨g, 0, none⟩ = some (.int .i64 s.m) ∧ w.cell? ⟨g, 1, none⟩ = some (.int .i64 s.wi) ∧ w.cell? ⟨g, 2, none⟩ = some (.int .i64 s.th) ∧ w.cell? ⟨g, 3, none⟩ = some (.int .i64 s.sa) ∧
    w.cell? ⟨g, 4, none⟩ = some (.int .i64 s.ga) ∧ w.cell? ⟨g, 5, none⟩ = some (.bool s.me) ∧ w.cell? ⟨g, 6, none⟩ = some (.int .i64 s.up) ∧ w.cell? ⟨g, 7, none⟩ = some (.func (.func 14) #[] #[.pointer (some ⟨c, 0, none⟩)]) :=
  ⟨blk_cell h.2.1 0, blk_cell h.2.1 1, blk_cell h.2.1 2, blk_cell h.2.1 3, blk_cell h.2.1 4, blk_cell h.2.1 5, blk_cell h.2.1 6, blk_cell h.2.1 7⟩

theorem ValveAt.free {w : World} {c g : Nat} {s : VS} (h : ValveAt w c g s) (i : Nat) : w.frozen? ⟨g, i, none⟩ = false := blk_free h.2.1 i

theorem healed_any (s : VS) (c g : Nat) (w : World) (h : ValveAt w c g s) : Calls Try.prog 18 #[.pointer (some ⟨g, 0, none⟩)] w fun e w' => e = .returned (.tuple #[]) ∧ ValveAt w' c g s.healed ∧ Only (fun k => k = g) w w' := by
  obtain ⟨x0, x1, x2, x3, x4, x5, x6, x7⟩ := h.cells
  have f3 := h.free 3
  have f5 := h.free 5
  have f6 := h.free 6
  have H := Lib.hid h
  clear h
  go_enter Try.func18, Try.ntmps18
  go_wp2_with fail
  go_end0
  exact ⟨rfl, ((H.out.put 5 _ { s with me := false } rfl rfl).put 6 _ { s with me := false, up := 0 } rfl rfl).put 3 _ s.healed rfl rfl, (((Only.refl (fun k => k = g) w).setCell _ _ (fun _ => rfl)).setCell _ _ (fun _ => rfl)).setCell _ _ (fun _ => rfl)⟩

theorem late_any (s : VS) (c g : Nat) (f : Int) (w : World) (h : ValveAt w c g s) (ho : VOk s) : Calls Try.prog 13 #[.pointer (some ⟨g, 0, none⟩), .int .i64 f] w fun e w' => e = .returned (.tuple #[]) ∧ ValveAt w' c g (s.late f) ∧ Only (fun k => k = g) w w' := by
  go_enter Try.func13, Try.ntmps13
  go_wp2_with fail
  refine (halve_any s c g f _ h ho).mono ?_
  rintro e w1 ⟨rfl, h1, hk1⟩
  obtain ⟨x0, x1, x2, x3, x4, x5, x6, x7⟩ := h1.cells
  have f1 := h1.free 1
  have f4 := h1.free 4
  have H := Lib.hid h1
  clear h1 h
  go_wp2_with fail
  refine (healed_any { s.halve f with wi := s.m, ga := 0 } c g _ ((H.out.put 1 _ { s.halve f with wi := s.m } rfl rfl).put 4 _ { s.halve f with wi := s.m, ga := 0 } rfl rfl)).mono ?_
  rintro e w2 ⟨rfl, h2, hk2⟩
  go_wp2_with fail
  go_end0
  exact ⟨rfl, h2, ((hk1.setCell _ _ (fun _ => rfl)).setCell _ _ (fun _ => rfl)).trans hk2⟩

theorem bound_v (s : VS) (n : Int) (c g : Nat) (w : World) (h : ValveAt w c g s) : Calls Try.prog 14 #[.int .i64 n, .pointer (some ⟨c, 0, none⟩)] w fun e w' => e = .returned (.int .i64 (s.bound n)) ∧ w = w' := bound_any n s.m c w h.1

def VS.mendEnd (s : VS) : VS := { s with wi := s.bound s.th, me := false, up := 0, sa := 0 }
def VS.part (s : VS) (n : Int) : VS := { s with wi := s.bound (mx 0 (s.wi - n) + (if s.m ≤ n then s.m else 0)) }

attribute [local go_sem] and_mask32

theorem mend_end (s : VS) (c g : Nat) (n up : Int) (w : World) (h : ValveAt w c g s) (ho : VOk s) (hn : 0 ≤ n ∧ n ≤ 1048576) (ha : aheadB (up % 4294967296) s.up = false) : Calls Try.prog 17 #[.pointer (some ⟨g, 0, none⟩), .int .i64 n, .int .i64 up] w fun e w' => e = .returned (.bool false) ∧ ValveAt w' c g s.mendEnd ∧ Only (fun k => k = g) w w' := by
  obtain ⟨x0, x1, x2, x3, x4, x5, x6, x7⟩ := h.cells
  have f1 := h.free 1
  have hu1 := ho.u1
  have hu2 := ho.u2
  have H := Lib.hid h
  have HA := Lib.hid ha
  clear h ha
  go_enter Try.func17, Try.ntmps17
  go_wp2_with fail
  refine (ahead_ok (up % 4294967296) s.up _ (by omega) (by omega) hu1 hu2).mono ?_
  rintro e _ ⟨rfl, rfl⟩
  rw [HA.out]
  have HC := Lib.hid H.out.1
  go_wp2_with fail
  have hO := Only.refl (fun k => k = g) w
  go_region_held3 (fun w2 => (w2.cell? ⟨g, 7, none⟩ = some (.func (.func 14) #[] #[.pointer (some ⟨c, 0, none⟩)]) ∧ w2.cell? ⟨g, 2, none⟩ = some (.int .i64 s.th)) ∧ Only (· = g) w w2) (first | exact ⟨⟨x7, x2⟩, hO⟩ | exact ⟨⟨x7, x2⟩, hO.drew⟩ | assumption | exact ⟨⟨cell_setElse x7 (by decide), cell_setElse x2 (by decide)⟩, hO.drew.setCell _ _ (fun _ => rfl)⟩ | exact ⟨⟨cell_setElse x7 (by decide), cell_setElse x2 (by decide)⟩, (hO.setCell _ _ (fun _ => rfl)).drew⟩) (first | (go_at_call 14; refine (bound_any _ s.m c _ (by exact HC.out)).mono ?_; rintro e _ ⟨rfl, rfl⟩))
  go_wp2_with fail
  refine (healed_any { s with wi := s.bound s.th } c g _ (by exact H.out.put 1 _ _ rfl rfl)).mono ?_
  rintro e w2 ⟨rfl, h2, hk2⟩
  go_wp2_with fail
  go_ret
  exact ⟨rfl, h2, ((hO.setCell _ _ (fun _ => rfl)).drew).trans hk2⟩

theorem mend_on (s : VS) (c g : Nat) (n up : Int) (w : World) (h : ValveAt w c g s) (ho : VOk s) (hn : 0 ≤ n ∧ n ≤ 1048576) (ha : aheadB (up % 4294967296) s.up = true) : Calls Try.prog 17 #[.pointer (some ⟨g, 0, none⟩), .int .i64 n, .int .i64 up] w fun e w' => e = .returned (.bool true) ∧ ValveAt w' c g (s.part n) ∧ Only (fun k => k = g) w w' := by
  obtain ⟨x0, x1, x2, x3, x4, x5, x6, x7⟩ := h.cells
  obtain ⟨hn0, hn1⟩ := hn
  have f1 := h.free 1
  have hu1 := ho.u1
  have hu2 := ho.u2
  have hw2 := ho.w2
  have hw1 := ho.w1
  have hm1 := ho.m1
  have hm2 := ho.m2
  have hx : 0 ≤ mx 0 (s.wi - n) ∧ mx 0 (s.wi - n) ≤ 1048576 := by unfold mx; omega
  obtain ⟨hx0, hx1⟩ := hx
  have H := Lib.hid h
  have HA := Lib.hid ha
  clear h ha ho
  go_enter Try.func17, Try.ntmps17
  go_wp2_with fail
  refine (ahead_ok (up % 4294967296) s.up _ (by omega) (by omega) hu1 hu2).mono ?_
  rintro e _ ⟨rfl, rfl⟩
  rw [HA.out]
  by_cases hmn : s.m ≤ n
  · go_wp2_with fail
    refine (bound_v s _ c g _ H.out).mono ?_
    rintro e _ ⟨rfl, rfl⟩
    go_wp2_with fail
    go_ret
    refine ⟨rfl, H.out.put 1 _ _ rfl ?_, (Only.refl (fun k => k = g) w).setCell _ _ (fun _ => rfl)⟩
    unfold VS.part
    rw [if_pos hmn]; rfl
  · go_wp2_with fail
    refine (bound_v s _ c g _ H.out).mono ?_
    rintro e _ ⟨rfl, rfl⟩
    go_wp2_with fail
    go_ret
    refine ⟨rfl, H.out.put 1 _ _ rfl ?_, (Only.refl (fun k => k = g) w).setCell _ _ (fun _ => rfl)⟩
    unfold VS.part
    rw [if_neg (by omega), Int.add_zero]; rfl

end Go.Proofs.Ytdijimjcoollcaa

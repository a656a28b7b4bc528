/-
  The contracts of package rto and of its reference: what each function does to an estimator that lies whole in a block.
  Conditions: numbers within the bounds that New and Sample keep.
-/
import Derived.Test.YtijlomapbnmliaaProg
import Derived.Test.YtijlomapbnmliaaBase
namespace Go.Proofs.Ytijlomapbnmliaa
open Go.RowKit
set_option linter.unusedVariables false
set_option linter.unusedSimpArgs false
attribute [local go_sem] max_ii min_ii

/-- An estimator. -/
structure RtoS where
  least : Int
  greatest : Int
  wait : Int
  mean : Int
  dev : Int
  backs : Int
  any : Bool

/-- It lies at block g. -/
def RtoAt (w : World) (g : Nat) (s : RtoS) : Prop :=
  w.heap[g]? = some (.cells #[.int .i64 s.least, .int .i64 s.greatest, .int .i64 s.wait, .int .i64 s.mean, .int .i64 s.dev, .int .i64 s.backs, .bool s.any] 49 (0, 0))

def badSetup (f l g : Int) : Prop := (l < 1 ∨ 1048576 < g) ∨ f < l ∨ g < f

def RtoS.new (f l g : Int) : RtoS := ⟨l, g, f, 0, 0, 0, false⟩

theorem new_bad (f l g : Int) (w : World) (h : badSetup f l g) :
    Calls Try.prog 9 #[.int .i64 f, .int .i64 l, .int .i64 g] w fun e w' => e = .returned (.tuple #[.pointer none, .int .i64 1]) ∧ w = w' := by
  unfold badSetup at h
  go_enter Try.func9, Try.ntmps9
  go_wp2
  all_goals (go_ret2; exact ⟨rfl, rfl⟩)

theorem new_good (f l g : Int) (w : World) (h : ¬ badSetup f l g) :
    Calls Try.prog 9 #[.int .i64 f, .int .i64 l, .int .i64 g] w fun e w' => e = .returned (.tuple #[.pointer (some ⟨w.heap.size, 0, none⟩), .int .i64 0]) ∧ RtoAt w' w.heap.size (.new f l g) ∧ Only (fun _ => False) w w' := by
  unfold badSetup at h
  have h1 : ¬ l < 1 := by omega
  have h2 : ¬ 1048576 < g := by omega
  have h3 : ¬ f < l := by omega
  have h4 : ¬ g < f := by omega
  clear h
  go_enter Try.func9, Try.ntmps9
  go_wp2
  go_ret2
  exact ⟨rfl, blk_new _ _, (Only.refl _ _).alloc _⟩

theorem RtoAt.cells {w : World} {g : Nat} {s : RtoS} (h : RtoAt w g s) :
    w.cell? ⟨g, 0, none⟩ = some (.int .i64 s.least) ∧ w.cell? ⟨g, 1, none⟩ = some (.int .i64 s.greatest) ∧ w.cell? ⟨g, 2, none⟩ = some (.int .i64 s.wait) ∧
    w.cell? ⟨g, 3, none⟩ = some (.int .i64 s.mean) ∧ w.cell? ⟨g, 4, none⟩ = some (.int .i64 s.dev) ∧ w.cell? ⟨g, 5, none⟩ = some (.int .i64 s.backs) ∧ w.cell? ⟨g, 6, none⟩ = some (.bool s.any) :=
  ⟨blk_cell h 0, blk_cell h 1, blk_cell h 2, blk_cell h 3, blk_cell h 4, blk_cell h 5, blk_cell h 6⟩

theorem wait_any (g : Nat) (s : RtoS) (w : World) (h : RtoAt w g s) :
    Calls Try.prog 11 #[.pointer (some ⟨g, 0, none⟩)] w fun e w' => e = .returned (.int .i64 s.wait) ∧ w = w' := by
  obtain ⟨_, _, c2, _, _, _, _⟩ := h.cells
  clear h
  go_enter Try.func11, Try.ntmps11
  go_wp2
  go_ret
  exact ⟨rfl, rfl⟩

theorem state_any (g : Nat) (s : RtoS) (w : World) (h : RtoAt w g s) :
    Calls Try.prog 12 #[.pointer (some ⟨g, 0, none⟩)] w fun e w' => e = .returned (.tuple #[.int .i64 s.mean, .int .i64 s.dev, .int .i64 s.backs]) ∧ Only (fun _ => False) w w' := by
  obtain ⟨c0, c1, c2, c3, c4, c5, c6⟩ := h.cells
  have fz := blk_free h
  clear h
  by_cases h0 : s.mean = 0 ∧ s.dev = 0 ∧ s.backs = 0
  · obtain ⟨h1, h2, h3⟩ := h0
    rw [h1] at c3 ⊢; rw [h2] at c4 ⊢; rw [h3] at c5 ⊢
    clear h1 h2 h3
    go_enter Try.func12, Try.ntmps12
    go_wp2
    go_ret3
    exact ⟨rfl, Only.refl _ _⟩
  · have H0 := Lib.hid h0
    clear h0
    go_enter Try.func12, Try.ntmps12
    go_wp2_with fail
    · exact (H0.out ⟨by assumption, by assumption, by assumption⟩).elim
    all_goals
      go_quiet (fail)
      go_wp2_with fail
      go_ret3
      exact ⟨by simp [*], (Only.refl _ _).drewN _⟩

/-- What a sample makes of it. -/
def RtoS.sample (s : RtoS) (t : Int) : RtoS :=
  let m := if s.any then s.mean + (t - s.mean / 8) else 8 * t
  let d := if s.any then s.dev - s.dev / 4 + mx (t - s.mean / 8) (-(t - s.mean / 8)) else 2 * t
  { s with mean := m, dev := d, backs := 0, any := true, wait := mn s.greatest (mx s.least (m / 8 + mx 1 d)) }

theorem sample_bad (g : Nat) (t : Int) (w : World) (h : t < 0 ∨ 1048576 < t) :
    Calls Try.prog 10 #[.pointer (some ⟨g, 0, none⟩), .int .i64 t] w fun e w' => e = .returned (.int .i64 1) ∧ w = w' := by
  go_enter Try.func10, Try.ntmps10
  go_wp2
  all_goals (go_ret; exact ⟨rfl, rfl⟩)

set_option maxHeartbeats 1000000 in
theorem sample_good (g : Nat) (s : RtoS) (t : Int) (w : World) (h : RtoAt w g s) (t0 : 0 ≤ t) (t1 : t ≤ 1048576) (m0 : 0 ≤ s.mean) (m1 : s.mean ≤ 100000000) (d0 : 0 ≤ s.dev) (d1 : s.dev ≤ 100000000) :
    Calls Try.prog 10 #[.pointer (some ⟨g, 0, none⟩), .int .i64 t] w fun e w' => e = .returned (.int .i64 0) ∧ RtoAt w' g (s.sample t) ∧ Only (fun k => k = g) w w' := by
  obtain ⟨c0, c1, c2, c3, c4, c5, c6⟩ := h.cells
  have fz := blk_free h
  have H := Lib.hid h
  clear h
  have hx0 : 0 ≤ mx (t - s.mean / 8) (-(t - s.mean / 8)) ∧ mx (t - s.mean / 8) (-(t - s.mean / 8)) ≤ 100000000 := by unfold mx; omega
  have hx1 : 0 ≤ mx 1 (s.dev - s.dev / 4 + mx (t - s.mean / 8) (-(t - s.mean / 8))) ∧ mx 1 (s.dev - s.dev / 4 + mx (t - s.mean / 8) (-(t - s.mean / 8))) ≤ 300000000 := by
    unfold mx; omega
  have hx2 : 0 ≤ mx 1 (2 * t) ∧ mx 1 (2 * t) ≤ 100000000 := by unfold mx; omega
  cases ha : s.any with
  | true =>
    rw [ha] at c6
    go_enter Try.func10, Try.ntmps10
    go_wp2_with fail
    go_region
    go_wp2_with fail
    go_region
    go_wp2_with fail
    go_ret
    have hb := H.out
    unfold RtoAt at hb
    refine ⟨rfl, ?_, ?_⟩
    · simp only [RtoAt, heap_drew, heap_set, hb, Option.map_some, setAt_cells, List.set_cons_succ, List.set_cons_zero, RtoS.sample, ha, if_true]
    · repeat (first | exact Only.refl _ _ | apply Only.drew | refine Only.setCell ?_ _ _ (fun _ => rfl))
  | false =>
    rw [ha] at c6
    go_enter Try.func10, Try.ntmps10
    go_wp2_with fail
    go_region
    go_wp2_with fail
    go_ret
    have hb := H.out
    unfold RtoAt at hb
    have h8 : 8 * t / 8 = t := by omega
    refine ⟨rfl, ?_, ?_⟩
    · simp only [RtoAt, heap_drew, heap_set, hb, Option.map_some, setAt_cells, List.set_cons_succ, List.set_cons_zero, RtoS.sample, ha, Bool.false_eq_true, if_false, h8]
    · repeat (first | exact Only.refl _ _ | apply Only.drew | refine Only.setCell ?_ _ _ (fun _ => rfl))

/-- The wait doubled. -/
def RtoS.back (s : RtoS) : RtoS := { s with wait := mn s.greatest (2 * s.wait), backs := mn 32 (s.backs + 1) }

theorem back_any (g : Nat) (s : RtoS) (w : World) (h : RtoAt w g s) (w0 : 0 ≤ s.wait) (w1 : s.wait ≤ 1048576) (b0 : 0 ≤ s.backs) (b1 : s.backs ≤ 32) :
    Calls Try.prog 13 #[.pointer (some ⟨g, 0, none⟩)] w fun e w' => e = .returned (.int .i64 s.back.wait) ∧ RtoAt w' g s.back ∧ Only (fun k => k = g) w w' := by
  obtain ⟨c0, c1, c2, c3, c4, c5, c6⟩ := h.cells
  have fz := blk_free h
  have H := Lib.hid h
  clear h
  go_enter Try.func13, Try.ntmps13
  go_wp2_with fail
  go_region
  go_wp2_with fail
  go_ret
  have hb := H.out
  unfold RtoAt at hb
  refine ⟨rfl, ?_, ?_⟩
  · simp only [RtoAt, heap_drew, heap_set, World.heap_drewN, hb, Option.map_some, setAt_cells, List.set_cons_succ, List.set_cons_zero, RtoS.back]
  · repeat (first | exact Only.refl _ _ | apply Only.drew | apply Only.drewN | refine Only.setCell ?_ _ _ (fun _ => rfl))

theorem fork_any (g : Nat) (s : RtoS) (w : World) (h : RtoAt w g s) :
    Calls Try.prog 15 #[.pointer (some ⟨g, 0, none⟩)] w fun e w' => e = .returned (.pointer (some ⟨w.heap.size, 0, none⟩)) ∧ RtoAt w' w.heap.size s ∧ Only (fun _ => False) w w' := by
  obtain ⟨c0, c1, c2, c3, c4, c5, c6⟩ := h.cells
  have fz := blk_free h
  have H := Lib.hid h
  clear h
  go_enter Try.func15, Try.ntmps15
  go_wp2_with fail
  go_ret
  have hb := H.out
  unfold RtoAt at hb
  exact ⟨rfl, blk_new _ _, (Only.refl _ _).alloc _⟩

/-- The reference's. -/
def RefAt (w : World) (g : Nat) (s : RtoS) : Prop :=
  w.heap[g]? = some (.cells #[.int .i64 s.least, .int .i64 s.greatest, .int .i64 s.wait, .int .i64 s.mean, .int .i64 s.dev, .int .i64 s.backs, .bool s.any] 45 (0, 0))

theorem RefAt.cells {w : World} {g : Nat} {s : RtoS} (h : RefAt w g s) :
    w.cell? ⟨g, 0, none⟩ = some (.int .i64 s.least) ∧ w.cell? ⟨g, 1, none⟩ = some (.int .i64 s.greatest) ∧ w.cell? ⟨g, 2, none⟩ = some (.int .i64 s.wait) ∧
    w.cell? ⟨g, 3, none⟩ = some (.int .i64 s.mean) ∧ w.cell? ⟨g, 4, none⟩ = some (.int .i64 s.dev) ∧ w.cell? ⟨g, 5, none⟩ = some (.int .i64 s.backs) ∧ w.cell? ⟨g, 6, none⟩ = some (.bool s.any) :=
  ⟨blk_cell h 0, blk_cell h 1, blk_cell h 2, blk_cell h 3, blk_cell h 4, blk_cell h 5, blk_cell h 6⟩

def rbadSetup (f l g : Int) : Prop := (((l < 1 ∨ g < l) ∨ 1048576 < g) ∨ f < l) ∨ g < f

theorem rnew_bad (f l g : Int) (w : World) (h : rbadSetup f l g) :
    Calls Try.prog 14 #[.int .i64 f, .int .i64 l, .int .i64 g] w fun e w' => e = .returned (.tuple #[.pointer none, .int .i64 1]) ∧ w = w' := by
  unfold rbadSetup at h
  go_enter Try.func14, Try.ntmps14
  go_wp2
  all_goals (go_ret2; exact ⟨rfl, rfl⟩)

theorem rnew_good (f l g : Int) (w : World) (h : ¬ rbadSetup f l g) :
    Calls Try.prog 14 #[.int .i64 f, .int .i64 l, .int .i64 g] w fun e w' => e = .returned (.tuple #[.pointer (some ⟨w.heap.size, 0, none⟩), .int .i64 0]) ∧ RefAt w' w.heap.size (.new f l g) ∧ Only (fun _ => False) w w' := by
  unfold rbadSetup at h
  have h1 : ¬ l < 1 := by omega
  have h2 : ¬ 1048576 < g := by omega
  have h3 : ¬ f < l := by omega
  have h4 : ¬ g < f := by omega
  have h5 : ¬ g < l := by omega
  clear h
  go_enter Try.func14, Try.ntmps14
  go_wp2
  go_ret2
  exact ⟨rfl, blk_new _ _, (Only.refl _ _).alloc _⟩

theorem rback_any (g : Nat) (s : RtoS) (w : World) (h : RefAt w g s) (w0 : 0 ≤ s.wait) (w1 : s.wait ≤ 1048576) (b0 : 0 ≤ s.backs) (b1 : s.backs ≤ 32) :
    Calls Try.prog 16 #[.pointer (some ⟨g, 0, none⟩)] w fun e w' => e = .returned (.int .i64 s.back.wait) ∧ RefAt w' g s.back ∧ Only (fun k => k = g) w w' := by
  obtain ⟨c0, c1, c2, c3, c4, c5, c6⟩ := h.cells
  have fz := blk_free h
  have H := Lib.hid h
  clear h
  go_enter Try.func16, Try.ntmps16
  go_wp2_with fail
  go_region
  go_wp2_with fail
  go_ret
  have hb := H.out
  unfold RefAt at hb
  refine ⟨rfl, ?_, ?_⟩
  · simp only [RefAt, heap_drew, heap_set, World.heap_drewN, hb, Option.map_some, setAt_cells, List.set_cons_succ, List.set_cons_zero, RtoS.back]
  · repeat (first | exact Only.refl _ _ | apply Only.drew | apply Only.drewN | refine Only.setCell ?_ _ _ (fun _ => rfl))

theorem rsample_bad (g : Nat) (t : Int) (w : World) (h : t < 0 ∨ 1048576 < t) :
    Calls Try.prog 17 #[.pointer (some ⟨g, 0, none⟩), .int .i64 t] w fun e w' => e = .returned (.int .i64 1) ∧ w = w' := by
  go_enter Try.func17, Try.ntmps17
  go_wp2
  all_goals (go_ret; exact ⟨rfl, rfl⟩)

set_option maxHeartbeats 2000000 in
theorem rsample_good (g : Nat) (s : RtoS) (t : Int) (w : World) (h : RefAt w g s) (t0 : 0 ≤ t) (t1 : t ≤ 1048576) (m0 : 0 ≤ s.mean) (m1 : s.mean ≤ 100000000) (d0 : 0 ≤ s.dev) (d1 : s.dev ≤ 100000000) :
    Calls Try.prog 17 #[.pointer (some ⟨g, 0, none⟩), .int .i64 t] w fun e w' => e = .returned (.int .i64 0) ∧ RefAt w' g (s.sample t) ∧ Only (fun k => k = g) w w' := by
  obtain ⟨c0, c1, c2, c3, c4, c5, c6⟩ := h.cells
  have fz := blk_free h
  have H := Lib.hid h
  clear h
  have hx0 : 0 ≤ mx (t - s.mean / 8) (-(t - s.mean / 8)) ∧ mx (t - s.mean / 8) (-(t - s.mean / 8)) ≤ 100000000 := by unfold mx; omega
  have hx1 : 0 ≤ mx 1 (s.dev - s.dev / 4 + mx (t - s.mean / 8) (-(t - s.mean / 8))) ∧ mx 1 (s.dev - s.dev / 4 + mx (t - s.mean / 8) (-(t - s.mean / 8))) ≤ 300000000 := by
    unfold mx; omega
  have hw : wrap64 ((s.mean + (t - s.mean / 8)) / 8 + mx 1 (s.dev - s.dev / 4 + mx (t - s.mean / 8) (-(t - s.mean / 8)))) = (s.mean + (t - s.mean / 8)) / 8 + mx 1 (s.dev - s.dev / 4 + mx (t - s.mean / 8) (-(t - s.mean / 8))) :=
    IntWalk.wrap64_in _ ⟨by omega, by omega⟩
  have HW := Lib.hid hw
  clear hw
  have hx2 : 0 ≤ mx 1 (2 * t) ∧ mx 1 (2 * t) ≤ 100000000 := by unfold mx; omega
  cases ha : s.any with
  | true =>
    rw [ha] at c6
    by_cases hd : t - s.mean / 8 < 0
    · go_enter Try.func17, Try.ntmps17
      go_wp2_with fail
      go_region
      go_wp2_with fail
      go_region
      go_wp2_with fail
      go_ret
      have hb := H.out
      unfold RefAt at hb
      have he : s.dev + (-(t - s.mean / 8) - s.dev / 4) = s.dev - s.dev / 4 + mx (t - s.mean / 8) (-(t - s.mean / 8)) := by unfold mx; omega
      refine ⟨rfl, ?_, ?_⟩
      · simp only [RefAt, heap_drew, heap_set, hb, Option.map_some, setAt_cells, List.set_cons_succ, List.set_cons_zero, RtoS.sample, ha, if_true, he, HW.out]
      · repeat (first | exact Only.refl _ _ | apply Only.drew | refine Only.setCell ?_ _ _ (fun _ => rfl))
    · go_enter Try.func17, Try.ntmps17
      go_wp2_with fail
      go_region
      go_wp2_with fail
      go_region
      go_wp2_with fail
      go_ret
      have hb := H.out
      unfold RefAt at hb
      have he : s.dev + (t - s.mean / 8 - s.dev / 4) = s.dev - s.dev / 4 + mx (t - s.mean / 8) (-(t - s.mean / 8)) := by unfold mx; omega
      refine ⟨rfl, ?_, ?_⟩
      · simp only [RefAt, heap_drew, heap_set, hb, Option.map_some, setAt_cells, List.set_cons_succ, List.set_cons_zero, RtoS.sample, ha, if_true, he, HW.out]
      · repeat (first | exact Only.refl _ _ | apply Only.drew | refine Only.setCell ?_ _ _ (fun _ => rfl))
  | false =>
    rw [ha] at c6
    go_enter Try.func17, Try.ntmps17
    go_wp2_with fail
    go_region
    go_wp2_with fail
    go_ret
    have hb := H.out
    unfold RefAt at hb
    have h8 : 8 * t / 8 = t := by omega
    refine ⟨rfl, ?_, ?_⟩
    · simp only [RefAt, heap_drew, heap_set, hb, Option.map_some, setAt_cells, List.set_cons_succ, List.set_cons_zero, RtoS.sample, ha, Bool.false_eq_true, if_false, h8]
    · repeat (first | exact Only.refl _ _ | apply Only.drew | refine Only.setCell ?_ _ _ (fun _ => rfl))

end Go.Proofs.Ytijlomapbnmliaa

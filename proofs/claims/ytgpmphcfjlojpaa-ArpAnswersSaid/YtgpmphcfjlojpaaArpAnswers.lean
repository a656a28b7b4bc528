/-
  The walk of the law ArpAnswers.
  No conditions.
-/
import Derived.Test.YtgpmphcfjlojpaaArpMakes
import Derived.Test.YtgpmphcfjlojpaaArpIs
import Derived.Deep.RegionHeld3
set_option linter.unusedVariables false
set_option linter.unusedSimpArgs false
namespace Go.Proofs.Ytgpmphcfjlojpaa
open Go.RowKit

set_option maxHeartbeats 4000000 in
theorem arpAnswers_walk (W : World) (cs : List Value) (hcs : CellsAre [.i, .i, .i, .i, .i] cs) (mac : Int) (wm : (Lit.int .i64 mac).wf = true) :
    Calls Try.prog 4 #[.agg cs.toArray, .int .i64 mac] W fun e W' => e = .returned (.bool true) ∧ Below W.heap.size W W' := by
  obtain ⟨op, fm, fi, tm, ti, rfl⟩ := arp_cells hcs
  clear hcs wm
  by_cases h : ArpOk op fm fi tm ti ∧ op = 1 ∧ ArpOk 2 mac ti fm fi
  · obtain ⟨h1, rfl, h2⟩ := h
    have ha : amade 2 mac ti fm fi = ⟨2, mac, ti, fm, fi⟩ := if_pos h2
    have hb : arC 2 mac ti fm fi = 0 := if_pos h2
    have HT := Lib.hid (fun w => tell_yes fm fi tm ti mac w h1)
    rw [ha, hb] at HT
    have HN := Lib.hid (fun w => tell_other 2 mac ti fm fi mac w h2 (by omega))
    have hi : aclaB 2 mac ti fm fi = aclaB 1 fm fi tm ti := by
      unfold aclaB
      by_cases hx : fi = ti
      · rw [if_pos ⟨h2, hx.symm⟩, if_pos ⟨h1, hx⟩]
      · rw [if_neg (fun x => hx x.2.symm), if_neg (fun x => hx x.2)]
    clear ha hb h1 h2
    go_enter Try.func4, Try.ntmps4
    go_wp2_with fail
    have kP := blk_new W (.cells #[.int .i64 1, .int .i64 fm, .int .i64 fi, .int .i64 tm, .int .i64 ti] 23)
    have hO := (Only.refl (fun _ => False) W).alloc (.cells #[.int .i64 1, .int .i64 fm, .int .i64 fi, .int .i64 tm, .int .i64 ti] 23)
    refine (works04 _).mono ?_
    rintro e w1 ⟨rfl, hk⟩
    replace hO := hO.trans hk
    replace kP := hk.at kP (fun h => h)
    clear hk
    have p0 := blk_cell kP 0
    have p1 := blk_cell kP 1
    have p2 := blk_cell kP 2
    have p3 := blk_cell kP 3
    have p4 := blk_cell kP 4
    simp only [List.setIfInBounds_toArray, List.set_cons_zero, List.set_cons_succ, List.getElem?_toArray, List.getElem?_cons_zero, List.getElem?_cons_succ] at p0 p1 p2 p3 p4
    go_wp2_with fail
    clear p0 p1 p2 p3 p4
    refine (HT.out _).mono ?_
    rintro e w2 ⟨rfl, hk⟩
    replace hO := (hO.trans hk).alloc (.cells #[.int .i64 2, .int .i64 mac, .int .i64 ti, .int .i64 fm, .int .i64 fi] 23)
    replace kP := blk_alloc (hk.at kP (fun h => h)) (.cells #[.int .i64 2, .int .i64 mac, .int .i64 ti, .int .i64 fm, .int .i64 fi] 23)
    have kB := blk_new w2 (.cells #[.int .i64 2, .int .i64 mac, .int .i64 ti, .int .i64 fm, .int .i64 fi] 23)
    clear hk
    have b0 := blk_cell kB 0
    have b1 := blk_cell kB 1
    have b2 := blk_cell kB 2
    have b3 := blk_cell kB 3
    have b4 := blk_cell kB 4
    simp only [List.setIfInBounds_toArray, List.set_cons_zero, List.set_cons_succ, List.getElem?_toArray, List.getElem?_cons_zero, List.getElem?_cons_succ] at b0 b1 b2 b3 b4
    have hlb := heap_lt kB
    go_wp2_with fail
    clear b0 b1 b2 b3 b4
    refine (HN.out _).mono ?_
    rintro e w3 ⟨rfl, hk⟩
    replace hO := (hO.trans hk).alloc (.cells #[.int .i64 0, .int .i64 0, .int .i64 0, .int .i64 0, .int .i64 0] 23)
    replace kP := blk_alloc (hk.at kP (fun h => h)) (.cells #[.int .i64 0, .int .i64 0, .int .i64 0, .int .i64 0, .int .i64 0] 23)
    replace kB := blk_alloc (hk.at kB (fun h => h)) (.cells #[.int .i64 0, .int .i64 0, .int .i64 0, .int .i64 0, .int .i64 0] 23)
    clear hk hlb
    have p0 := blk_cell kP 0
    have p1 := blk_cell kP 1
    have p2 := blk_cell kP 2
    have p3 := blk_cell kP 3
    have p4 := blk_cell kP 4
    simp only [List.setIfInBounds_toArray, List.set_cons_zero, List.set_cons_succ, List.getElem?_toArray, List.getElem?_cons_zero, List.getElem?_cons_succ] at p0 p1 p2 p3 p4
    have b0 := blk_cell kB 0
    have b1 := blk_cell kB 1
    have b2 := blk_cell kB 2
    have b3 := blk_cell kB 3
    have b4 := blk_cell kB 4
    simp only [List.setIfInBounds_toArray, List.set_cons_zero, List.set_cons_succ, List.getElem?_toArray, List.getElem?_cons_zero, List.getElem?_cons_succ] at b0 b1 b2 b3 b4
    have hlb := heap_lt kB
    have hlp := heap_lt kP
    go_wp2_with fail
    clear hlb hlp kP kB
    generalize World.alloc w3 (.cells #[.int .i64 0, .int .i64 0, .int .i64 0, .int .i64 0, .int .i64 0] 23) = w4 at *
    generalize w2.heap.size = q at *
    generalize W.heap.size = p at *
    go_region_held3 (fun w' => (w'.cell? ⟨p, 0, none⟩ = some (.int .i64 1) ∧ w'.cell? ⟨p, 1, none⟩ = some (.int .i64 fm) ∧ w'.cell? ⟨p, 2, none⟩ = some (.int .i64 fi) ∧ w'.cell? ⟨p, 3, none⟩ = some (.int .i64 tm) ∧ w'.cell? ⟨p, 4, none⟩ = some (.int .i64 ti)) ∧ (w'.cell? ⟨q, 0, none⟩ = some (.int .i64 2) ∧ w'.cell? ⟨q, 1, none⟩ = some (.int .i64 mac) ∧ w'.cell? ⟨q, 2, none⟩ = some (.int .i64 ti) ∧ w'.cell? ⟨q, 3, none⟩ = some (.int .i64 fm) ∧ w'.cell? ⟨q, 4, none⟩ = some (.int .i64 fi)) ∧ Only (fun _ => False) W w')
      (first | exact ⟨⟨p0, p1, p2, p3, p4⟩, ⟨b0, b1, b2, b3, b4⟩, hO⟩ | exact ⟨⟨p0, p1, p2, p3, p4⟩, ⟨b0, b1, b2, b3, b4⟩, hO.drew⟩ | assumption)
      (first | (go_at_call 16; refine (isclaim_any _ _ _ _ _ _).mono ?_; rintro e wn ⟨rfl, hk⟩; replace p0 := cell_only hk (fun h => h) p0; replace p1 := cell_only hk (fun h => h) p1; replace p2 := cell_only hk (fun h => h) p2; replace p3 := cell_only hk (fun h => h) p3; replace p4 := cell_only hk (fun h => h) p4; replace b0 := cell_only hk (fun h => h) b0; replace b1 := cell_only hk (fun h => h) b1; replace b2 := cell_only hk (fun h => h) b2; replace b3 := cell_only hk (fun h => h) b3; replace b4 := cell_only hk (fun h => h) b4; replace hO := hO.step hk ⟨rfl, rfl, rfl, rfl⟩ (fun _ _ h => h)))
    go_wp2_with fail
    go_ret
    exact ⟨rfl, hO.below (Nat.le_refl _) (fun _ _ h => h)⟩
  · have hz : ∀ w, Calls Try.prog 11 #[.agg #[.int .i64 op, .int .i64 fm, .int .i64 fi, .int .i64 tm, .int .i64 ti], .int .i64 mac] w fun e w' => e = .returned (.tuple #[.agg #[.int .i64 0, .int .i64 0, .int .i64 0, .int .i64 0, .int .i64 0], .int .i64 40]) ∧ Only (fun _ => False) w w' := by
      intro w
      by_cases h1 : ArpOk op fm fi tm ti
      · by_cases ho : op = 1
        · subst ho
          have h2 : ¬ ArpOk 2 mac ti fm fi := fun x => h ⟨h1, rfl, x⟩
          have := tell_yes fm fi tm ti mac w h1
          rw [show amade 2 mac ti fm fi = ⟨0, 0, 0, 0, 0⟩ from if_neg h2, show arC 2 mac ti fm fi = 40 from if_neg h2] at this
          exact this
        · exact tell_other op fm fi tm ti mac w h1 ho
      · exact tell_bad op fm fi tm ti mac w h1
    have HZ := Lib.hid hz
    clear hz h
    go_enter Try.func4, Try.ntmps4
    go_wp2_with fail
    have kP := blk_new W (.cells #[.int .i64 op, .int .i64 fm, .int .i64 fi, .int .i64 tm, .int .i64 ti] 23)
    have hO := (Only.refl (fun _ => False) W).alloc (.cells #[.int .i64 op, .int .i64 fm, .int .i64 fi, .int .i64 tm, .int .i64 ti] 23)
    refine (works04 _).mono ?_
    rintro e w1 ⟨rfl, hk⟩
    replace hO := hO.trans hk
    replace kP := hk.at kP (fun h => h)
    clear hk
    have p0 := blk_cell kP 0
    have p1 := blk_cell kP 1
    have p2 := blk_cell kP 2
    have p3 := blk_cell kP 3
    have p4 := blk_cell kP 4
    simp only [List.setIfInBounds_toArray, List.set_cons_zero, List.set_cons_succ, List.getElem?_toArray, List.getElem?_cons_zero, List.getElem?_cons_succ] at p0 p1 p2 p3 p4
    go_wp2_with fail
    clear p0 p1 p2 p3 p4
    refine (HZ.out _).mono ?_
    rintro e w2 ⟨rfl, hk⟩
    replace hO := (hO.trans hk).alloc (.cells #[.int .i64 0, .int .i64 0, .int .i64 0, .int .i64 0, .int .i64 0] 23)
    have kB := blk_new w2 (.cells #[.int .i64 0, .int .i64 0, .int .i64 0, .int .i64 0, .int .i64 0] 23)
    clear hk
    have b0 := blk_cell kB 0
    have b1 := blk_cell kB 1
    have b2 := blk_cell kB 2
    have b3 := blk_cell kB 3
    have b4 := blk_cell kB 4
    simp only [List.setIfInBounds_toArray, List.set_cons_zero, List.set_cons_succ, List.getElem?_toArray, List.getElem?_cons_zero, List.getElem?_cons_succ] at b0 b1 b2 b3 b4
    have hlb := heap_lt kB
    go_wp2_with fail
    go_ret
    exact ⟨rfl, by first | exact hO.below (Nat.le_refl _) (fun _ _ h => h) | exact (hO.alloc _).below (Nat.le_refl _) (fun _ _ h => h)⟩

end Go.Proofs.Ytgpmphcfjlojpaa

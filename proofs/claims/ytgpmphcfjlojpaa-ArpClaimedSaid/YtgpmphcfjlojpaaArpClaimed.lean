/-
  The walk of the law ArpClaimed.
  No conditions.
-/
import Derived.Test.YtgpmphcfjlojpaaArpMakes
import Derived.Test.YtgpmphcfjlojpaaArpIs
import Derived.Deep.RegionHeld3
set_option linter.unusedVariables false
set_option linter.unusedSimpArgs false
namespace Go.Proofs.Ytgpmphcfjlojpaa
open Go.RowKit

set_option maxHeartbeats 4000000 in
theorem arpClaimed_walk (W : World) (mac : Int) (wm : (Lit.int .i64 mac).wf = true) (ip : Int) (wi : (Lit.int .i64 ip).wf = true) (other : Int) (wo : (Lit.int .i64 other).wf = true) :
    Calls Try.prog 5 #[.int .i64 mac, .int .i64 ip, .int .i64 other] W fun e W' => e = .returned (.bool true) ∧ Below W.heap.size W W' := by
  clear wm wi wo
  by_cases h : ArpOk 1 mac ip 0 ip
  · have hc : ∀ w, Calls Try.prog 14 #[.int .i64 mac, .int .i64 ip] w fun e w' => e = .returned (.tuple #[.agg #[.int .i64 1, .int .i64 mac, .int .i64 ip, .int .i64 0, .int .i64 ip], .int .i64 0]) ∧ Only (fun _ => False) w w' := by
      intro w
      have := claim_any mac ip w
      rw [show amade 1 mac ip 0 ip = ⟨1, mac, ip, 0, ip⟩ from if_pos h, show arC 1 mac ip 0 ip = 0 from if_pos h] at this
      exact this
    have HC := Lib.hid hc
    have HI := Lib.hid (fun w => isclaim_yes 1 mac ip 0 w h)
    by_cases h2 : ArpOk 1 mac ip 0 other
    · have h3 : ArpOk 2 7 other mac ip := ⟨Or.inr rfl, ⟨by omega, by omega⟩, by decide, h.fr, h2.ti, h.fi⟩
      have hq : ∀ w, Calls Try.prog 9 #[.int .i64 mac, .int .i64 ip, .int .i64 other] w fun e w' => e = .returned (.tuple #[.agg #[.int .i64 1, .int .i64 mac, .int .i64 ip, .int .i64 0, .int .i64 other], .int .i64 0]) ∧ Only (fun _ => False) w w' := by
        intro w
        have := ask_any mac ip other w
        rw [show amade 1 mac ip 0 other = ⟨1, mac, ip, 0, other⟩ from if_pos h2, show arC 1 mac ip 0 other = 0 from if_pos h2] at this
        exact this
      have ht : ∀ w, Calls Try.prog 11 #[.agg #[.int .i64 1, .int .i64 mac, .int .i64 ip, .int .i64 0, .int .i64 other], .int .i64 7] w fun e w' => e = .returned (.tuple #[.agg #[.int .i64 2, .int .i64 7, .int .i64 other, .int .i64 mac, .int .i64 ip], .int .i64 0]) ∧ Only (fun _ => False) w w' := by
        intro w
        have := tell_yes mac ip 0 other 7 w h2
        rw [show amade 2 7 other mac ip = ⟨2, 7, other, mac, ip⟩ from if_pos h3, show arC 2 7 other mac ip = 0 from if_pos h3] at this
        exact this
      have hz2 : aclaB 2 7 other mac ip = (ip == other) := by
        unfold aclaB
        by_cases hx : other = ip
        · rw [if_pos ⟨h3, hx⟩, hx]; simp
        · rw [if_neg (fun x => hx x.2)]; symm; simpa using fun x => hx x.symm
      have HJ := Lib.hid (fun w => isclaim_any 2 7 other mac ip w)
      rw [hz2] at HJ
      clear hz2
      have HQ := Lib.hid hq
      have HT := Lib.hid ht
      clear h h2 h3 hc hq ht
      go_enter Try.func5, Try.ntmps5
      go_wp2_with fail
      refine (works04 _).mono ?_
      rintro e w1 ⟨rfl, hO⟩
      go_wp2_with fail
      refine (HC.out _).mono ?_
      rintro e w2 ⟨rfl, hk⟩
      replace hO := (hO.trans hk).alloc (.cells #[.int .i64 1, .int .i64 mac, .int .i64 ip, .int .i64 0, .int .i64 ip] 23)
      have kC := blk_new w2 (.cells #[.int .i64 1, .int .i64 mac, .int .i64 ip, .int .i64 0, .int .i64 ip] 23)
      clear hk
      go_wp2_with fail
      refine (HQ.out _).mono ?_
      rintro e w3 ⟨rfl, hk⟩
      replace hO := (hO.trans hk).alloc (.cells #[.int .i64 1, .int .i64 mac, .int .i64 ip, .int .i64 0, .int .i64 other] 23)
      replace kC := blk_alloc (hk.at kC (fun h => h)) (.cells #[.int .i64 1, .int .i64 mac, .int .i64 ip, .int .i64 0, .int .i64 other] 23)
      have kQ := blk_new w3 (.cells #[.int .i64 1, .int .i64 mac, .int .i64 ip, .int .i64 0, .int .i64 other] 23)
      clear hk
      have q0 := blk_cell kQ 0
      have q1 := blk_cell kQ 1
      have q2 := blk_cell kQ 2
      have q3 := blk_cell kQ 3
      have q4 := blk_cell kQ 4
      simp only [List.setIfInBounds_toArray, List.set_cons_zero, List.set_cons_succ, List.getElem?_toArray, List.getElem?_cons_zero, List.getElem?_cons_succ] at q0 q1 q2 q3 q4
      go_wp2_with fail
      clear q0 q1 q2 q3 q4
      refine (HT.out _).mono ?_
      rintro e w4 ⟨rfl, hk⟩
      replace hO := (hO.trans hk).alloc (.cells #[.int .i64 2, .int .i64 7, .int .i64 other, .int .i64 mac, .int .i64 ip] 23)
      replace kC := blk_alloc (hk.at kC (fun h => h)) (.cells #[.int .i64 2, .int .i64 7, .int .i64 other, .int .i64 mac, .int .i64 ip] 23)
      have kT := blk_new w4 (.cells #[.int .i64 2, .int .i64 7, .int .i64 other, .int .i64 mac, .int .i64 ip] 23)
      clear hk kQ
      have c0 := blk_cell kC 0
      have c1 := blk_cell kC 1
      have c2 := blk_cell kC 2
      have c3 := blk_cell kC 3
      have c4 := blk_cell kC 4
      simp only [List.setIfInBounds_toArray, List.set_cons_zero, List.set_cons_succ, List.getElem?_toArray, List.getElem?_cons_zero, List.getElem?_cons_succ] at c0 c1 c2 c3 c4
      have t0 := blk_cell kT 0
      have t1 := blk_cell kT 1
      have t2 := blk_cell kT 2
      have t3 := blk_cell kT 3
      have t4 := blk_cell kT 4
      simp only [List.setIfInBounds_toArray, List.set_cons_zero, List.set_cons_succ, List.getElem?_toArray, List.getElem?_cons_zero, List.getElem?_cons_succ] at t0 t1 t2 t3 t4
      have hlc := heap_lt kC
      have hlt := heap_lt kT
      generalize hq : w4.heap.size = q at *
      generalize w2.heap.size = p at *
      go_wp2_with fail
      clear hlc hlt kC kT hq
      generalize World.alloc w4 (.cells #[.int .i64 2, .int .i64 7, .int .i64 other, .int .i64 mac, .int .i64 ip] 23) = w5 at *
      refine (HI.out _).mono ?_
      rintro e w6 ⟨rfl, hk⟩
      replace hO := hO.trans hk
      replace c0 := cell_only hk (fun h => h) c0
      replace c1 := cell_only hk (fun h => h) c1
      replace c2 := cell_only hk (fun h => h) c2
      replace c3 := cell_only hk (fun h => h) c3
      replace c4 := cell_only hk (fun h => h) c4
      replace t0 := cell_only hk (fun h => h) t0
      replace t1 := cell_only hk (fun h => h) t1
      replace t2 := cell_only hk (fun h => h) t2
      replace t3 := cell_only hk (fun h => h) t3
      replace t4 := cell_only hk (fun h => h) t4
      clear hk
      go_wp2_with fail
      refine (HJ.out _).mono ?_
      rintro e w7 ⟨rfl, hk⟩
      replace hO := hO.trans hk
      replace c0 := cell_only hk (fun h => h) c0
      replace c1 := cell_only hk (fun h => h) c1
      replace c2 := cell_only hk (fun h => h) c2
      replace c3 := cell_only hk (fun h => h) c3
      replace c4 := cell_only hk (fun h => h) c4
      replace t0 := cell_only hk (fun h => h) t0
      replace t1 := cell_only hk (fun h => h) t1
      replace t2 := cell_only hk (fun h => h) t2
      replace t3 := cell_only hk (fun h => h) t3
      replace t4 := cell_only hk (fun h => h) t4
      clear hk
      go_wp2_with fail
      go_ret
      exact ⟨rfl, hO.below (Nat.le_refl _) (fun _ _ h => h)⟩
    · have hn : ¬ ArpOk 0 0 0 0 0 := fun x => by have := x.op; omega
      have hq : ∀ w, Calls Try.prog 9 #[.int .i64 mac, .int .i64 ip, .int .i64 other] w fun e w' => e = .returned (.tuple #[.agg #[.int .i64 0, .int .i64 0, .int .i64 0, .int .i64 0, .int .i64 0], .int .i64 40]) ∧ Only (fun _ => False) w w' := by
        intro w
        have := ask_any mac ip other w
        rw [show amade 1 mac ip 0 other = ⟨0, 0, 0, 0, 0⟩ from if_neg h2, show arC 1 mac ip 0 other = 40 from if_neg h2] at this
        exact this
      have HQ := Lib.hid hq
      have HT := Lib.hid (fun w => tell_bad 0 0 0 0 0 7 w hn)
      clear h h2 hn hc hq
      go_enter Try.func5, Try.ntmps5
      go_wp2_with fail
      refine (works04 _).mono ?_
      rintro e w1 ⟨rfl, hO⟩
      go_wp2_with fail
      refine (HC.out _).mono ?_
      rintro e w2 ⟨rfl, hk⟩
      replace hO := (hO.trans hk).alloc (.cells #[.int .i64 1, .int .i64 mac, .int .i64 ip, .int .i64 0, .int .i64 ip] 23)
      have kC := blk_new w2 (.cells #[.int .i64 1, .int .i64 mac, .int .i64 ip, .int .i64 0, .int .i64 ip] 23)
      clear hk
      go_wp2_with fail
      refine (HQ.out _).mono ?_
      rintro e w3 ⟨rfl, hk⟩
      replace hO := (hO.trans hk).alloc (.cells #[.int .i64 0, .int .i64 0, .int .i64 0, .int .i64 0, .int .i64 0] 23)
      replace kC := blk_alloc (hk.at kC (fun h => h)) (.cells #[.int .i64 0, .int .i64 0, .int .i64 0, .int .i64 0, .int .i64 0] 23)
      have kQ := blk_new w3 (.cells #[.int .i64 0, .int .i64 0, .int .i64 0, .int .i64 0, .int .i64 0] 23)
      clear hk
      have q0 := blk_cell kQ 0
      have q1 := blk_cell kQ 1
      have q2 := blk_cell kQ 2
      have q3 := blk_cell kQ 3
      have q4 := blk_cell kQ 4
      simp only [List.setIfInBounds_toArray, List.set_cons_zero, List.set_cons_succ, List.getElem?_toArray, List.getElem?_cons_zero, List.getElem?_cons_succ] at q0 q1 q2 q3 q4
      go_wp2_with fail
      clear q0 q1 q2 q3 q4
      refine (HT.out _).mono ?_
      rintro e w4 ⟨rfl, hk⟩
      replace hO := (hO.trans hk).alloc (.cells #[.int .i64 0, .int .i64 0, .int .i64 0, .int .i64 0, .int .i64 0] 23)
      replace kC := blk_alloc (hk.at kC (fun h => h)) (.cells #[.int .i64 0, .int .i64 0, .int .i64 0, .int .i64 0, .int .i64 0] 23)
      clear hk kQ
      have c0 := blk_cell kC 0
      have c1 := blk_cell kC 1
      have c2 := blk_cell kC 2
      have c3 := blk_cell kC 3
      have c4 := blk_cell kC 4
      simp only [List.setIfInBounds_toArray, List.set_cons_zero, List.set_cons_succ, List.getElem?_toArray, List.getElem?_cons_zero, List.getElem?_cons_succ] at c0 c1 c2 c3 c4
      have hlc := heap_lt kC
      go_wp2_with fail
      refine (HI.out _).mono ?_
      rintro e w5 ⟨rfl, hk⟩
      replace hO := hO.trans hk
      go_wp2_with fail
      go_ret
      exact ⟨rfl, hO.below (Nat.le_refl _) (fun _ _ h => h)⟩
  · have hc : ∀ w, Calls Try.prog 14 #[.int .i64 mac, .int .i64 ip] w fun e w' => e = .returned (.tuple #[.agg #[.int .i64 0, .int .i64 0, .int .i64 0, .int .i64 0, .int .i64 0], .int .i64 40]) ∧ Only (fun _ => False) w w' := by
      intro w
      have := claim_any mac ip w
      rw [show amade 1 mac ip 0 ip = ⟨0, 0, 0, 0, 0⟩ from if_neg h, show arC 1 mac ip 0 ip = 40 from if_neg h] at this
      exact this
    have HC := Lib.hid hc
    clear hc h
    go_enter Try.func5, Try.ntmps5
    go_wp2_with fail
    refine (works04 _).mono ?_
    rintro e w1 ⟨rfl, hO⟩
    go_wp2_with fail
    refine (HC.out _).mono ?_
    rintro e w2 ⟨rfl, hk⟩
    replace hO := (hO.trans hk).alloc (.cells #[.int .i64 0, .int .i64 0, .int .i64 0, .int .i64 0, .int .i64 0] 23)
    have kC := blk_new w2 (.cells #[.int .i64 0, .int .i64 0, .int .i64 0, .int .i64 0, .int .i64 0] 23)
    clear hk
    have c0 := blk_cell kC 0
    have c1 := blk_cell kC 1
    have c2 := blk_cell kC 2
    have c3 := blk_cell kC 3
    have c4 := blk_cell kC 4
    simp only [List.setIfInBounds_toArray, List.set_cons_zero, List.set_cons_succ, List.getElem?_toArray, List.getElem?_cons_zero, List.getElem?_cons_succ] at c0 c1 c2 c3 c4
    have hlb := heap_lt kC
    go_wp2_with fail
    go_ret
    exact ⟨rfl, by first | exact hO.below (Nat.le_refl _) (fun _ _ h => h) | exact (hO.alloc _).below (Nat.le_refl _) (fun _ _ h => h)⟩

end Go.Proofs.Ytgpmphcfjlojpaa

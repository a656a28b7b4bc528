/-
  The walk of the law NeighAges: a neighbour that asked is known for just the age's ticks.
  Conditions: numbers are of the kind int.
-/
import Derived.Test.YthgkdfllddljcaaNeiWorks
import Derived.Test.YthgkdfllddljcaaNeiTakeT
import Derived.Test.YthgkdfllddljcaaAmong
set_option linter.unusedVariables false
set_option linter.unusedSimpArgs false
set_option maxRecDepth 100000
namespace Go.Proofs.Ythgkdfllddljcaa
open Go.RowKit

theorem find_one (s : NS) (a m t now : Int) (h : s.K = [(a, m, t)]) : s.find a now = if now < t + s.age then some m else none := by
  unfold NS.find lookH
  rw [h]
  simp

def aS (A now : Int) (v : Value) (K : List (Int × Int × Int)) : NS := ⟨2, A, 4, 9, 9, now, true, v, K, []⟩
theorem aS_first (A : Int) (v : Value) (m : Int) : (NS.learn { aS A 0 v [] with now := 5 } 11 m) = aS A 5 v [(11, m, 5)] := rfl
theorem aS_again (A t : Int) (v : Value) (m m' : Int) : (NS.learn { aS A 5 v [(11, m, 5)] with now := t } 11 m') = aS A t v [(11, m', t)] := rfl

theorem find_yes (A n : Int) (v : Value) (m t now : Int) (h : now < t + A) : (aS A n v [(11, m, t)]).find 11 now = some m := by
  rw [find_one _ 11 m t _ rfl]; exact if_pos h
theorem find_no (A n : Int) (v : Value) (m t now : Int) (h : ¬ now < t + A) : (aS A n v [(11, m, t)]).find 11 now = none := by
  rw [find_one _ 11 m t _ rfl]; exact if_neg h

set_option maxHeartbeats 8000000 in
theorem neighAges_walk (W : World) (age : Int) (hwa : (Lit.int .i64 age).wf = true) (later : Int) (hwl : (Lit.int .i64 later).wf = true) (mac : Int) (hwm : (Lit.int .i64 mac).wf = true) :
    Calls Try.prog 3 #[.int .i64 age, .int .i64 later, .int .i64 mac] W fun e W' => e = .returned (.bool true) ∧ Below W.heap.size W W' := by
  go_enter Try.func3, Try.ntmps3
  go_wp2_with fail
  refine (among_any age 100 W hwa (by decide) (by decide)).mono ?_
  rintro e _ ⟨rfl, rfl⟩
  obtain ⟨A, hA⟩ : ∃ A, A = age % 100 + 1 := ⟨_, rfl⟩
  have hA1 : 1 ≤ A ∧ A ≤ 100 := by omega
  have hw1 : IntKind.i64.wrap (1 + age % 100) = A := by rw [IntKind.wrap_i64]; omega
  have HA := Lib.hid hA1
  clear hA hA1
  go_wp2_with fail
  refine (among_any later 100 W hwl (by decide) (by decide)).mono ?_
  rintro e _ ⟨rfl, rfl⟩
  obtain ⟨L, hL⟩ : ∃ L, later % 100 = L := ⟨_, rfl⟩
  have HL := Lib.hid (show 0 ≤ L ∧ L < 100 by omega)
  rw [hL]
  clear hL
  go_wp2_with fail
  refine (among_any mac 1000 W hwm (by decide) (by decide)).mono ?_
  rintro e _ ⟨rfl, rfl⟩
  obtain ⟨M, hM⟩ : ∃ M, M = mac % 1000 + 3 := ⟨_, rfl⟩
  have hM1 : 3 ≤ M ∧ M < 1003 := by omega
  have hw2 : IntKind.i64.wrap (3 + mac % 1000) = M := by rw [IntKind.wrap_i64]; omega
  have HM := Lib.hid hM1
  clear hM hM1
  go_wp2_with fail
  have hO0 := (Only.refl (fun _ => False) W).alloc (.cells #[.int .i64 10] 3)
  have hsz0 := World.size_alloc W (.cells #[.int .i64 10] 3)
  have hc0 := blk_cell (blk_new W (.cells #[.int .i64 10] 3)) 0
  refine (new_any _ A 4 9 9 _ _ ⟨HA.out.1, by have := HA.out.2; omega⟩ (by decide) (by decide) (by decide) hc0).mono ?_
  rintro e w1 ⟨g, c, d, v, rfl, hn1, hf1, hk1⟩
  have HN := Lib.hid (show NAt w1 g c d (aS A 0 v []) from hn1)
  have HO := Lib.hid (hO0.then hk1 (fun _ _ h => h))
  have HF := Lib.hid (show ∀ k, NFoot g c d (aS A 0 v []) k → W.heap.size ≤ k from fun k h => by have := hf1 k h; omega)
  clear hO0 hsz0 hc0 hn1 hf1 hk1
  go_wp2_with fail
  refine (works_any w1).mono ?_
  rintro e w2 ⟨rfl, hk2⟩
  replace HN := Lib.hid (HN.out.keep hk2)
  replace HO := Lib.hid (HO.out.then hk2 (fun _ _ h => h))
  clear hk2
  go_wp2_with fail
  have hq3 := blk_new w2 (.cells #[.int .i64 1, .int .i64 M, .int .i64 11, .int .i64 0, .int .i64 10] 31)
  have hk3 := (Only.refl (fun _ => False) w2).alloc (.cells #[.int .i64 1, .int .i64 M, .int .i64 11, .int .i64 0, .int .i64 10] 31)
  have hfl := fun k h => HN.out.foot_lt rfl k h
  have hAM : ArpOk 1 M 11 0 10 := arp_small (.inl rfl) (by have := HM.out; omega) (by decide) (by decide) (by decide)
  refine (take_asks _ g c d (aS A 0 v []) 1 M 11 0 10 5 ⟨0, 0, false, .slice none 0 0, []⟩ (HN.out.keep hk3) (nok_of _ A 4 _ _ 5 _ _ [] _ ⟨HA.out.1, by have := HA.out.2; omega⟩ (by decide) (by decide) (fun p hp => (by cases hp))) (by decide) (arC_is hAM) (by show (0 : Int) ≤ 5; decide) (by decide) rfl rfl rfl (by show (0 : Int) < 9; decide) (fun p hp => (by cases hp)) (by show 0 ≤ 4096; decide)).mono ?_
  rintro e w4 ⟨rfl, hn4, hk4⟩
  rw [aS_first] at hn4
  have hq4 := hk4.at hq3 (fun h => Nat.lt_irrefl _ (hfl _ h))
  have HN4 := Lib.hid hn4
  have HO4 := Lib.hid (HO.out.then ((hk3.mono (fun _ _ h => h.elim)).trans hk4) (fun k h1 h2 => by have := HF.out k h2; omega))
  generalize atold 1 M 11 0 10 (aS A 0 v []).mac = r
  simp only [arpCells]
  have hql : w2.heap.size < w4.heap.size := heap_lt hq4
  have HQW := Lib.hid (show W.heap.size ≤ w2.heap.size from HO.out.size)
  generalize w2.heap.size = q at *
  have HQ4 := Lib.hid hq4
  clear hq3 hk3 hfl hn4 hk4 hq4 HN HO hw1 hw2 hwa hwl hwm
  obtain ⟨hA1, hA2⟩ := HA.out
  obtain ⟨hL1, hL2⟩ := HL.out
  obtain ⟨hM1, hM2⟩ := HM.out
  go_wp2_with fail
  have hk5 := (Only.refl (fun _ => False) w4).alloc (.cells #[.int .i64 r.op, .int .i64 r.fm, .int .i64 r.fi, .int .i64 r.tm, .int .i64 r.ti] 31)
  refine (look_any (aS A 5 v [(11, M, 5)]) g c d _ 11 _ (HN4.out.keep hk5) (nok_of _ A 4 _ _ 5 _ _ [(11, M, 5)] _ ⟨hA1, by omega⟩ (by decide) (by decide) (fun p hp => by rw [List.mem_singleton.1 hp]; exact ⟨(by decide : (0 : Int) ≤ 5), (by decide : (5 : Int) ≤ 5)⟩))).mono ?_
  rintro e w5 ⟨rfl, hk6⟩
  rw [find_yes A 5 v M 5 _ (by omega)]
  have HN5 := Lib.hid ((HN4.out.keep hk5).keep hk6)
  have HO5 := Lib.hid ((HO4.out.then hk5 (fun _ _ h => h)).then hk6 (fun _ _ h => h))
  have HQ5 := Lib.hid (hk6.at (hk5.at HQ4.out (fun h => h)) (fun h => h))
  clear hk5 hk6 HN4 HO4 HQ4
  simp only [Option.getD_some, Option.isSome_some]
  go_wp2_with fail
  refine (look_any (aS A 5 v [(11, M, 5)]) g c d _ 11 _ HN5.out (nok_of _ A 4 _ _ 5 _ _ [(11, M, 5)] _ ⟨hA1, by omega⟩ (by decide) (by decide) (fun p hp => by rw [List.mem_singleton.1 hp]; exact ⟨(by decide : (0 : Int) ≤ 5), (by decide : (5 : Int) ≤ 5)⟩))).mono ?_
  rintro e w6 ⟨rfl, hk6⟩
  rw [find_no A 5 v M 5 _ (by omega)]
  have HN6 := Lib.hid (HN5.out.keep hk6)
  have HO6 := Lib.hid (HO5.out.then hk6 (fun _ _ h => h))
  have hq6 := hk6.at HQ5.out (fun h => h)
  have c1 := blk_cell hq6 1
  have f1 := blk_free hq6 1
  simp only [List.getElem?_toArray, List.getElem?_cons_zero, List.getElem?_cons_succ] at c1
  clear hk6 HN5 HO5 HQ5
  simp only [Option.getD_none, Option.isSome_none]
  have c0 := blk_cell hq6 0
  have c2 := blk_cell hq6 2
  have c3 := blk_cell hq6 3
  have c4 := blk_cell hq6 4
  simp only [List.getElem?_toArray, List.getElem?_cons_zero, List.getElem?_cons_succ] at c0 c2 c3 c4
  have hql6 := heap_lt hq6
  go_wp2_with fail
  have hk7 := (Only.refl (fun k => k = q) w6).setCell ⟨q, 1, none⟩ (.int .i64 (M + 1)) (fun _ => rfl)
  have hn7 := HN6.out.arp hq6 hk7
  have HFL := Lib.hid (show ∀ k, NFoot g c d (aS A 5 v [(11, M, 5)]) k → W.heap.size ≤ k from fun k h => HF.out k h)
  have HO7 := Lib.hid (HO6.out.mono (S' := fun k => k = q) (fun _ _ h => h.elim) |>.trans hk7)
  generalize w6.setCell ⟨q, 1, none⟩ (.int .i64 (M + 1)) = w7 at hn7 HO7 ⊢
  have hAM2 : ArpOk 1 (M + 1) 11 0 10 := arp_small (.inl rfl) (by omega) (by decide) (by decide) (by decide)
  refine (take_asks w7 g c d (aS A 5 v [(11, M, 5)]) 1 (M + 1) 11 0 10 (5 + L) ⟨0, 0, false, .slice none 0 0, []⟩ hn7 (nok_of _ A 4 _ _ (5 + L) _ _ [(11, M, 5)] _ ⟨hA1, by omega⟩ (by decide) ⟨by omega, by omega⟩ (fun p hp => by rw [List.mem_singleton.1 hp]; exact ⟨(by decide : (0 : Int) ≤ 5), (by show (5 : Int) ≤ 5 + L; omega)⟩)) (by decide) (arC_is hAM2) (by show (5 : Int) ≤ 5 + L; omega) (by omega) rfl rfl rfl (by show (0 : Int) < 9; decide) (fun p hp => by rw [List.mem_singleton.1 hp]; rfl) (by show 1 ≤ 4096; decide)).mono ?_
  rintro e w8 ⟨rfl, hn8, hk8⟩
  rw [aS_again] at hn8
  have HN8 := Lib.hid hn8
  have HO8 := Lib.hid (HO7.out.then hk8 (fun k h1 h2 => by have := HFL.out k h2; omega))
  generalize atold 1 (M + 1) 11 0 10 (aS A 5 v [(11, M, 5)]).mac = r2
  simp only [arpCells]
  clear hn7 hn8 hk7 hk8 hq6 c0 c1 c2 c3 c4 f1 hql6 HN6 HO6 HO7
  go_wp2_with fail
  have hk9 := (Only.refl (fun _ => False) w8).alloc (.cells #[.int .i64 r2.op, .int .i64 r2.fm, .int .i64 r2.fi, .int .i64 r2.tm, .int .i64 r2.ti] 31)
  refine (look_any (aS A (5 + L) v [(11, M + 1, 5 + L)]) g c d _ 11 _ (HN8.out.keep hk9) (nok_of _ A 4 _ _ (5 + L) _ _ [(11, M + 1, 5 + L)] _ ⟨hA1, by omega⟩ (by decide) ⟨by omega, by omega⟩ (fun p hp => by rw [List.mem_singleton.1 hp]; exact ⟨(by show (0 : Int) ≤ 5 + L; omega), (by show (5 + L : Int) ≤ 5 + L; omega)⟩))).mono ?_
  rintro e w9 ⟨rfl, hk10⟩
  rw [find_yes A (5 + L) v (M + 1) (5 + L) _ (by omega)]
  simp only [Option.getD_some, Option.isSome_some]
  have HN9 := Lib.hid ((HN8.out.keep hk9).keep hk10)
  have HO9 := Lib.hid ((HO8.out.then hk9 (fun _ _ h => h.elim)).then hk10 (fun _ _ h => h.elim))
  clear HN8 HO8 hk9 hk10
  go_wp2_with fail
  refine (look_any (aS A (5 + L) v [(11, M + 1, 5 + L)]) g c d _ 11 _ HN9.out (nok_of _ A 4 _ _ (5 + L) _ _ [(11, M + 1, 5 + L)] _ ⟨hA1, by omega⟩ (by decide) ⟨by omega, by omega⟩ (fun p hp => by rw [List.mem_singleton.1 hp]; exact ⟨(by show (0 : Int) ≤ 5 + L; omega), (by show (5 + L : Int) ≤ 5 + L; omega)⟩))).mono ?_
  rintro e w10 ⟨rfl, hk10⟩
  rw [find_no A (5 + L) v (M + 1) (5 + L) _ (by omega)]
  simp only [Option.getD_none, Option.isSome_none]
  have HO10 := Lib.hid (HO9.out.then hk10 (fun _ _ h => h.elim))
  clear HN9 HO9 hk10
  go_wp2_with fail
  go_ret
  exact ⟨rfl, HO10.out.below (Nat.le_refl _) (fun k h e => by have := HQW.out; omega)⟩

end Go.Proofs.Ythgkdfllddljcaa

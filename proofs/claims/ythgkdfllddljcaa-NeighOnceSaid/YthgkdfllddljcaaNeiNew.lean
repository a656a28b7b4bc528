/-
  The contract of New of package neigh, with the address 10; and of the law's cache.
  Conditions: numbers are of the kind int and within New's bounds.
-/
import Derived.Test.YthgkdfllddljcaaNeiOwn
import Derived.Test.YthgkdfllddljcaaMacC
set_option linter.unusedVariables false
set_option linter.unusedSimpArgs false
set_option maxRecDepth 100000
namespace Go.Proofs.Ythgkdfllddljcaa
open Go.RowKit
attribute [local go_sem] max_ii min_ii min_iiii

set_option maxHeartbeats 2000000 in
theorem new_any (w : World) (age pat room waits : Int) (b cap : Nat) (ha : 1 ≤ age ∧ age ≤ 1048576) (hp : 1 ≤ pat ∧ pat ≤ 1048576) (hr : 1 ≤ room ∧ room ≤ 1024) (hw : 1 ≤ waits ∧ waits ≤ 1024) (hb : w.cell? ⟨b, 0, none⟩ = some (.int .i64 10)) :
    Calls Try.prog 7 #[.agg #[.int .i64 2, .int .i64 age, .int .i64 pat, .int .i64 room, .int .i64 waits], .slice (some ⟨b, 0, none⟩) 1 cap] w fun e w' => ∃ g c d v, e = .returned (.tuple #[.pointer (some ⟨g, 0, none⟩), .int .i64 0]) ∧ NAt w' g c d ⟨2, age, pat, room, waits, 0, true, v, [], []⟩ ∧ (∀ k, NFoot g c d ⟨2, age, pat, room, waits, 0, true, v, [], []⟩ k → w.heap.size ≤ k) ∧ Only (fun _ => False) w w' := by
  obtain ⟨ha1, ha2⟩ := ha
  obtain ⟨hp1, hp2⟩ := hp
  obtain ⟨hr1, hr2⟩ := hr
  obtain ⟨hw1, hw2⟩ := hw
  have hmn : ¬ mn (mn (mn age pat) room) waits < 1 := by unfold mn; omega
  have hmx : ¬ 1048576 < mx age pat := by unfold mx; omega
  have hmx2 : ¬ 1024 < mx room waits := by unfold mx; omega
  have hmm := @run_makeMap Try.prog
  have hO := (Only.refl (fun _ => False) w).alloc (.cells #[.int .i64 2, .int .i64 age, .int .i64 pat, .int .i64 room, .int .i64 waits] 28)
  have hbox := blk_new w (.cells #[.int .i64 2, .int .i64 age, .int .i64 pat, .int .i64 room, .int .i64 waits] 28)
  have x0 := blk_cell hbox 0
  have x1 := blk_cell hbox 1
  have x2 := blk_cell hbox 2
  have x3 := blk_cell hbox 3
  have x4 := blk_cell hbox 4
  simp only [List.getElem?_toArray, List.getElem?_cons_zero, List.getElem?_cons_succ] at x0 x1 x2 x3 x4
  have y0 := cell_only hO (fun h => h) hb
  clear hb
  go_enter Try.func7, Try.ntmps7
  go_wp2_with fail
  generalize w.alloc (.cells #[.int .i64 2, .int .i64 age, .int .i64 pat, .int .i64 room, .int .i64 waits] 28) = w1 at hO x0 x1 x2 x3 x4 y0 ⊢
  go_wp2_with fail
  refine (group_ok 2 _ (by unfold MacOk; omega)).mono ?_
  rintro e _ ⟨rfl, rfl⟩
  have hgb : groupB 2 = false := by decide
  rw [hgb]
  go_wp2_with fail
  have hm1 := MapI.made w1
  have hm2 := MapI.made (w1.alloc (.map #[] 0))
  rw [World.size_alloc] at hm2
  have hsz := hO.size
  have hka := (Only.refl (fun _ => False) w1).alloc (.map #[] 0)
  have hk1 := (Only.refl (fun _ => False) (w1.alloc (.map #[] 0))).alloc (.map #[] 0)
  have hk2 := (Only.refl (fun _ => False) ((w1.alloc (.map #[] 0)).alloc (.map #[] 0))).alloc (.cells #[.int .i64 2, .int .i64 age, .int .i64 pat, .int .i64 room, .int .i64 waits, .int .i64 0, .slice none 0 0, .map (some w1.heap.size), .map (some (w1.heap.size + 1))] 63)
  have hc := blk_new ((w1.alloc (.map #[] 0)).alloc (.map #[] 0)) (.cells #[.int .i64 2, .int .i64 age, .int .i64 pat, .int .i64 room, .int .i64 waits, .int .i64 0, .slice none 0 0, .map (some w1.heap.size), .map (some (w1.heap.size + 1))] 63)
  rw [World.size_alloc, World.size_alloc] at hc
  have hM1 := (hm1.only hk1 (fun h => h)).only hk2 (fun h => h)
  have hM2 := hm2.only hk2 (fun h => h)
  have hO2 := ((hO.alloc (.map #[] 0)).alloc (.map #[] 0)).alloc (.cells #[.int .i64 2, .int .i64 age, .int .i64 pat, .int .i64 room, .int .i64 waits, .int .i64 0, .slice none 0 0, .map (some w1.heap.size), .map (some (w1.heap.size + 1))] 63)
  have y02 := cell_only hk2 (fun h => h) (cell_only hk1 (fun h => h) (cell_only hka (fun h => h) y0))
  generalize hw2 : ((w1.alloc (.map #[] 0)).alloc (.map #[] 0)).alloc (.cells #[.int .i64 2, .int .i64 age, .int .i64 pat, .int .i64 room, .int .i64 waits, .int .i64 0, .slice none 0 0, .map (some w1.heap.size), .map (some (w1.heap.size + 1))] 63) = w2 at *
  clear hm1 hm2 hka hk1 hk2 hO y0 x0 x1 x2 x3 x4 hbox hmm hmn hmx hmx2 hgb ha1 ha2 hp1 hp2 hr1 hr2
  have hsz2 := hO2.size
  have hgl := heap_lt hc
  generalize w1.heap.size = c at *
  have HC := Lib.hid hc
  have HM1 := Lib.hid hM1
  have HM2 := Lib.hid hM2
  clear hc hM1 hM2
  go_loopw [58] (fun i wr => (i = .int .i64 0 ∧ wr = w2) ∨ (i = .int .i64 1 ∧ ∃ v, NAt wr (c + 1 + 1) c (c + 1) ⟨2, age, pat, room, waits, 0, true, v, [], []⟩ ∧ (∀ k, v.ownBlock = some k → w2.heap.size ≤ k) ∧ Only (fun _ => False) w wr)) (fun i _ => 1 - (intOf i).toNat)
  case atStart => exact .inl ⟨rfl, rfl⟩
  case round =>
    rcases hrel with ⟨rfl, rfl⟩ | ⟨rfl, v, hn, hv, hOn⟩
    · go_wp2_with fail
      refine (own_first _ (c + 1 + 1) c (c + 1) ⟨2, age, pat, room, waits, 0, false, .slice none 0 0, [], []⟩ HC.out rfl).mono ?_
      rintro e w3 ⟨v, rfl, hg3, hown, hv, hk3⟩
      have hlt1 := HM1.out.lt
      have hlt2 := HM2.out.lt
      have hN : NAt w3 (c + 1 + 1) c (c + 1) ⟨2, age, pat, room, waits, 0, true, v, [], []⟩ := ⟨hg3, HM1.out.only hk3 (by omega), HM2.out.only hk3 (by omega), hown, fun p hp => (by cases hp), fun p hp => (by cases hp), by omega, List.nodup_nil, fun p hp => (by cases hp)⟩
      have hO3 : Only (fun _ => False) w w3 := hO2.then hk3 (fun i hi e => by omega)
      have HN := Lib.hid hN
      clear hg3 hown hN
      go_wp2_with fail
      go_roundw
      case rel => exact .inr ⟨by go_num, v, HN.out, hv, hO3⟩
      case measure => simp [intOf]
    · go_wp2_with fail
      go_ret2
      refine ⟨c + 1 + 1, c, c + 1, v, rfl, hn, ?_, hOn⟩
      rintro k (rfl | rfl | rfl | h | ⟨p, hp, _⟩)
      · omega
      · omega
      · omega
      · have := hv k h; omega
      · cases hp

set_option maxHeartbeats 1000000 in
/-- The law's cache. -/
theorem cache_any (w : World) :
    Calls Try.prog 11 #[] w fun e w' => ∃ g c d v, e = .returned (.pointer (some ⟨g, 0, none⟩)) ∧ NAt w' g c d ⟨2, 50, 4, 9, 30, 0, true, v, [], []⟩ ∧ (∀ k, NFoot g c d ⟨2, 50, 4, 9, 30, 0, true, v, [], []⟩ k → w.heap.size ≤ k) ∧ Only (fun _ => False) w w' := by
  have hb := blk_cell (blk_new w (.cells #[.int .i64 10] 3)) 0
  simp only [List.getElem?_toArray, List.getElem?_cons_zero] at hb
  have hO := (Only.refl (fun _ => False) w).alloc (.cells #[.int .i64 10] 3)
  go_enter Try.func11, Try.ntmps11
  go_wp2_with fail
  refine (new_any _ 50 4 9 30 _ _ (by decide) (by decide) (by decide) (by decide) hb).mono ?_
  rintro e w1 ⟨g, c, d, v, rfl, hn, hf, hk⟩
  have HN := Lib.hid hn
  have HF := Lib.hid hf
  have hs := World.size_alloc w (.cells #[.int .i64 10] 3)
  clear hn hf
  go_wp2_with fail
  go_ret
  exact ⟨g, c, d, v, rfl, HN.out, fun k h => by have := HF.out k h; omega, hO.trans hk⟩

end Go.Proofs.Ythgkdfllddljcaa

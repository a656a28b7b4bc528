/-
  The contracts of the reference's Text at 1, 2, 4, 6 bytes, and of its Num.
  Conditions: the number fits its bytes; Num: up to 6 bytes.
-/
import Derived.Test.YteifehienpeaiaaProg
import Derived.Test.YteifehienpeaiaaBytes
set_option linter.unusedVariables false
set_option linter.unusedSimpArgs false
set_option maxRecDepth 100000
namespace Go.Proofs.Yteifehienpeaiaa
open Go.RowKit

theorem info5 : (Try.prog.info? 5).map (fun i => (i.zero, i.size, i.bytes)) = some (some (.int .u8 0), 1, 1) := by kernel_rfl

/-- A slice of bytes of the call's own, made a string. -/
theorem conv_owned {w : World} {base : Nat} {v : Value} {n : Nat} {xs : List Int} (h : w.ownsRow base 5 1 v n (xs.map (Value.int .u8))) (hn : 0 < n) :
    (convert 34 9 v).run Try.prog w = .ok (.string (strOfNums xs)) w := by
  obtain ⟨h1, ⟨_, h2⟩ | ⟨g, cap, cur, rfl, hb, hg, hc, hm, hs, ht⟩⟩ := h
  · omega
  · rw [List.length_map, Nat.mul_one] at h1
    refine run_convert_bytes_arg (P := Try.prog) w 34 5 Try.underlying34 Try.underlying5 g 0 n cap xs h1 (fun i hi => ?_) 9 Try.underlying9
    have h3 : cur[0 + i]? = some (.int .u8 (xs.getD i 0)) := by
      rw [Nat.zero_add, ← Array.getElem?_toList]
      have h4 : (cur.toList.take (n * 1))[i]? = some (.int .u8 (xs.getD i 0)) := by
        rw [ht, List.getElem?_map, List.getElem?_eq_getElem (by omega)]
        simp [List.getD, (show i < xs.length by omega)]
      rw [List.getElem?_take, if_pos (by omega)] at h4
      exact h4
    exact (blk_cell hg (0 + i)).trans h3

set_option maxHeartbeats 1000000 in
theorem rtext1 (n : Int) (w : World) (h0 : 0 ≤ n) (h1 : n < 256) :
    Calls Try.prog 70 #[.int .i64 n, .int .i64 1] w fun e w' => e = .returned (.string (textOf 1 n)) ∧ Only (fun _ => False) w w' := by
  obtain ⟨i0, hi, hz0, hz1, hz2⟩ := info_parts info5
  have hown0 := World.ownsRow_nil w w.heap.size 5 1
  have hsz0 : w.heap.size ≤ w.heap.size := Nat.le_refl _
  have hO0 := Only.refl (fun _ => False) w
  have hne0 : ∀ i, i < w.heap.size → some i = (Value.slice none 0 0).ownBlock → False := fun i hi e => by cases e
  have HT := Lib.hid (text1 n h0 h1)
  go_enter Try.func70, Try.ntmps70
  go_wp2_with fail
  refine wp_loop_rounds 2 ?_
  rw [rounds_succ]
  go_wp2_with (at_builtin; refine wpList_append_own _ rfl _ _ 34 rfl w.heap.size 5 i0 (.int .u8 0) 1 1 Try.underlying34 hi hz0 hz1 hz2 rfl (by decide) _ 0 _ rfl (hown0.alloc _) ⟨w.heap.size, 0, none⟩ 1 1 [.int .u8 (n)] rfl rfl (cell_one_new _ _ _) (by simp [Value.oneCell']) (by simp [maxLen]) (by omega) (by rw [World.size_alloc]; omega) ?_; intro v1 w1 hown1 hg1 _)
  have hsz1 : w.heap.size ≤ w1.heap.size := Nat.le_trans (by rw [World.size_alloc]; omega) hg1.size
  have hO1 : Only (fun _ => False) w w1 := (hO0.alloc _).then (.of_grown hg1) (fun i hi e => hne0 i hi e)
  have hne1 : ∀ i, i < w.heap.size → some i = v1.ownBlock → False := fun i hi e => by have := (hown1.lt i e.symm).1; omega
  simp only [Nat.zero_add, List.nil_append, Nat.reduceAdd, List.cons_append] at hown1
  rw [rounds_succ]
  go_wp2_with fail
  rw [conv_owned (xs := [n]) hown1 (by omega)]
  go_wp2_with fail
  go_ret
  exact ⟨by rw [← HT.out]; rfl, hO1⟩

set_option maxHeartbeats 1000000 in
theorem rtext2 (n : Int) (w : World) (h0 : 0 ≤ n) (h1 : n < 65536) :
    Calls Try.prog 70 #[.int .i64 n, .int .i64 2] w fun e w' => e = .returned (.string (textOf 2 n)) ∧ Only (fun _ => False) w w' := by
  obtain ⟨i0, hi, hz0, hz1, hz2⟩ := info_parts info5
  have hown0 := World.ownsRow_nil w w.heap.size 5 1
  have hsz0 : w.heap.size ≤ w.heap.size := Nat.le_refl _
  have hO0 := Only.refl (fun _ => False) w
  have hne0 : ∀ i, i < w.heap.size → some i = (Value.slice none 0 0).ownBlock → False := fun i hi e => by cases e
  have HT := Lib.hid (text2 n h0 h1)
  go_enter Try.func70, Try.ntmps70
  go_wp2_with fail
  refine wp_loop_rounds 3 ?_
  rw [rounds_succ]
  go_wp2_with (at_builtin; refine wpList_append_own _ rfl _ _ 34 rfl w.heap.size 5 i0 (.int .u8 0) 1 1 Try.underlying34 hi hz0 hz1 hz2 rfl (by decide) _ 0 _ rfl (hown0.alloc _) ⟨w.heap.size, 0, none⟩ 1 1 [.int .u8 (n / 256)] rfl rfl (cell_one_new _ _ _) (by simp [Value.oneCell']) (by simp [maxLen]) (by omega) (by rw [World.size_alloc]; omega) ?_; intro v1 w1 hown1 hg1 _)
  have hsz1 : w.heap.size ≤ w1.heap.size := Nat.le_trans (by rw [World.size_alloc]; omega) hg1.size
  have hO1 : Only (fun _ => False) w w1 := (hO0.alloc _).then (.of_grown hg1) (fun i hi e => hne0 i hi e)
  have hne1 : ∀ i, i < w.heap.size → some i = v1.ownBlock → False := fun i hi e => by have := (hown1.lt i e.symm).1; omega
  simp only [Nat.zero_add, List.nil_append, Nat.reduceAdd, List.cons_append] at hown1
  rw [rounds_succ]
  go_wp2_with (at_builtin; refine wpList_append_own _ rfl _ _ 34 rfl w.heap.size 5 i0 (.int .u8 0) 1 1 Try.underlying34 hi hz0 hz1 hz2 rfl (by decide) _ 1 _ rfl (hown1.alloc _) ⟨w1.heap.size, 0, none⟩ 1 1 [.int .u8 (n % 256)] rfl rfl (cell_one_new _ _ _) (by simp [Value.oneCell']) (by simp [maxLen]) (by omega) (by rw [World.size_alloc]; omega) ?_; intro v2 w2 hown2 hg2 _)
  have hsz2 : w.heap.size ≤ w2.heap.size := Nat.le_trans (by rw [World.size_alloc]; omega) hg2.size
  have hO2 : Only (fun _ => False) w w2 := (hO1.alloc _).then (.of_grown hg2) (fun i hi e => hne1 i hi e)
  have hne2 : ∀ i, i < w.heap.size → some i = v2.ownBlock → False := fun i hi e => by have := (hown2.lt i e.symm).1; omega
  simp only [Nat.zero_add, List.nil_append, Nat.reduceAdd, List.cons_append] at hown2
  rw [rounds_succ]
  go_wp2_with fail
  rw [conv_owned (xs := [n / 256, n % 256]) hown2 (by omega)]
  go_wp2_with fail
  go_ret
  exact ⟨by rw [← HT.out]; rfl, hO2⟩

set_option maxHeartbeats 1000000 in
theorem rtext4 (n : Int) (w : World) (h0 : 0 ≤ n) (h1 : n < 4294967296) :
    Calls Try.prog 70 #[.int .i64 n, .int .i64 4] w fun e w' => e = .returned (.string (textOf 4 n)) ∧ Only (fun _ => False) w w' := by
  obtain ⟨i0, hi, hz0, hz1, hz2⟩ := info_parts info5
  have hown0 := World.ownsRow_nil w w.heap.size 5 1
  have hsz0 : w.heap.size ≤ w.heap.size := Nat.le_refl _
  have hO0 := Only.refl (fun _ => False) w
  have hne0 : ∀ i, i < w.heap.size → some i = (Value.slice none 0 0).ownBlock → False := fun i hi e => by cases e
  have HT := Lib.hid (text4 n h0 h1)
  go_enter Try.func70, Try.ntmps70
  go_wp2_with fail
  refine wp_loop_rounds 5 ?_
  rw [rounds_succ]
  go_wp2_with (at_builtin; refine wpList_append_own _ rfl _ _ 34 rfl w.heap.size 5 i0 (.int .u8 0) 1 1 Try.underlying34 hi hz0 hz1 hz2 rfl (by decide) _ 0 _ rfl (hown0.alloc _) ⟨w.heap.size, 0, none⟩ 1 1 [.int .u8 (n / 16777216)] rfl rfl (cell_one_new _ _ _) (by simp [Value.oneCell']) (by simp [maxLen]) (by omega) (by rw [World.size_alloc]; omega) ?_; intro v1 w1 hown1 hg1 _)
  have hsz1 : w.heap.size ≤ w1.heap.size := Nat.le_trans (by rw [World.size_alloc]; omega) hg1.size
  have hO1 : Only (fun _ => False) w w1 := (hO0.alloc _).then (.of_grown hg1) (fun i hi e => hne0 i hi e)
  have hne1 : ∀ i, i < w.heap.size → some i = v1.ownBlock → False := fun i hi e => by have := (hown1.lt i e.symm).1; omega
  simp only [Nat.zero_add, List.nil_append, Nat.reduceAdd, List.cons_append] at hown1
  rw [rounds_succ]
  go_wp2_with (at_builtin; refine wpList_append_own _ rfl _ _ 34 rfl w.heap.size 5 i0 (.int .u8 0) 1 1 Try.underlying34 hi hz0 hz1 hz2 rfl (by decide) _ 1 _ rfl (hown1.alloc _) ⟨w1.heap.size, 0, none⟩ 1 1 [.int .u8 (n / 65536 % 256)] rfl rfl (cell_one_new _ _ _) (by simp [Value.oneCell']) (by simp [maxLen]) (by omega) (by rw [World.size_alloc]; omega) ?_; intro v2 w2 hown2 hg2 _)
  have hsz2 : w.heap.size ≤ w2.heap.size := Nat.le_trans (by rw [World.size_alloc]; omega) hg2.size
  have hO2 : Only (fun _ => False) w w2 := (hO1.alloc _).then (.of_grown hg2) (fun i hi e => hne1 i hi e)
  have hne2 : ∀ i, i < w.heap.size → some i = v2.ownBlock → False := fun i hi e => by have := (hown2.lt i e.symm).1; omega
  simp only [Nat.zero_add, List.nil_append, Nat.reduceAdd, List.cons_append] at hown2
  rw [rounds_succ]
  go_wp2_with (at_builtin; refine wpList_append_own _ rfl _ _ 34 rfl w.heap.size 5 i0 (.int .u8 0) 1 1 Try.underlying34 hi hz0 hz1 hz2 rfl (by decide) _ 2 _ rfl (hown2.alloc _) ⟨w2.heap.size, 0, none⟩ 1 1 [.int .u8 (n / 256 % 256)] rfl rfl (cell_one_new _ _ _) (by simp [Value.oneCell']) (by simp [maxLen]) (by omega) (by rw [World.size_alloc]; omega) ?_; intro v3 w3 hown3 hg3 _)
  have hsz3 : w.heap.size ≤ w3.heap.size := Nat.le_trans (by rw [World.size_alloc]; omega) hg3.size
  have hO3 : Only (fun _ => False) w w3 := (hO2.alloc _).then (.of_grown hg3) (fun i hi e => hne2 i hi e)
  have hne3 : ∀ i, i < w.heap.size → some i = v3.ownBlock → False := fun i hi e => by have := (hown3.lt i e.symm).1; omega
  simp only [Nat.zero_add, List.nil_append, Nat.reduceAdd, List.cons_append] at hown3
  rw [rounds_succ]
  go_wp2_with (at_builtin; refine wpList_append_own _ rfl _ _ 34 rfl w.heap.size 5 i0 (.int .u8 0) 1 1 Try.underlying34 hi hz0 hz1 hz2 rfl (by decide) _ 3 _ rfl (hown3.alloc _) ⟨w3.heap.size, 0, none⟩ 1 1 [.int .u8 (n % 256)] rfl rfl (cell_one_new _ _ _) (by simp [Value.oneCell']) (by simp [maxLen]) (by omega) (by rw [World.size_alloc]; omega) ?_; intro v4 w4 hown4 hg4 _)
  have hsz4 : w.heap.size ≤ w4.heap.size := Nat.le_trans (by rw [World.size_alloc]; omega) hg4.size
  have hO4 : Only (fun _ => False) w w4 := (hO3.alloc _).then (.of_grown hg4) (fun i hi e => hne3 i hi e)
  have hne4 : ∀ i, i < w.heap.size → some i = v4.ownBlock → False := fun i hi e => by have := (hown4.lt i e.symm).1; omega
  simp only [Nat.zero_add, List.nil_append, Nat.reduceAdd, List.cons_append] at hown4
  rw [rounds_succ]
  go_wp2_with fail
  rw [conv_owned (xs := [n / 16777216, n / 65536 % 256, n / 256 % 256, n % 256]) hown4 (by omega)]
  go_wp2_with fail
  go_ret
  exact ⟨by rw [← HT.out]; rfl, hO4⟩

set_option maxHeartbeats 1000000 in
theorem rtext6 (n : Int) (w : World) (h0 : 0 ≤ n) (h1 : n < 281474976710656) :
    Calls Try.prog 70 #[.int .i64 n, .int .i64 6] w fun e w' => e = .returned (.string (textOf 6 n)) ∧ Only (fun _ => False) w w' := by
  obtain ⟨i0, hi, hz0, hz1, hz2⟩ := info_parts info5
  have hown0 := World.ownsRow_nil w w.heap.size 5 1
  have hsz0 : w.heap.size ≤ w.heap.size := Nat.le_refl _
  have hO0 := Only.refl (fun _ => False) w
  have hne0 : ∀ i, i < w.heap.size → some i = (Value.slice none 0 0).ownBlock → False := fun i hi e => by cases e
  have HT := Lib.hid (text6 n h0 h1)
  go_enter Try.func70, Try.ntmps70
  go_wp2_with fail
  refine wp_loop_rounds 7 ?_
  rw [rounds_succ]
  go_wp2_with (at_builtin; refine wpList_append_own _ rfl _ _ 34 rfl w.heap.size 5 i0 (.int .u8 0) 1 1 Try.underlying34 hi hz0 hz1 hz2 rfl (by decide) _ 0 _ rfl (hown0.alloc _) ⟨w.heap.size, 0, none⟩ 1 1 [.int .u8 (n / 1099511627776)] rfl rfl (cell_one_new _ _ _) (by simp [Value.oneCell']) (by simp [maxLen]) (by omega) (by rw [World.size_alloc]; omega) ?_; intro v1 w1 hown1 hg1 _)
  have hsz1 : w.heap.size ≤ w1.heap.size := Nat.le_trans (by rw [World.size_alloc]; omega) hg1.size
  have hO1 : Only (fun _ => False) w w1 := (hO0.alloc _).then (.of_grown hg1) (fun i hi e => hne0 i hi e)
  have hne1 : ∀ i, i < w.heap.size → some i = v1.ownBlock → False := fun i hi e => by have := (hown1.lt i e.symm).1; omega
  simp only [Nat.zero_add, List.nil_append, Nat.reduceAdd, List.cons_append] at hown1
  rw [rounds_succ]
  go_wp2_with (at_builtin; refine wpList_append_own _ rfl _ _ 34 rfl w.heap.size 5 i0 (.int .u8 0) 1 1 Try.underlying34 hi hz0 hz1 hz2 rfl (by decide) _ 1 _ rfl (hown1.alloc _) ⟨w1.heap.size, 0, none⟩ 1 1 [.int .u8 (n / 4294967296 % 256)] rfl rfl (cell_one_new _ _ _) (by simp [Value.oneCell']) (by simp [maxLen]) (by omega) (by rw [World.size_alloc]; omega) ?_; intro v2 w2 hown2 hg2 _)
  have hsz2 : w.heap.size ≤ w2.heap.size := Nat.le_trans (by rw [World.size_alloc]; omega) hg2.size
  have hO2 : Only (fun _ => False) w w2 := (hO1.alloc _).then (.of_grown hg2) (fun i hi e => hne1 i hi e)
  have hne2 : ∀ i, i < w.heap.size → some i = v2.ownBlock → False := fun i hi e => by have := (hown2.lt i e.symm).1; omega
  simp only [Nat.zero_add, List.nil_append, Nat.reduceAdd, List.cons_append] at hown2
  rw [rounds_succ]
  go_wp2_with (at_builtin; refine wpList_append_own _ rfl _ _ 34 rfl w.heap.size 5 i0 (.int .u8 0) 1 1 Try.underlying34 hi hz0 hz1 hz2 rfl (by decide) _ 2 _ rfl (hown2.alloc _) ⟨w2.heap.size, 0, none⟩ 1 1 [.int .u8 (n / 16777216 % 256)] rfl rfl (cell_one_new _ _ _) (by simp [Value.oneCell']) (by simp [maxLen]) (by omega) (by rw [World.size_alloc]; omega) ?_; intro v3 w3 hown3 hg3 _)
  have hsz3 : w.heap.size ≤ w3.heap.size := Nat.le_trans (by rw [World.size_alloc]; omega) hg3.size
  have hO3 : Only (fun _ => False) w w3 := (hO2.alloc _).then (.of_grown hg3) (fun i hi e => hne2 i hi e)
  have hne3 : ∀ i, i < w.heap.size → some i = v3.ownBlock → False := fun i hi e => by have := (hown3.lt i e.symm).1; omega
  simp only [Nat.zero_add, List.nil_append, Nat.reduceAdd, List.cons_append] at hown3
  rw [rounds_succ]
  go_wp2_with (at_builtin; refine wpList_append_own _ rfl _ _ 34 rfl w.heap.size 5 i0 (.int .u8 0) 1 1 Try.underlying34 hi hz0 hz1 hz2 rfl (by decide) _ 3 _ rfl (hown3.alloc _) ⟨w3.heap.size, 0, none⟩ 1 1 [.int .u8 (n / 65536 % 256)] rfl rfl (cell_one_new _ _ _) (by simp [Value.oneCell']) (by simp [maxLen]) (by omega) (by rw [World.size_alloc]; omega) ?_; intro v4 w4 hown4 hg4 _)
  have hsz4 : w.heap.size ≤ w4.heap.size := Nat.le_trans (by rw [World.size_alloc]; omega) hg4.size
  have hO4 : Only (fun _ => False) w w4 := (hO3.alloc _).then (.of_grown hg4) (fun i hi e => hne3 i hi e)
  have hne4 : ∀ i, i < w.heap.size → some i = v4.ownBlock → False := fun i hi e => by have := (hown4.lt i e.symm).1; omega
  simp only [Nat.zero_add, List.nil_append, Nat.reduceAdd, List.cons_append] at hown4
  rw [rounds_succ]
  go_wp2_with (at_builtin; refine wpList_append_own _ rfl _ _ 34 rfl w.heap.size 5 i0 (.int .u8 0) 1 1 Try.underlying34 hi hz0 hz1 hz2 rfl (by decide) _ 4 _ rfl (hown4.alloc _) ⟨w4.heap.size, 0, none⟩ 1 1 [.int .u8 (n / 256 % 256)] rfl rfl (cell_one_new _ _ _) (by simp [Value.oneCell']) (by simp [maxLen]) (by omega) (by rw [World.size_alloc]; omega) ?_; intro v5 w5 hown5 hg5 _)
  have hsz5 : w.heap.size ≤ w5.heap.size := Nat.le_trans (by rw [World.size_alloc]; omega) hg5.size
  have hO5 : Only (fun _ => False) w w5 := (hO4.alloc _).then (.of_grown hg5) (fun i hi e => hne4 i hi e)
  have hne5 : ∀ i, i < w.heap.size → some i = v5.ownBlock → False := fun i hi e => by have := (hown5.lt i e.symm).1; omega
  simp only [Nat.zero_add, List.nil_append, Nat.reduceAdd, List.cons_append] at hown5
  rw [rounds_succ]
  go_wp2_with (at_builtin; refine wpList_append_own _ rfl _ _ 34 rfl w.heap.size 5 i0 (.int .u8 0) 1 1 Try.underlying34 hi hz0 hz1 hz2 rfl (by decide) _ 5 _ rfl (hown5.alloc _) ⟨w5.heap.size, 0, none⟩ 1 1 [.int .u8 (n % 256)] rfl rfl (cell_one_new _ _ _) (by simp [Value.oneCell']) (by simp [maxLen]) (by omega) (by rw [World.size_alloc]; omega) ?_; intro v6 w6 hown6 hg6 _)
  have hsz6 : w.heap.size ≤ w6.heap.size := Nat.le_trans (by rw [World.size_alloc]; omega) hg6.size
  have hO6 : Only (fun _ => False) w w6 := (hO5.alloc _).then (.of_grown hg6) (fun i hi e => hne5 i hi e)
  have hne6 : ∀ i, i < w.heap.size → some i = v6.ownBlock → False := fun i hi e => by have := (hown6.lt i e.symm).1; omega
  simp only [Nat.zero_add, List.nil_append, Nat.reduceAdd, List.cons_append] at hown6
  rw [rounds_succ]
  go_wp2_with fail
  rw [conv_owned (xs := [n / 1099511627776, n / 4294967296 % 256, n / 16777216 % 256, n / 65536 % 256, n / 256 % 256, n % 256]) hown6 (by omega)]
  go_wp2_with fail
  go_ret
  exact ⟨by rw [← HT.out]; rfl, hO6⟩

theorem num_any (s : ByteArray) (w : World) (hs : s.size ≤ 6) :
    Calls Try.prog 44 #[.string s] w fun e w' => e = .returned (.int .i64 (numOf (nums s))) ∧ w = w' := by
  have HNB := Lib.hid (nums_bounds s)
  have HNL := Lib.hid (nums_length s)
  have HT := Lib.hid (take_all (l := nums s) (k := s.size) (nums_length s))
  go_enter Try.func44, Try.ntmps44
  go_wp2_with fail
  go_loop [3, 4] (fun n i => ∃ j : Nat, i = .int .i64 j ∧ j ≤ s.size ∧ n = .int .i64 (numOf ((nums s).take j))) (fun _ i => s.size - (intOf i).toNat)
  case atStart => exact ⟨0, rfl, by omega, rfl⟩
  case round =>
    obtain ⟨j, rfl, hj, rfl⟩ := hrel
    by_cases hlt : j < s.size
    · obtain ⟨nb, cb, hsn⟩ := take_step HNB.out HNL.out (by have := HNL.out; omega) (by omega : j < 6)
      have hc : (nums s).getD j 0 = ((s[j]'hlt).toNat : Int) := by
        have h : j < s.data.toList.length := hlt
        rw [nums, List.getD, List.getElem?_map, List.getElem?_eq_getElem h]
        rfl
      have HS := Lib.hid hsn
      rw [hc] at HS cb
      have n0 := nb.1
      have n1 := nb.2
      have c0 := cb.1
      have c1 := cb.2
      clear nb cb hsn hc
      generalize numOf ((nums s).take j) = m at *
      go_wp2_with fail
      go_round
      case rel => exact ⟨j + 1, by go_num, by omega, by rw [HS.out]⟩
      case measure => simp [intOf]; omega
    · obtain rfl : j = s.size := by omega
      go_wp2_with fail
      go_ret
      exact ⟨by rw [HT.out]; rfl, rfl⟩

/-- Text, the number of bytes left open. -/
theorem rtext_any (n k : Int) (w : World) (h : (k = 6 ∧ 0 ≤ n ∧ n < 281474976710656) ∨ (k = 4 ∧ 0 ≤ n ∧ n < 4294967296) ∨ (k = 2 ∧ 0 ≤ n ∧ n < 65536) ∨ (k = 1 ∧ 0 ≤ n ∧ n < 256)) :
    Calls Try.prog 70 #[.int .i64 n, .int .i64 k] w fun e w' => e = .returned (.string (textOf k.toNat n)) ∧ Only (fun _ => False) w w' := by
  rcases h with ⟨rfl, h0, h1⟩ | ⟨rfl, h0, h1⟩ | ⟨rfl, h0, h1⟩ | ⟨rfl, h0, h1⟩
  · exact rtext6 n w h0 h1
  · exact rtext4 n w h0 h1
  · exact rtext2 n w h0 h1
  · exact rtext1 n w h0 h1

end Go.Proofs.Yteifehienpeaiaa

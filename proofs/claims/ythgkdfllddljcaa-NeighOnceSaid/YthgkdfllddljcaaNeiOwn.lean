/-
  The contracts of package neigh: Own, at a cache that has no address of its own, and at one that has the address 10.
  Conditions: numbers are of the kind int, the cache's own in their bounds.
-/
import Derived.Test.YthgkdfllddljcaaNei
import Derived.Test.YthgkdfllddljcaaKeysShelf
import Derived.Sort.OwnSortedInts
import Derived.Lib.SlKeysI
import Derived.Lib.SliceRun
import Derived.Laws.AppendOwn
set_option linter.unusedVariables false
set_option linter.unusedSimpArgs false
set_option maxRecDepth 100000
namespace Go.Proofs.Ythgkdfllddljcaa
open Go.RowKit Go.Sort

theorem info3 : (Try.prog.info? 3).map (fun i => (i.zero, i.size, i.bytes)) = some (some (.int .i64 0), 1, 8) := by kernel_rfl

theorem blk_setCells (b : Nat) (T : TypeId) : ∀ (vs : List Value) (o : Nat) (w : World) (cur : Array Value), w.heap[b]? = some (.cells cur T (0, 0)) →
    ∃ cur', (w.setCells b o vs).heap[b]? = some (.cells cur' T (0, 0)) ∧ cur'.size = cur.size ∧ (∀ k, k < o → cur'[k]? = cur[k]?) ∧ Only (fun k => k = b) w (w.setCells b o vs)
  | [], o, w, cur, h => ⟨cur, h, rfl, fun _ _ => rfl, Only.refl _ _⟩
  | v :: vs, o, w, cur, h => by
    obtain ⟨cur', h1, h2, h3, h4⟩ := blk_setCells b T vs (o + 1) (w.setCell ⟨b, o, none⟩ v) (cur.setIfInBounds o v) (blk_set h o v)
    refine ⟨cur', h1, by rw [h2]; simp, fun k hk => ?_, ((Only.refl (fun k => k = b) w).setCell ⟨b, o, none⟩ v (fun _ => rfl)).trans h4⟩
    rw [h3 k (by omega)]
    rw [Array.getElem?_setIfInBounds, if_neg (by omega)]

/-- slices.Sort at a slice of the call's own. -/
theorem sort_row (w : World) (base : Nat) (v : Value) (ss : List Int) (h : w.ownsRow base 3 1 v ss.length (ss.map (Value.int .i64))) (hl : ss.length ≤ 1099511627776) :
    Calls Try.prog 30 #[v] w fun e w' => e = .returned (.tuple #[]) ∧ w'.ownsRow base 3 1 v ss.length ((ss.mergeSort leI).map (Value.int .i64)) ∧ Only (fun k => some k = v.ownBlock) w w' := by
  obtain ⟨h1, ⟨rfl, h2⟩ | ⟨g, cap, cur, rfl, hb, hg, hc, hm, hs, ht⟩⟩ := h
  · have : ss = [] := List.eq_nil_of_length_eq_zero h2
    subst this
    refine (AnyM.slices_Sort_int_none Try.sortA none 0 w).mono ?_
    rintro e w' ⟨rfl, rfl⟩
    exact ⟨rfl, ⟨by simp, .inl ⟨rfl, rfl⟩⟩, Only.refl _ _⟩
  · rw [Nat.mul_one] at ht
    have ele : (fun x y : Int => decide (x ≤ y)) = leI := rfl
    refine (AnyM.slices_Sort_int Try.sortA g 0 cap ss w (holds_of_blockI hg ht) (heap_lt hg) (by omega)).mono ?_
    rintro e w' ⟨rfl, n, os, rfl⟩
    rw [ele]
    have hlen : (ss.mergeSort leI).length = ss.length := by simp
    refine ⟨rfl, ownsRow_sortedI hlen hb hg hc hm hs, ?_⟩
    exact Only.of_grown (grownBy_sortedI (ss.mergeSort leI).toArray)

theorem pred_any (p : Nat) (w : World) (x y : Int) (h : w.cell? ⟨p, 0, none⟩ = some (.int .i64 y)) :
    Calls Try.prog 29 #[.int .i64 x, .pointer (some ⟨p, 0, none⟩)] w fun e w' => e = .returned (.bool (x == y)) ∧ w = w' := by
  go_enter Try.func29, Try.ntmps29
  go_wp2_with fail
  go_ret
  exact ⟨rfl, rfl⟩

theorem delete_nil (p : Nat) (w : World) :
    Calls Try.prog 28 #[.slice none 0 0, .func (.func 29) #[] #[.pointer (some ⟨p, 0, none⟩)]] w fun e w' => e = .returned (.slice none 0 0) ∧ w = w' := by
  go_enter Try.func28, Try.ntmps28
  go_wp2_with fail
  refine Calls.mono (R := fun e w' => e = .returned (.int .i64 (-1)) ∧ w = w') ?_ ?_
  · go_enter Try.func41, Try.ntmps41
    go_wp2_with fail
    go_loop [8] (fun i => i = .int .i64 0) (fun i => 0)
    case atStart => rfl
    case round =>
      subst hrel
      go_wp2_with fail
      go_ret
      exact ⟨rfl, rfl⟩
  · rintro e _ ⟨rfl, rfl⟩
    go_wp2_with fail
    go_ret
    exact ⟨rfl, rfl⟩

set_option maxHeartbeats 1000000 in
theorem delete_one (p b cap : Nat) (cur : Array Value) (w : World) (h : w.cell? ⟨p, 0, none⟩ = some (.int .i64 10)) (hb : w.heap[b]? = some (.cells cur 3 (0, 0))) (hc : cur[0]? = some (.int .i64 10)) (h1 : 1 ≤ cap) :
    Calls Try.prog 28 #[.slice (some ⟨b, 0, none⟩) 1 cap, .func (.func 29) #[] #[.pointer (some ⟨p, 0, none⟩)]] w fun e w' => e = .returned (.slice (some ⟨b, 0, none⟩) 0 cap) ∧ Only (fun k => k = b) w w' := by
  have x0 := blk_cell hb 0
  rw [hc] at x0
  have hl := heap_lt hb
  have hc0 : ∀ k, k < 1 → (w.cell? ⟨b, 0 + k, none⟩).isSome = true := by
    intro k hk
    obtain rfl : k = 0 := by omega
    rw [Nat.zero_add, x0]; rfl
  have hclr : ∀ ty, (Builtin.clear_ #[52] ty #[.slice (some ⟨b, 0, none⟩) 1 cap]).run Try.prog w = .ok (.tuple #[]) (w.setCells b 0 (List.replicate 1 (.int .i64 0))) :=
    fun ty => Lib.run_clear_slice w _ _ ty _ Try.underlying52 (fun w => by kernel_rfl) rfl rfl b 0 _ _ (by omega) hc0 (fun k hk => blk_free hb (0 + k))
  obtain ⟨cur', hq1, hq2, hq3, hq4⟩ := blk_setCells b 3 (List.replicate 1 (.int .i64 0)) 0 w cur hb
  have HQ := Lib.hid hq4
  clear hb hc hq1 hq2 hq3 hq4
  go_enter Try.func28, Try.ntmps28
  go_wp2_with fail
  refine Calls.mono (R := fun e w' => e = .returned (.int .i64 0) ∧ w = w') ?_ ?_
  · go_enter Try.func41, Try.ntmps41
    go_wp2_with fail
    go_loop [8] (fun i => i = .int .i64 0) (fun i => 0)
    case atStart => rfl
    case round =>
      subst hrel
      go_wp2_with fail
      refine (pred_any p w 10 10 h).mono ?_
      rintro e _ ⟨rfl, rfl⟩
      go_wp2_with fail
      go_ret
      exact ⟨rfl, rfl⟩
  · rintro e _ ⟨rfl, rfl⟩
    go_wp2_with fail
    go_loop [5, 6] (fun i j => i = .int .i64 0 ∧ j = .int .i64 1) (fun _ _ => 0)
    case atStart => exact ⟨rfl, by go_num⟩
    case round =>
      obtain ⟨rfl, rfl⟩ := hrel
      go_wp2_with fail
      go_ret
      exact ⟨rfl, HQ.out⟩

theorem cell_one_new (w : World) (x : Value) (t : TypeId) : ∀ j u, [x][j]? = some u → (w.alloc (.cells #[x] t)).drew.cell? ((⟨w.heap.size, 0, none⟩ : Addr).add j) = some u := by
  intro j u hj
  match j, hj with
  | 0, hj => exact (blk_cell (blk_new w (.cells #[x] t)) 0).trans hj
  | j + 1, hj => simp at hj

set_option maxHeartbeats 2000000 in
theorem own_first (w : World) (g c d : Nat) (s : NS) (hg : w.heap[g]? = some (.cells (s.cells c d) 63 (0, 0))) (hown : s.own = .slice none 0 0) :
    Calls Try.prog 14 #[.pointer (some ⟨g, 0, none⟩), .int .i64 10, .bool true] w fun e w' => ∃ v, e = .returned (.int .i64 0) ∧ w'.heap[g]? = some (.cells (({ s with own := v, mine := true } : NS).cells c d) 63 (0, 0)) ∧ OwnAt w' v true ∧ (∀ b, v.ownBlock = some b → w.heap.size ≤ b) ∧ Only (fun k => k = g) w w' := by
  obtain ⟨i3, hi3, hz30, hz31, hz32⟩ := info_parts info3
  have hgl := heap_lt hg
  have hk0 := (Only.refl (fun _ => False) w).alloc (.cells #[.int .i64 10] 3)
  have hg1 := blk_alloc hg (.cells #[.int .i64 10] 3)
  have hb1 := blk_new w (.cells #[.int .i64 10] 3)
  have HS := Lib.hid (World.size_alloc w (.cells #[.int .i64 10] 3))
  go_enter Try.func14, Try.ntmps14
  go_wp2_with fail
  generalize hP : w.heap.size = p at *
  generalize w.alloc (.cells #[.int .i64 10] 3) = w1 at *
  have x10 := blk_cell hb1 0
  have x6 := blk_cell hg1 6
  have f6 := blk_free hg1 6
  simp only [NS.cells, List.getElem?_toArray, List.getElem?_cons_zero, List.getElem?_cons_succ] at x10 x6
  rw [hown] at x6
  go_wp2_with fail
  refine (scheck_ok 10 _ (by decide) (by decide)).mono ?_
  rintro e _ ⟨rfl, rfl⟩
  go_wp2_with fail
  refine (delete_nil p _).mono ?_
  rintro e _ ⟨rfl, rfl⟩
  go_wp2_with fail
  have hk2 := (Only.refl (fun k => k = g) w1).setCell ⟨g, 6, none⟩ (.slice none 0 0) (fun _ => rfl)
  have hg2 : (w1.setCell ⟨g, 6, none⟩ (.slice none 0 0)).heap[g]? = some (.cells (s.cells c d) 63 (0, 0)) := by
    refine (blk_set hg1 6 (.slice none 0 0)).trans ?_
    unfold NS.cells; rw [hown]; rfl
  have hO : Only (fun k => k = g) w (w1.setCell ⟨g, 6, none⟩ (.slice none 0 0)) := (hk0.mono (fun _ _ h => h.elim)).trans hk2
  have y10 := cell_only hk2 (show ¬ p = g by omega) x10
  have hsz := hk2.size
  generalize w1.setCell ⟨g, 6, none⟩ (.slice none 0 0) = w2 at *
  have hsp : p + 1 ≤ w2.heap.size := by rw [← HS.out]; exact hsz
  have y6 := blk_cell hg2 6
  have q6 := blk_free hg2 6
  simp only [NS.cells, List.getElem?_toArray, List.getElem?_cons_zero, List.getElem?_cons_succ] at y6
  rw [hown] at y6
  have ha := ((Only.refl (fun _ => False) w2).alloc (.cells #[.int .i64 10] 3)).drew
  have hnil : (w2.alloc (.cells #[.int .i64 10] 3)).drew.ownsRow p 3 1 (.slice none 0 0) 0 [] := World.ownsRow_nil _ p 3 1
  obtain ⟨v, w3, hrun, hrow, hgr, hn⟩ := run_append_own (P := Try.prog) (w := (w2.alloc (.cells #[.int .i64 10] 3)).drew) p 52 52 3 i3 (.int .i64 0) 1 8 Try.underlying52 hi3 hz30 hz31 hz32 rfl (by decide) (.slice none 0 0) 0 [] hnil ⟨w2.heap.size, 0, none⟩ 1 1 [.int .i64 10] rfl (cell_one_new _ _ _) (by simp [Value.oneCell']) (by decide) (by decide) (show p ≤ (w2.alloc (.cells #[.int .i64 10] 3)).heap.size by rw [World.size_alloc]; omega)
  have hk3 := Only.of_grown hgr
  have hg3 : w3.heap[g]? = some (.cells (s.cells c d) 63 (0, 0)) := hk3.at (ha.at hg2 (fun h => h)) (by simp [Value.ownBlock])
  have z6 := blk_cell hg3 6
  have r6 := blk_free hg3 6
  simp only [NS.cells, List.getElem?_toArray, List.getElem?_cons_zero, List.getElem?_cons_succ] at z6
  have v6 : (w2.alloc (.cells #[.int .i64 10] 3)).drew.cell? ⟨g, 6, none⟩ = some (.slice none 0 0) := cell_only ha (fun h => h) y6
  have v10 : (w2.alloc (.cells #[.int .i64 10] 3)).drew.cell? ⟨p, 0, none⟩ = some (.int .i64 10) := cell_only ha (fun h => h) y10
  obtain ⟨hr1, ⟨rfl, hr2⟩ | ⟨gb, cap, cur, rfl, hb, hgb, hc1, hm1, hz1, ht1⟩⟩ := hrow
  · omega
  have hcap : ¬ 281474976710656 < Builtin.nextslicecap 1 0 * Try.t3.bytes := by decide
  simp [Builtin.append_, go_sem, hcap, v10] at hrun
  obtain ⟨⟨hrun1, hrun2⟩, hrun3⟩ := hrun
  rw [hrun2] at hrun3
  have hgp : w2.heap.size ≤ gb := by omega
  have hO3 : Only (fun k => k = g) w w3 := (hO.then ha (fun _ _ h => h.elim)).trans (hk3.mono (fun _ _ h => by simp [Value.ownBlock] at h))
  clear x10 x6 f6 hg1 hb1 hn hgr hnil hk0 hk2 hsz
  go_region
  have hO4 := hO3.setCell ⟨g, 6, none⟩ (.slice (some ⟨gb, 0, none⟩) 1 cap) (fun _ => rfl)
  have hg4 : (w3.setCell ⟨g, 6, none⟩ (.slice (some ⟨gb, 0, none⟩) 1 cap)).heap[g]? = some (.cells (({ s with own := .slice (some ⟨gb, 0, none⟩) 1 cap, mine := true } : NS).cells c d) 63 (0, 0)) := (blk_set hg3 6 (.slice (some ⟨gb, 0, none⟩) 1 cap)).trans rfl
  have hgne : gb ≠ g := by omega
  have hrow4 : (w3.setCell ⟨g, 6, none⟩ (.slice (some ⟨gb, 0, none⟩) 1 cap)).ownsRow p 3 1 (.slice (some ⟨gb, 0, none⟩) 1 cap) 1 [.int .i64 10] :=
    row_only (S := fun k => k = g) ⟨hr1, .inr ⟨gb, cap, cur, rfl, hb, hgb, hc1, hm1, hz1, ht1⟩⟩ ((Only.refl (fun k => k = g) w3).setCell ⟨g, 6, none⟩ _ (fun _ => rfl)) (fun b hb => by cases hb; exact hgne)
  generalize w3.setCell ⟨g, 6, none⟩ (.slice (some ⟨gb, 0, none⟩) 1 cap) = w4 at hO4 hg4 hrow4 ⊢
  clear z6 r6 hrun3 hO3 v6 v10 y6 hgb hr1 ht1 hk3 hg3 ha
  have y6 := blk_cell hg4 6
  simp only [NS.cells, List.getElem?_toArray, List.getElem?_cons_zero, List.getElem?_cons_succ] at y6
  go_wp2_with fail
  refine (sort_row w4 p _ [10] hrow4 (by decide)).mono ?_
  rintro e w5 ⟨rfl, hrow5, hk5⟩
  have hO5 : Only (fun k => k = g) w w5 := hO4.then hk5 (fun b hb1 hb2 => by simp [Value.ownBlock] at hb2; omega)
  have hg5 := hk5.at hg4 (fun e => by simp [Value.ownBlock] at e; omega)
  have hsort : [(10 : Int)].mergeSort leI = [10] := by simp
  rw [hsort] at hrow5
  go_wp2_with fail
  go_ret
  obtain ⟨hr1, ⟨hx, hr2⟩ | ⟨gb', cap', cur', hx, hb', hgb', hc1', hm1', hz1', ht1'⟩⟩ := hrow5
  · cases hx
  · cases hx
    refine ⟨_, rfl, hg5, ⟨fun _ => ⟨gb, cap, cur', rfl, hc1, hgb', ?_⟩, fun h => by cases h⟩, fun b hb => by cases hb; show w.heap.size ≤ gb; omega, hO5⟩
    have h1 : cur'[0]? = (cur'.toList.take (1 * 1))[0]? := by rw [List.getElem?_take, if_pos (by omega), Array.getElem?_toList]
    rw [h1, show List.take (1 * 1) cur'.toList = _ from ht1']; rfl

set_option maxHeartbeats 2000000 in
theorem own_away (w : World) (g c d : Nat) (s : NS) (hg : w.heap[g]? = some (.cells (s.cells c d) 63 (0, 0))) (how : OwnAt w s.own s.mine) (hm : s.mine = true) :
    Calls Try.prog 14 #[.pointer (some ⟨g, 0, none⟩), .int .i64 10, .bool false] w fun e w' => ∃ v, e = .returned (.int .i64 0) ∧ w'.heap[g]? = some (.cells (({ s with own := v, mine := false } : NS).cells c d) 63 (0, 0)) ∧ OwnAt w' v false ∧ v.ownBlock = s.own.ownBlock ∧ Only (fun k => k = g ∨ s.own.ownBlock = some k) w w' := by
  obtain ⟨b, cap, cur, hown, hc1, hb, hc0⟩ := how.yes hm
  have hgl := heap_lt hg
  have hbl := heap_lt hb
  have hgb : b ≠ g := by rintro rfl; rw [hg] at hb; simp at hb
  have hk0 := (Only.refl (fun _ => False) w).alloc (.cells #[.int .i64 10] 3)
  have hg1 := blk_alloc hg (.cells #[.int .i64 10] 3)
  have hb1 := blk_alloc hb (.cells #[.int .i64 10] 3)
  have hp1 := blk_new w (.cells #[.int .i64 10] 3)
  clear how hg hb
  go_enter Try.func14, Try.ntmps14
  go_wp2_with fail
  generalize hP : w.heap.size = p at *
  generalize w.alloc (.cells #[.int .i64 10] 3) = w1 at *
  have x10 := blk_cell hp1 0
  have x6 := blk_cell hg1 6
  have f6 := blk_free hg1 6
  simp only [NS.cells, List.getElem?_toArray, List.getElem?_cons_zero, List.getElem?_cons_succ] at x10 x6
  rw [hown] at x6
  go_wp2_with fail
  refine (scheck_ok 10 _ (by decide) (by decide)).mono ?_
  rintro e _ ⟨rfl, rfl⟩
  go_wp2_with fail
  refine (delete_one p b cap cur w1 x10 hb1 hc0 hc1).mono ?_
  rintro e w2 ⟨rfl, hk2⟩
  have hO2 : Only (fun k => k = g ∨ s.own.ownBlock = some k) w w2 := (hk0.mono (fun _ _ h => h.elim)).trans (hk2.mono (fun _ _ h => .inr (by rw [hown, h]; rfl)))
  have hg2 := hk2.at hg1 (fun e => hgb e.symm)
  have y6 := blk_cell hg2 6
  have q6 := blk_free hg2 6
  simp only [NS.cells, List.getElem?_toArray, List.getElem?_cons_zero, List.getElem?_cons_succ] at y6
  clear x6 f6
  go_wp2_with fail
  go_ret
  exact ⟨_, rfl, (blk_set hg2 6 (.slice (some ⟨b, 0, none⟩) 0 cap)).trans rfl, ⟨fun h => (by cases h), fun _ => ⟨_, _, rfl⟩⟩, by rw [hown]; rfl, hO2.setCell _ _ (fun _ => .inl rfl)⟩

end Go.Proofs.Ythgkdfllddljcaa

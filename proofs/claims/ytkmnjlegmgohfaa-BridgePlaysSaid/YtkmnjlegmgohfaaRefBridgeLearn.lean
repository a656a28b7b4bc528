/-
  The reference bridge of sternpostref10: learn, Down.
  Conditions: numbers are of the kind int.
-/
import Derived.Test.YtkmnjlegmgohfaaRefBridge
set_option linter.unusedVariables false
set_option linter.unusedSimpArgs false
set_option maxRecDepth 100000
namespace Go.Proofs.Ytkmnjlegmgohfaa
open Go.RowKit

theorem cell_three_new (w : World) (x y z : Value) (t : TypeId) : ∀ j u, [x, y, z][j]? = some u → (w.alloc (.cells #[x, y, z] t)).cell? ((⟨w.heap.size, 0, none⟩ : Addr).add j) = some u := by
  intro j u hj
  have hb := blk_new w (.cells #[x, y, z] t)
  match j, hj with
  | 0, hj => exact (blk_cell hb 0).trans hj
  | 1, hj => exact (blk_cell hb 1).trans hj
  | 2, hj => exact (blk_cell hb 2).trans hj
  | j + 3, hj => simp at hj

theorem take_filter_succ (P : Int × Int × Int → Bool) (L : List (Int × Int × Int)) (i : Nat) (h : i < L.length) : (L.take (i + 1)).filter P = (L.take i).filter P ++ (if P (L.getD i (0, 0, 0)) = true then [L.getD i (0, 0, 0)] else []) := by
  rw [List.take_succ_eq_append_getElem h, List.filter_append]
  congr 1
  rw [List.getD_eq_getElem?_getD, List.getElem?_eq_getElem h]
  simp only [Option.getD_some]
  cases hP : P L[i] <;> simp [hP]
theorem take_filter_le (P : Int × Int × Int → Bool) (L : List (Int × Int × Int)) (i : Nat) : ((L.take i).filter P).length ≤ L.length := by
  have h1 := List.length_filter_le P (L.take i)
  have h2 := List.length_take_le i L
  have h3 : (L.take i).length ≤ L.length := by rw [List.length_take]; omega
  omega

/-- One more heard, appended to a row of the call's own. -/
theorem HRow.snoc {w' : World} {B : Nat} {v : Value} {L : List (Int × Int × Int)} {x : Int × Int × Int} (h : w'.ownsRow B 74 3 v (L.length + 1) (heardCells L ++ [.int .i64 x.1, .int .i64 x.2.1, .int .i64 x.2.2])) : HRow w' B v (L ++ [x]) := by
  unfold HRow
  rw [List.length_append, heardCells_append]
  exact h

set_option maxHeartbeats 2000000 in
theorem learn_r (w : World) (r : Nat) (s : BS) (a p : Int) (h : RBAt w r s) (ho : BOk s) (hl : s.L.length ≤ 1024) :
    Calls Try.prog 32 #[.pointer (some ⟨r, 0, none⟩), .int .i64 a, .int .i64 p, .int .i64 s.now] w fun e w' => e = .returned (.tuple #[]) ∧ RBAt w' r (s.learn a p) ∧ Only (fun k => k = r) w w' := by
  obtain ⟨ih, hih, hz0, hz1, hz2⟩ := info_parts info_heard
  obtain ⟨v, base, hg, hrow⟩ := h
  obtain ⟨va, cap, rfl⟩ := hrow.form
  have x1 := blk_cell hg 1
  have x2 := blk_cell hg 2
  have x4 := blk_cell hg 4
  simp only [List.getElem?_toArray, List.getElem?_cons_zero, List.getElem?_cons_succ] at x1 x2 x4
  have HROW := Lib.hid hrow
  have HG := Lib.hid hg
  have HAT := Lib.hid ho.at0
  have a1 := ho.a1
  have a2 := ho.a2
  have n2 := ho.n2
  have r1 := ho.r1
  generalize hN : s.L.length = N at x4 hl
  have HN := Lib.hid hN
  have hrlt := heap_lt hg
  have hrow0 := HRow.nil w w.heap.size
  clear hg hrow ho hN
  go_enter Try.func32, Try.ntmps32
  go_wp2_with fail
  go_loopw [8, 9] (fun lv iv wr => ∃ i : Nat, iv = .int .i64 i ∧ i ≤ N ∧ HRow wr w.heap.size lv ((s.L.take i).filter (keepH a s.age s.now)) ∧ Only (fun _ => False) w wr) (fun _ iv _ => N - (intOf iv).toNat)
  case atStart => exact ⟨0, rfl, by omega, hrow0, Only.refl _ _⟩
  case round =>
    clear hrow0
    obtain ⟨i, rfl, hiN, hr, hO⟩ := hrel
    have y1 := cell_only hO (fun h => h) x1
    have y2 := cell_only hO (fun h => h) x2
    have y4 := cell_only hO (fun h => h) x4
    have hlen := take_filter_le (keepH a s.age s.now) s.L i
    have hHsz := hO.size
    by_cases hi : i < N
    · obtain ⟨g, rfl, hgl, hc0, hc1, hc2⟩ := HROW.out.cells i (by rw [HN.out]; exact hi)
      have hb := HAT.out (s.L.getD i (0, 0, 0)) (by
        rw [List.getD_eq_getElem?_getD, List.getElem?_eq_getElem (by rw [HN.out]; exact hi)]
        exact List.getElem_mem _)
      have y5 := cell_only hO (fun h => h) hc0
      have y6 := cell_only hO (fun h => h) hc1
      have y7 := cell_only hO (fun h => h) hc2
      clear hc0 hc1 hc2
      have HS := Lib.hid (take_filter_succ (keepH a s.age s.now) s.L i (by rw [HN.out]; exact hi))
      have hlen2 : ((s.L.take i).filter (keepH a s.age s.now)).length ≤ N := by rw [HN.out] at hlen; exact hlen
      generalize (s.L.take i).filter (keepH a s.age s.now) = K at HS hr hlen2 ⊢
      generalize s.L.getD i (0, 0, 0) = x at *
      obtain ⟨lva, lcap, rfl⟩ := hr.form
      clear hlen
      cases hf : freshH s.age s.now x with
      | false =>
        have hk : keepH a s.age s.now x = false := by
          unfold keepH
          unfold freshH at hf
          rw [hf, Bool.and_false]
        rw [hk] at HS
        have HFF := Lib.hid hf
        have HR := Lib.hid hr
        clear hf hk hr
        go_wp2_with fail
        refine (fresh_r _ r s.age x s.now y1 (by omega) a2 hb.1 (by omega)).mono ?_
        rintro e w2 ⟨rfl, hk⟩
        rw [HFF.out]
        go_wp2_with fail
        go_roundw
        case rel => exact ⟨i + 1, by go_num, by omega, by rw [HS.out]; simpa using HR.out.only hk (fun _ _ h => h), hO.trans hk⟩
        case measure => simp [intOf]; omega
      | true =>
        have HFF := Lib.hid hf
        by_cases he : x.1 = a
        · have hk : keepH a s.age s.now x = false := by
            unfold keepH
            rw [he]; simp
          have hne : (x.1 != a) = false := by rw [he]; simp
          rw [hk] at HS
          have HR := Lib.hid hr
          clear hf hk hr he
          go_wp2_with fail
          refine (fresh_r _ r s.age x s.now y1 (by omega) a2 hb.1 (by omega)).mono ?_
          rintro e w2 ⟨rfl, hk⟩
          rw [HFF.out]
          have z4 := cell_only hk (fun h => h) y4
          have z5 := cell_only hk (fun h => h) y5
          go_wp2_with fail
          go_roundw
          case rel => exact ⟨i + 1, by go_num, by omega, by rw [HS.out]; simpa using HR.out.only hk (fun _ _ h => h), hO.trans hk⟩
          case measure => simp [intOf]; omega
        · have hk : keepH a s.age s.now x = true := by
            unfold keepH
            unfold freshH at hf
            rw [hf]; simpa using he
          have hne : (x.1 != a) = true := by simpa using he
          rw [hk] at HS
          have HR := Lib.hid hr
          clear hf hk hr he
          go_wp2_with fail
          refine (fresh_r _ r s.age x s.now y1 (by omega) a2 hb.1 (by omega)).mono ?_
          rintro e w2 ⟨rfl, hk⟩
          rw [HFF.out]
          have z4 := cell_only hk (fun h => h) y4
          have z5 := cell_only hk (fun h => h) y5
          have z6 := cell_only hk (fun h => h) y6
          have z7 := cell_only hk (fun h => h) y7
          have hr2 := HR.out.only hk (fun _ _ h => h)
          have hO2 := hO.trans hk
          have hsz2 := hO2.size
          clear y1 y2 y4 y5 y6 y7 hk
          go_wp2_with (at_builtin; refine wpList_append_own _ rfl _ _ 70 rfl w.heap.size 74 ih (.agg #[.int .i64 0, .int .i64 0, .int .i64 0]) 3 24 Try.underlying70 hih hz0 hz1 hz2 rfl (by decide) _ K.length _ rfl (hr2.alloc _) ⟨w2.heap.size, 0, none⟩ 1 1 [.int .i64 x.1, .int .i64 x.2.1, .int .i64 x.2.2] rfl rfl (cell_three_new _ _ _ _ _) (by simp [Value.oneCell']) (by simp [maxLen]; omega) (by omega) (by rw [World.size_alloc]; omega) ?_; intro v3 w3 hown hgr _)
          have hrow3 : HRow w3 w.heap.size v3 ((s.L.take (i + 1)).filter (keepH a s.age s.now)) := by
            rw [HS.out]
            simp only [if_true]
            exact HRow.snoc hown
          have hO3 : Only (fun _ => False) w w3 := (hO2.alloc (.cells #[.int .i64 x.1, .int .i64 x.2.1, .int .i64 x.2.2] 74)).then (Only.of_grown hgr) (fun k hk e => by have := (hr2.lt _ e.symm).1; omega)
          clear hown hgr hr2
          go_roundw
          case rel => exact ⟨i + 1, by go_num, by omega, hrow3, hO3⟩
          case measure => simp [intOf]; omega
    · obtain rfl : i = N := by omega
      have hK : (s.L.take i).filter (keepH a s.age s.now) = s.kept a := by
        rw [← HN.out, List.take_length]
        rfl
      rw [hK] at hr
      have hlenK : (s.kept a).length ≤ i := by rw [← hK, ← HN.out]; exact take_filter_le _ _ _
      have hlearn : s.learn a p = { s with L := if ((s.kept a).length : Int) < s.room then s.kept a ++ [(a, p, s.now)] else s.kept a } := rfl
      have HLE := Lib.hid hlearn
      obtain ⟨lva, lcap, rfl⟩ := hr.form
      have hG := hO.at HG.out (fun h => h)
      have hf4 := blk_free hG 4
      clear hlen hlearn hK
      by_cases hroom : ((s.kept a).length : Int) < s.room
      · rw [if_pos hroom] at HLE
        generalize s.kept a = K at *
        have HR := Lib.hid hr
        have hr2 := hr
        clear hr
        go_wp2_with (at_builtin; refine wpList_append_own _ rfl _ _ 70 rfl w.heap.size 74 ih (.agg #[.int .i64 0, .int .i64 0, .int .i64 0]) 3 24 Try.underlying70 hih hz0 hz1 hz2 rfl (by decide) _ K.length _ rfl (hr2.alloc _) ⟨wr.heap.size, 0, none⟩ 1 1 [.int .i64 a, .int .i64 p, .int .i64 s.now] rfl rfl (cell_three_new _ _ _ _ _) (by simp [Value.oneCell']) (by simp [maxLen]; omega) (by omega) (by rw [World.size_alloc]; omega) ?_; intro v3 w3 hown hgr _; have hrow3 := HRow.snoc (x := (a, p, s.now)) hown; obtain ⟨a3, c3, rfl⟩ := hrow3.form; rw [List.length_append] at hrow3; change HRow _ _ (.slice a3 (K.length + 1) c3) _ at hrow3; have hO3 : Only (fun _ => False) w w3 := (hO.alloc (.cells #[.int .i64 a, .int .i64 p, .int .i64 s.now] 74)).then (Only.of_grown hgr) (fun k hk e => by have := (hr2.lt _ e.symm).1; omega); have hG3 := hO3.at HG.out (fun h => h); have hf3 := blk_free hG3 4; have y43 := blk_cell hG3 4; simp only [List.getElem?_toArray, List.getElem?_cons_zero, List.getElem?_cons_succ] at y43)
        have hk4 := (Only.refl (fun k => k = r) w3).setCell ⟨r, 4, none⟩ (.slice a3 (K.length + 1) c3) (fun _ => rfl)
        have hG4 := (blk_set hG3 4 (.slice a3 (K.length + 1) c3)).trans rfl
        have hrow4 := hrow3.only hk4 (fun b hb => by have := (hrow3.lt _ hb).1; show ¬ b = r; omega)
        have HFIN := Lib.hid (show RBAt (w3.setCell ⟨r, 4, none⟩ (.slice a3 (K.length + 1) c3)) r (s.learn a p) from by
          rw [HLE.out]
          exact ⟨_, w.heap.size, hG4, hrow4⟩)
        have HOF := Lib.hid (show Only (fun k => k = r) w (w3.setCell ⟨r, 4, none⟩ (.slice a3 (K.length + 1) c3)) from (hO3.mono (fun _ _ h => h.elim)).trans hk4)
        clear hown hgr hr2 hO3 hG3 hf3 y43 hrow3 hk4 hG4 hrow4
        go_end0
        exact ⟨rfl, HFIN.out, HOF.out⟩
      · rw [if_neg hroom] at HLE
        generalize s.kept a = K at *
        have hk4 := (Only.refl (fun k => k = r) wr).setCell ⟨r, 4, none⟩ (.slice lva K.length lcap) (fun _ => rfl)
        have hG4 := (blk_set hG 4 (.slice lva K.length lcap)).trans rfl
        have hrow4 := hr.only hk4 (fun b hb => by have := (hr.lt _ hb).1; show ¬ b = r; omega)
        have HFIN := Lib.hid (show RBAt (wr.setCell ⟨r, 4, none⟩ (.slice lva K.length lcap)) r (s.learn a p) from by
          rw [HLE.out]
          exact ⟨_, w.heap.size, hG4, hrow4⟩)
        have HOF := Lib.hid (show Only (fun k => k = r) w (wr.setCell ⟨r, 4, none⟩ (.slice lva K.length lcap)) from (hO.mono (fun _ _ h => h.elim)).trans hk4)
        clear hr hk4 hG4 hrow4
        go_wp2_with fail
        go_end0
        exact ⟨rfl, HFIN.out, HOF.out⟩

theorem down_r_bad (w : World) (r : Nat) (s : BS) (port : Int) (h : RBAt w r s) (hp : ¬ (0 ≤ port ∧ port < s.ports)) : Calls Try.prog 18 #[.pointer (some ⟨r, 0, none⟩), .int .i64 port] w fun e w' => e = .returned (.int .i64 100) ∧ w = w' := by
  obtain ⟨v, base, hg, hrow⟩ := h
  have x0 := blk_cell hg 0
  simp only [List.getElem?_toArray, List.getElem?_cons_zero, List.getElem?_cons_succ] at x0
  have hc : port < 0 ∨ (¬ port < 0 ∧ s.ports ≤ port) := by omega
  clear hg hrow hp
  rcases hc with h1 | ⟨h1, h2⟩
  all_goals
    go_enter Try.func18, Try.ntmps18
    go_wp2_with fail
    go_ret
    exact ⟨rfl, rfl⟩

set_option maxHeartbeats 2000000 in
theorem down_r (w : World) (r : Nat) (s : BS) (port : Int) (h : RBAt w r s) (hp : 0 ≤ port ∧ port < s.ports) (hl : s.L.length ≤ 1024) :
    Calls Try.prog 18 #[.pointer (some ⟨r, 0, none⟩), .int .i64 port] w fun e w' => e = .returned (.int .i64 0) ∧ RBAt w' r (s.down port) ∧ Only (fun k => k = r) w w' := by
  obtain ⟨ih, hih, hz0, hz1, hz2⟩ := info_parts info_heard
  obtain ⟨v, base, hg, hrow⟩ := h
  obtain ⟨va, cap, rfl⟩ := hrow.form
  obtain ⟨p0, p1⟩ := hp
  have x0 := blk_cell hg 0
  have x4 := blk_cell hg 4
  simp only [List.getElem?_toArray, List.getElem?_cons_zero, List.getElem?_cons_succ] at x0 x4
  have HROW := Lib.hid hrow
  have HG := Lib.hid hg
  generalize hN : s.L.length = N at x4 hl
  have HN := Lib.hid hN
  have hrlt := heap_lt hg
  have hrow0 := HRow.nil w w.heap.size
  clear hg hrow hN
  go_enter Try.func18, Try.ntmps18
  go_wp2_with fail
  go_loopw [5, 6] (fun lv iv wr => ∃ i : Nat, iv = .int .i64 i ∧ i ≤ N ∧ HRow wr w.heap.size lv ((s.L.take i).filter (fun p => p.2.1 != port)) ∧ Only (fun _ => False) w wr) (fun _ iv _ => N - (intOf iv).toNat)
  case atStart => exact ⟨0, rfl, by omega, hrow0, Only.refl _ _⟩
  case round =>
    clear hrow0
    obtain ⟨i, rfl, hiN, hr, hO⟩ := hrel
    have y4 := cell_only hO (fun h => h) x4
    have hlen := take_filter_le (fun p => p.2.1 != port) s.L i
    have hHsz := hO.size
    by_cases hi : i < N
    · obtain ⟨g, rfl, hgl, hc0, hc1, hc2⟩ := HROW.out.cells i (by rw [HN.out]; exact hi)
      have y5 := cell_only hO (fun h => h) hc0
      have y6 := cell_only hO (fun h => h) hc1
      have y7 := cell_only hO (fun h => h) hc2
      clear hc0 hc1 hc2
      have HS := Lib.hid (take_filter_succ (fun p => p.2.1 != port) s.L i (by rw [HN.out]; exact hi))
      have hlen2 : ((s.L.take i).filter (fun p => p.2.1 != port)).length ≤ N := by rw [HN.out] at hlen; exact hlen
      generalize (s.L.take i).filter (fun p => p.2.1 != port) = K at HS hr hlen2 ⊢
      generalize s.L.getD i (0, 0, 0) = x at *
      obtain ⟨lva, lcap, rfl⟩ := hr.form
      clear hlen
      by_cases he : x.2.1 = port
      · have hne : (x.2.1 != port) = false := by rw [he]; simp
        simp only [hne] at HS
        have HR := Lib.hid hr
        clear hr he
        go_wp2_with fail
        go_roundw
        case rel => exact ⟨i + 1, by go_num, by omega, by rw [HS.out]; simpa using HR.out, hO⟩
        case measure => simp [intOf]; omega
      · have hne : (x.2.1 != port) = true := by simpa using he
        simp only [hne] at HS
        have HR := Lib.hid hr
        have hr2 := hr
        clear hr he
        go_wp2_with (at_builtin; refine wpList_append_own _ rfl _ _ 70 rfl w.heap.size 74 ih (.agg #[.int .i64 0, .int .i64 0, .int .i64 0]) 3 24 Try.underlying70 hih hz0 hz1 hz2 rfl (by decide) _ K.length _ rfl (hr2.alloc _) ⟨wr.heap.size, 0, none⟩ 1 1 [.int .i64 x.1, .int .i64 x.2.1, .int .i64 x.2.2] rfl rfl (cell_three_new _ _ _ _ _) (by simp [Value.oneCell']) (by simp [maxLen]; omega) (by omega) (by rw [World.size_alloc]; omega) ?_; intro v3 w3 hown hgr _)
        have hrow3 : HRow w3 w.heap.size v3 ((s.L.take (i + 1)).filter (fun p => p.2.1 != port)) := by
          rw [HS.out]
          simp only [if_true]
          exact HRow.snoc hown
        have hO3 : Only (fun _ => False) w w3 := (hO.alloc (.cells #[.int .i64 x.1, .int .i64 x.2.1, .int .i64 x.2.2] 74)).then (Only.of_grown hgr) (fun k hk e => by have := (hr2.lt _ e.symm).1; omega)
        clear hown hgr hr2
        go_roundw
        case rel => exact ⟨i + 1, by go_num, by omega, hrow3, hO3⟩
        case measure => simp [intOf]; omega
    · obtain rfl : i = N := by omega
      have hK : (s.L.take i).filter (fun p => p.2.1 != port) = s.L.filter (fun p => p.2.1 != port) := by
        rw [← HN.out, List.take_length]
      rw [hK] at hr
      have HLE := Lib.hid (show s.down port = { s with L := s.L.filter (fun p => p.2.1 != port) } from rfl)
      obtain ⟨lva, lcap, rfl⟩ := hr.form
      have hG := hO.at HG.out (fun h => h)
      have hf4 := blk_free hG 4
      clear hlen hK
      generalize s.L.filter (fun p => p.2.1 != port) = K at *
      have hk4 := (Only.refl (fun k => k = r) wr).setCell ⟨r, 4, none⟩ (.slice lva K.length lcap) (fun _ => rfl)
      have hG4 := (blk_set hG 4 (.slice lva K.length lcap)).trans rfl
      have hrow4 := hr.only hk4 (fun b hb => by have := (hr.lt _ hb).1; show ¬ b = r; omega)
      have HFIN := Lib.hid (show RBAt (wr.setCell ⟨r, 4, none⟩ (.slice lva K.length lcap)) r (s.down port) from by
        rw [HLE.out]
        exact ⟨_, w.heap.size, hG4, hrow4⟩)
      have HOF := Lib.hid (show Only (fun k => k = r) w (wr.setCell ⟨r, 4, none⟩ (.slice lva K.length lcap)) from (hO.mono (fun _ _ h => h.elim)).trans hk4)
      clear hr hk4 hG4 hrow4
      go_wp2_with fail
      go_ret
      exact ⟨rfl, HFIN.out, HOF.out⟩

end Go.Proofs.Ytkmnjlegmgohfaa

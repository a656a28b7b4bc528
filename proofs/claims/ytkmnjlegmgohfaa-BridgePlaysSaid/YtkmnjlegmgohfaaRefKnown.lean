/-
  The reference bridge of sternpostref10: Known; marks over a list of numbers.
  Conditions: numbers are of the kind int.
-/
import Derived.Test.YtkmnjlegmgohfaaRefBridgeLearn
import Derived.Test.YtkmnjlegmgohfaaBridgeTake
import Derived.Laws.AppendOwnNone
import Derived.Deep.CutBlock
set_option linter.unusedVariables false
set_option linter.unusedSimpArgs false
set_option maxRecDepth 100000
namespace Go.Proofs.Ytkmnjlegmgohfaa
open Go.RowKit

/-- How many at the head are less. -/
def lessN (x : Int) (l : List Int) : Nat := (l.takeWhile (fun y => decide (y < x))).length
theorem less_split (x : Int) : ∀ l : List Int, l.takeWhile (fun y => decide (y < x)) = l.take (lessN x l) ∧ l.dropWhile (fun y => decide (y < x)) = l.drop (lessN x l) ∧ lessN x l ≤ l.length ∧ (∀ m, m < lessN x l → l.getD m 0 < x) ∧ (lessN x l < l.length → ¬ l.getD (lessN x l) 0 < x)
  | [] => ⟨rfl, rfl, Nat.le_refl _, fun m hm => absurd hm (Nat.not_lt_zero _), fun h => absurd h (Nat.lt_irrefl _)⟩
  | y :: l => by
    obtain ⟨h1, h2, h3, h4, h5⟩ := less_split x l
    by_cases hy : y < x
    · have e : lessN x (y :: l) = lessN x l + 1 := by simp [lessN, hy]
      rw [e]
      refine ⟨by simp [hy, h1], by simp [hy, h2], by simpa using h3, fun m hm => ?_, fun h => ?_⟩
      · cases m with
        | zero => exact hy
        | succ m => exact h4 m (by omega)
      · exact h5 (by simpa using h)
    · have e : lessN x (y :: l) = 0 := by simp [lessN, hy]
      rw [e]
      exact ⟨by simp [hy], by simp [hy], Nat.zero_le _, fun m hm => absurd hm (Nat.not_lt_zero _), fun _ => hy⟩

theorem row_cells {w : World} {B g n cap : Nat} {K : List Int} (h : w.ownsRow B 3 1 (.slice (some ⟨g, 0, none⟩) n cap) n (K.map (Value.int .i64))) (hl : K.length = n) (j : Nat) (hj : j < n) : w.cell? ⟨g, j, none⟩ = some (.int .i64 (K.getD j 0)) := by
  have := World.ownsRow.cellAt h j (by omega)
  rw [this, List.getElem?_map, List.getD_eq_getElem?_getD, List.getElem?_eq_getElem (by omega)]
  rfl

theorem row_news {w : World} {B g n cap : Nat} {K : List Int} (h : w.ownsRow B 3 1 (.slice (some ⟨g, 0, none⟩) n cap) n (K.map (Value.int .i64))) (hl : K.length = n) (o m : Nat) (hm : o + m ≤ n) : ∀ j u, (((K.drop o).take m).map (Value.int .i64))[j]? = some u → w.cell? ((⟨g, o, none⟩ : Addr).add j) = some u := by
  intro j u hj
  have hjm : j < m := by
    apply Classical.byContradiction
    intro hn
    rw [List.getElem?_eq_none (by simp; omega)] at hj
    cases hj
  rw [Addr.add_lit, row_cells h hl (o + j) (by omega)]
  rw [List.getElem?_map, List.getElem?_take, if_pos hjm, List.getElem?_drop, List.getElem?_eq_getElem (by omega)] at hj
  simp only [Option.map_some, Option.some.injEq] at hj
  rw [← hj, List.getD_eq_getElem?_getD, List.getElem?_eq_getElem (by omega)]
  rfl

theorem knownL_take (age now : Int) (L : List (Int × Int × Int)) (i : Nat) (h : i < L.length) : knownL age now (L.take (i + 1)) = if freshH age now (L.getD i (0, 0, 0)) then insUp (L.getD i (0, 0, 0)).1 (knownL age now (L.take i)) else knownL age now (L.take i) := by
  rw [List.take_succ_eq_append_getElem h, knownL_snoc, List.getD_eq_getElem?_getD, List.getElem?_eq_getElem h]
  rfl

theorem insUp_cut (x : Int) (K : List Int) : insUp x K = K.take (lessN x K) ++ x :: K.drop (lessN x K) := by
  obtain ⟨h1, h2, _⟩ := less_split x K
  unfold insUp
  rw [h1, h2]

theorem ints_one (l : List Int) : ∀ u ∈ l.map (Value.int .i64), u.oneCell' = true := by
  intro u hu
  obtain ⟨y, _, rfl⟩ := List.mem_map.1 hu
  rfl

theorem row_base {w : World} {B B' : Nat} {e : TypeId} {sz n : Nat} {v : Value} {xs : List Value} (h : w.ownsRow B e sz v n xs) (hb : B' ≤ B) : w.ownsRow B' e sz v n xs := by
  obtain ⟨h1, h2 | ⟨g, cap, cur, rfl, h3, h4⟩⟩ := h
  · exact ⟨h1, .inl h2⟩
  · exact ⟨h1, .inr ⟨g, cap, cur, rfl, Nat.le_trans hb h3, h4⟩⟩

theorem row_ins {w : World} {B kt : Nat} {v : Value} {K : List Int} {x : Int} (h : w.ownsRow B 3 1 v (0 + kt + 1 + (K.length - kt)) ((([] : List Value) ++ (K.take kt).map (Value.int .i64)) ++ [.int .i64 x] ++ (K.drop kt).map (Value.int .i64))) (hk : kt ≤ K.length) : OwnL w B v (K.take kt ++ x :: K.drop kt) := by
  unfold OwnL
  have hl : (K.take kt ++ x :: K.drop kt).length = 0 + kt + 1 + (K.length - kt) := by
    rw [List.length_append, List.length_cons, List.length_take, List.length_drop]; omega
  rw [hl]
  simpa [List.map_append] using h

set_option maxHeartbeats 8000000 in
theorem known_r (w : World) (r : Nat) (s : BS) (now : Int) (h : RBAt w r s) (ho : BOk s) (hl : s.L.length ≤ 1024) :
    Calls Try.prog 22 #[.pointer (some ⟨r, 0, none⟩), .int .i64 now] w fun e w' => ∃ v, e = .returned v ∧ OwnL w' w.heap.size v (knownL s.age now s.L) ∧ Only (fun _ => False) w w' := by
  obtain ⟨ih, hih, hz0, hz1, hz2⟩ := info_parts info3
  obtain ⟨v, base, hg, hrow⟩ := h
  obtain ⟨va, cap, rfl⟩ := hrow.form
  have x1 := blk_cell hg 1
  have x4 := blk_cell hg 4
  simp only [List.getElem?_toArray, List.getElem?_cons_zero, List.getElem?_cons_succ] at x1 x4
  have HROW := Lib.hid hrow
  have HAT := Lib.hid ho.at0
  have a1 := ho.a1
  have a2 := ho.a2
  have n2 := ho.n2
  generalize hN : s.L.length = N at x4 hl
  have HN := Lib.hid hN
  have hrow0 := OwnL.nil w w.heap.size
  clear hg hrow ho hN
  go_enter Try.func22, Try.ntmps22
  go_wp2_with fail
  go_loopw [5, 6] (fun ov iv wr => ∃ i : Nat, iv = .int .i64 i ∧ i ≤ N ∧ OwnL wr w.heap.size ov (knownL s.age now (s.L.take i)) ∧ Only (fun _ => False) w wr) (fun _ iv _ => N - (intOf iv).toNat)
  case atStart => exact ⟨0, rfl, by omega, hrow0, Only.refl _ _⟩
  case round =>
    clear hrow0
    obtain ⟨i, rfl, hiN, hr, hO⟩ := hrel
    have y1 := cell_only hO (fun h => h) x1
    have y4 := cell_only hO (fun h => h) x4
    have hHsz := hO.size
    have hlenK : (knownL s.age now (s.L.take i)).length ≤ 1024 := by
      have h1 := knownL_length s.age now (s.L.take i)
      have h2 : (s.L.take i).length ≤ i := by rw [List.length_take]; omega
      omega
    by_cases hi : i < N
    · obtain ⟨g, rfl, hgl, hc0, hc1, hc2⟩ := HROW.out.cells i (by rw [HN.out]; exact hi)
      have hb := HAT.out (s.L.getD i (0, 0, 0)) (by
        rw [List.getD_eq_getElem?_getD, List.getElem?_eq_getElem (by rw [HN.out]; exact hi)]
        exact List.getElem_mem _)
      have y5 := cell_only hO (fun h => h) hc0
      have y6 := cell_only hO (fun h => h) hc1
      have y7 := cell_only hO (fun h => h) hc2
      clear hc0 hc1 hc2
      have HS := Lib.hid (knownL_take s.age now s.L i (by rw [HN.out]; exact hi))
      generalize knownL s.age now (s.L.take i) = K at HS hr hlenK ⊢
      generalize s.L.getD i (0, 0, 0) = x at *
      cases hf : freshH s.age now x with
      | false =>
        rw [hf] at HS
        have HFF := Lib.hid hf
        have HR := Lib.hid hr
        clear hf hr
        go_wp2_with fail
        refine (fresh_r _ r s.age x now y1 (by omega) a2 hb.1 (by omega)).mono ?_
        rintro e w2 ⟨rfl, hk⟩
        rw [HFF.out]
        go_wp2_with fail
        go_roundw
        case rel => exact ⟨i + 1, by go_num, by omega, by rw [HS.out]; exact HR.out.only hk (fun _ _ h => h), hO.trans hk⟩
        case measure => simp [intOf]; omega
      | true =>
        rw [hf] at HS
        have HFF := Lib.hid hf
        obtain ⟨t1, t2, t3, t4, t5⟩ := less_split x.1 K
        have HCUT := Lib.hid (insUp_cut x.1 K)
        have T4 := Lib.hid t4
        have T5 := Lib.hid t5
        generalize lessN x.1 K = kt at *
        have HR := Lib.hid hr
        clear t1 t2 t4 t5 hf
        obtain ⟨hrl, ⟨rfl, h0⟩ | ⟨gb, ocap, cur, rfl, hgb, hgg, hc1, hm2, hz9, ht9⟩⟩ := id hr
        · have hK0 : K = [] := List.eq_nil_of_length_eq_zero h0
          subst hK0
          have hkt : kt = 0 := by simpa using t3
          subst hkt
          clear hr hrl h0 t3 hlenK T4 T5
          go_wp2_with fail
          refine (fresh_r _ r s.age x now y1 (by omega) a2 hb.1 (by omega)).mono ?_
          rintro e w2 ⟨rfl, hk⟩
          rw [HFF.out]
          have z4 := cell_only hk (fun h => h) y4
          have z5 := cell_only hk (fun h => h) y5
          have hO2 := hO.trans hk
          have hsz2 := hO2.size
          clear y1 y4 y5 y6 y7 hk
          go_wp2_with fail
          refine wp_loop_rounds 1 ?_
          rw [rounds_succ]
          go_wp2_with fail
          go_quiet (fail)
          have hO3 : Only (fun _ => False) w (w2.drewN nq) := hO2.drewN nq
          have zz4 : (w2.drewN nq).cell? ⟨r, 4, none⟩ = some (.slice (some ⟨g, 0, none⟩) N cap) := z4
          have zz5 : (w2.drewN nq).cell? ⟨g, i * 3, none⟩ = some (.int .i64 x.1) := z5
          generalize w2.drewN nq = w3 at hO3 zz4 zz5 ⊢
          clear z4 z5 hO2 hsz2
          have hsz3 := hO3.size
          go_upto_region 11 with (at_builtin; refine wpList_append_own_none (w := w3) rfl _ _ 34 rfl w3.heap.size 3 ih 1 Try.underlying34 hih (.slice none 0 0) 0 [] rfl (World.ownsRow_nil _ _ _ _) rfl ?_)
          go_upto_region 12 with (at_builtin; refine wpList_append_own _ rfl _ _ 34 rfl w3.heap.size 3 ih (.int .i64 0) 1 8 Try.underlying34 hih hz0 hz1 hz2 rfl (by decide) (.slice none 0 0) 0 [] rfl (World.ownsRow_nil _ _ _ _) ⟨w3.heap.size, 0, none⟩ 1 1 [.int .i64 x.1] rfl rfl (cell_one_new _ _ _) (by simp [Value.oneCell']) (by simp [maxLen]) (by omega) (by rw [World.size_alloc]; omega) ?_; intro v4 w4 hown4 hgr4 _)
          have hown5 : OwnL w4 w.heap.size v4 (insUp x.1 []) := row_base hown4 hsz3
          have hO4 : Only (fun _ => False) w w4 := (hO3.alloc (.cells #[.int .i64 x.1] 3)).then (Only.of_grown hgr4) (fun k hk e => by cases e)
          go_wp2_with (at_builtin; refine wpList_append_own_none (w := w4) rfl _ _ 34 rfl w3.heap.size 3 ih 1 Try.underlying34 hih v4 _ _ rfl hown4 rfl ?_)
          clear hown4 hgr4
          go_roundw
          case rel => exact ⟨i + 1, by go_num, by omega, by rw [HS.out]; exact hown5, hO4⟩
          case measure => simp [intOf]; omega
        · have hgl2 := heap_lt hgg
          clear hr hrl hgg hc1 hm2 hz9 ht9
          go_wp2_with fail
          refine (fresh_r _ r s.age x now y1 (by omega) a2 hb.1 (by omega)).mono ?_
          rintro e w2 ⟨rfl, hk⟩
          rw [HFF.out]
          have z4 := cell_only hk (fun h => h) y4
          have z5 := cell_only hk (fun h => h) y5
          have hO2 := hO.trans hk
          have HR2 := Lib.hid (HR.out.only hk (fun _ _ h => h))
          have hgl3 : gb < w2.heap.size := Nat.lt_of_lt_of_le hgl2 hk.size
          clear y1 y4 y5 y6 y7 hk HR hgl2
          go_wp2_with fail
          go_loopw [7] (fun kv wk => ∃ k : Nat, kv = .int .i64 k ∧ k ≤ kt ∧ Only (fun _ => False) w2 wk) (fun v _ => kt - (intOf v).toNat)
          case atStart => exact ⟨0, rfl, by omega, Only.refl _ _⟩
          case round =>
            obtain ⟨k, rfl, hkk, hOk⟩ := hrel
            have q4 := cell_only hOk (fun h => h) z4
            have q5 := cell_only hOk (fun h => h) z5
            have HR3 := Lib.hid (HR2.out.only hOk (fun _ _ h => h))
            by_cases hkl : k < kt
            · have hkn : k < K.length := by omega
              have qc := row_cells (g := gb) HR3.out rfl k hkn
              have hd1 := T4.out k hkl
              have hd2 : decide (K.getD k 0 < x.1) = true := decide_eq_true hd1
              generalize K.getD k 0 = y at qc hd1 hd2
              go_wp2_with fail
              go_quiet (fail)
              go_wp2_with fail
              go_roundw
              case rel => exact ⟨k + 1, by go_num, by omega, hOk.drewN _⟩
              case measure => simp [intOf]; omega
            · obtain rfl : k = kt := by omega
              have hO3 : Only (fun _ => False) w wr := hO2.trans hOk
              have hEX : k < K.length ∨ ¬ k < K.length := by omega
              rcases hEX with hkn | hkn
              case' inl =>
                have qc := row_cells (g := gb) HR3.out rfl k hkn
                have hd1 := T5.out hkn
                have hd2 : decide (K.getD k 0 < x.1) = false := decide_eq_false (Int.not_lt.2 hd1)
                generalize K.getD k 0 = y at qc hd1 hd2
                go_wp2_with fail
                go_quiet (fail)
                clear qc hd1 hd2
              case' inr =>
                go_wp2_with fail
                go_quiet (fail)
              all_goals
                have hO4 : Only (fun _ => False) w (wr.drewN nq) := hO3.drewN nq
                have zz4 : (wr.drewN nq).cell? ⟨r, 4, none⟩ = some (.slice (some ⟨g, 0, none⟩) N cap) := q4
                have zz5 : (wr.drewN nq).cell? ⟨g, i * 3, none⟩ = some (.int .i64 x.1) := q5
                have hrow3 : (wr.drewN nq).ownsRow w.heap.size 3 1 (.slice (some ⟨gb, 0, none⟩) K.length ocap) K.length (K.map (Value.int .i64)) := HR3.out.only ((Only.refl _ wr).drewN nq) (fun _ _ h => h)
                have hgl4 : gb < (wr.drewN nq).heap.size := Nat.lt_of_lt_of_le hgl3 hOk.size
                generalize wr.drewN nq = w3 at hO4 zz4 zz5 hrow3 hgl4 ⊢
                clear q4 q5 HR3 hOk hO3 hO2 HR2 z4 z5
                have hsz3 := hO4.size
                have HN1 := Lib.hid (row_news hrow3 rfl 0 k (by omega))
                simp only [List.drop_zero] at HN1
                obtain ⟨o', ho', hob⟩ : ∃ o' : Nat, (if ocap = k then (some ⟨gb, 0, none⟩ : Option Addr) else some ⟨gb, k, none⟩) = some ⟨gb, o', none⟩ ∧ (o' = k ∨ K.length - k = 0) := by
                  by_cases hcn : ocap = k
                  · have hcap : K.length ≤ ocap := by
                      obtain ⟨_, ⟨h1, _⟩ | ⟨_, _, _, h1, _, _, hc, _⟩⟩ := hrow3
                      · cases h1
                      · cases h1
                        exact hc
                    exact ⟨0, by rw [if_pos hcn], .inr (by omega)⟩
                  · exact ⟨k, by rw [if_neg hcn], .inl rfl⟩
                have hcapk : k ≤ ocap := by
                  obtain ⟨_, ⟨h1, _⟩ | ⟨_, _, _, h1, _, _, hc, _⟩⟩ := hrow3
                  · cases h1
                  · cases h1
                    omega
                have HO' := Lib.hid ho'
                have HN3 := Lib.hid (show ∀ j u, ((K.drop k).map (Value.int .i64))[j]? = some u → w3.cell? ((⟨gb, o', none⟩ : Addr).add j) = some u from by
                  rcases hob with h1 | h1
                  · subst h1
                    have h2 := row_news hrow3 rfl o' (K.length - o') (by omega)
                    rwa [show (K.drop o').take (K.length - o') = K.drop o' from by rw [List.take_of_length_le (by rw [List.length_drop]; omega)]] at h2
                  · intro j u hj
                    rw [List.drop_eq_nil_of_le (by omega)] at hj
                    cases hj)
                clear ho' hob hrow3
                go_upto_region 11 with (at_builtin; refine wpList_append_own w3 rfl _ _ 34 rfl w3.heap.size 3 ih (.int .i64 0) 1 8 Try.underlying34 hih hz0 hz1 hz2 rfl (by decide) (.slice none 0 0) 0 [] rfl (World.ownsRow_nil _ _ _ _) ⟨gb, 0, none⟩ k ocap ((K.take k).map (Value.int .i64)) ?_ (by rw [List.length_map, List.length_take]; omega) HN1.out (ints_one _) (by simp [maxLen]; omega) (by omega) (Nat.le_refl _) ?_; (· first | (go_simp; done) | (go_simp; split <;> rfl)); intro v4 w4 hown4 hgr4 _)
                have hgr4' : ∀ b, b < w3.heap.size → w4.heap[b]? = w3.heap[b]? := fun b hb2 => (Only.of_grown hgr4).block b hb2 (fun e => by cases e)
                have hO5 : Only (fun _ => False) w3 w4 := (Only.of_grown hgr4).mono (fun _ _ e => by cases e)
                have y54 := cell_only hO5 (fun h => h) zz4
                have y55 := cell_only hO5 (fun h => h) zz5
                have hsz4 := hO5.size
                clear zz4 zz5 hgr4 hgr4'
                go_upto_region 12 with (at_builtin; refine wpList_append_own _ rfl _ _ 34 rfl w3.heap.size 3 ih (.int .i64 0) 1 8 Try.underlying34 hih hz0 hz1 hz2 rfl (by decide) v4 (0 + k) _ rfl (hown4.alloc _) ⟨w4.heap.size, 0, none⟩ 1 1 [.int .i64 x.1] rfl rfl (cell_one_new _ _ _) (by simp [Value.oneCell']) (by simp [maxLen]; omega) (by omega) (by rw [World.size_alloc]; omega) ?_; intro v5 w5 hown5 hgr5 _)
                have hO6 : Only (fun k => w3.heap.size ≤ k) w4 w5 := (((Only.refl (fun k => w3.heap.size ≤ k) w4).alloc (.cells #[.int .i64 x.1] 3))).then (Only.of_grown hgr5) (fun k hk e => (hown4.lt _ e.symm).1)
                have hO7 : Only (fun _ => False) w3 w5 := hO5.then hO6 (fun k hk e => by omega)
                have HN5 := Lib.hid (fun j u hj => cell_only hO7 (fun h => h) (HN3.out j u hj))
                have hsz5 := hO7.size
                have hO8 := hO4.trans hO7
                clear hown4 hgr5 hO6 hO5 hO4 y54 y55
                go_wp2_with (at_builtin; refine wpList_append_own w5 rfl _ _ 34 rfl w3.heap.size 3 ih (.int .i64 0) 1 8 Try.underlying34 hih hz0 hz1 hz2 rfl (by decide) v5 (0 + k + 1) _ rfl hown5 ⟨gb, o', none⟩ (K.length - k) (ocap - k) ((K.drop k).map (Value.int .i64)) ?_ (by rw [List.length_map, List.length_drop]; omega) HN5.out (ints_one _) (by simp [maxLen]; omega) (by omega) (by omega) ?_; (· first | (go_simp; exact HO'.out) | (go_simp; rw [HO'.out]) | (go_simp; trace_state; done)); intro v6 w6 hown6 hgr6 _)
                have hfin : OwnL w6 w.heap.size v6 (insUp x.1 K) := by
                  rw [HCUT.out]
                  exact row_ins (row_base hown6 hsz3) t3
                have hO9 : Only (fun _ => False) w w6 := hO8.then (Only.of_grown hgr6) (fun k hk e => by have := (hown5.lt _ e.symm).1; omega)
                clear hown6 hgr6 hown5
                go_roundw
                case rel => exact ⟨i + 1, by go_num, by omega, by rw [HS.out]; exact hfin, hO9⟩
                case measure => simp [intOf]; omega
    · obtain rfl : i = N := by omega
      have hK : knownL s.age now (s.L.take i) = knownL s.age now s.L := by rw [← HN.out, List.take_length]
      rw [hK] at hr
      have HR := Lib.hid hr
      clear hr hK hlenK
      go_wp2_with fail
      go_ret
      exact ⟨_, rfl, HR.out, hO⟩

end Go.Proofs.Ytkmnjlegmgohfaa

/-
  The walk of the law ChannelIdle.
  No conditions.
-/
import Derived.Test.YteifehienpeaiaaEndTick
import Derived.Test.YteifehienpeaiaaAmong
import Derived.Test.YteifehienpeaiaaOpen
set_option linter.unusedVariables false
set_option linter.unusedSimpArgs false
set_option maxRecDepth 100000
namespace Go.Proofs.Yteifehienpeaiaa
open Go.RowKit Go.Maps Go.Sort

theorem strs_lie {w2 : World} {B : Nat} {v : Value} {L : List ByteArray} (h : w2.ownsRow B 9 1 v L.length (L.map Value.string)) : ∃ a cap, v = .slice a L.length cap ∧ L.length ≤ cap ∧ ∀ i, i < L.length → ∃ blk, a = some ⟨blk, 0, none⟩ ∧ B ≤ blk ∧ blk < w2.heap.size ∧ w2.cell? ⟨blk, i, none⟩ = some (.string (L.getD i ⟨#[]⟩)) := by
  obtain ⟨hl, ⟨rfl, h0⟩ | ⟨g, cap, cur, rfl, hb, hg, hc1, hm1, hz1, ht1⟩⟩ := h
  · exact ⟨none, 0, by rw [h0], by omega, fun i hi => by omega⟩
  · refine ⟨_, cap, rfl, hc1, fun i hi => ⟨g, rfl, hb, heap_lt hg, ?_⟩⟩
    rw [blk_cell hg i]
    have h1 : cur[i]? = (cur.toList.take (L.length * 1))[i]? := by rw [List.getElem?_take, if_pos (by omega), Array.getElem?_toList]
    rw [h1, ht1, List.getElem?_map, List.getElem?_eq_getElem hi]
    simp [List.getD, hi]

theorem COk.role {s : CS} (h : COk s) {r : Int} (h0 : 0 ≤ r) (h1 : r ≤ 5) : COk { s with role := r } := by
  obtain ⟨r1, r2, w1, w2, b1, b2, e0, e1, o0, o1, m0, m1, n0, n1, bt0, bt1, t0, t1, at0, key, len⟩ := h
  exact ⟨r1, r2, w1, w2, b1, b2, e0, e1, h0, h1, m0, m1, n0, n1, bt0, bt1, t0, t1, at0, key, len⟩

/-- The end's state at the beginning of the round k. -/
structure IdleS (beat mark : Int) (k : Nat) (s : CS) : Prop where
  form : ∃ role nw bat, s = ⟨4, 3, beat, 9, role, mark, nw, bat, 0, 0, 0, 0, 0, 0, [], []⟩ ∧ (0 ≤ nw ∧ nw ≤ k) ∧ (k ≤ 50 → role = 1) ∧ (1 ≤ role ∧ role ≤ 2) ∧ (k ≤ bat ∧ bat < k + beat) ∧ bat % beat = 0

theorem IdleS.ok {beat mark : Int} {k : Nat} {s : CS} (h : IdleS beat mark k s) (hb : 1 ≤ beat ∧ beat ≤ 20) (hm : 0 ≤ mark ∧ mark < 4294967296) (hk : k ≤ 200) : COk s := by
  obtain ⟨role, nw, bat, rfl, h1, h2, h3, h4, h5⟩ := h
  exact ⟨by show (1 : Int) ≤ 4; decide, by show (4 : Int) ≤ 64; decide, by show (1 : Int) ≤ 3; decide, by show (3 : Int) ≤ 1048576; decide, hb.1, by show beat ≤ _; omega, by show (0 : Int) ≤ 9; decide, by show (9 : Int) ≤ 4294967295; decide, by show 0 ≤ role; omega, by show role ≤ 5; omega, hm.1, by show mark ≤ _; omega, h1.1, by show nw ≤ _; omega, by show 0 ≤ bat; omega, by show bat ≤ _; omega, by show (0 : Int) ≤ 0; decide, by show (0 : Int) ≤ 4294967295; decide, fun x hx => (by cases hx), fun x hx => (by cases hx), by show 0 ≤ 64; decide⟩

theorem IdleS.step {beat mark : Int} {k : Nat} {s : CS} {r : Int} (h : IdleS beat mark k s) (hb : 1 ≤ beat ∧ beat ≤ 20) (hm : 0 ≤ mark ∧ mark < 4294967296) (hk : k < 200) (hr1 : 1 ≤ r ∧ r ≤ 2) (hr2 : k ≤ 50 → r = 1) :
    IdleS beat mark (k + 1) (({ s with role := r } : CS).ticks k) ∧ ({ s with role := r } : CS).outs k = (if (k : Int) % beat = 0 then [letBytes 2 9 r mark 0 ⟨#[]⟩] else []) ∧ letterB 2 9 r mark 0 ⟨#[]⟩ = true := by
  obtain ⟨role, nw, bat, rfl, h1, h2, h3, h4, h5⟩ := h
  have hnow : mx nw (mn k 1099511627776) = (k : Int) := by unfold mx mn; omega
  have hiff : bat ≤ (k : Int) ↔ (k : Int) % beat = 0 := by
    constructor
    · intro h
      have : bat = k := by omega
      rw [← this]; exact h5
    · intro h
      have h6 : (bat - k) % beat = 0 := by rw [Int.sub_emod, h5, h]; simp
      rw [Int.emod_eq_of_lt (by omega) (by omega)] at h6
      omega
  refine ⟨?_, ?_, ?_⟩
  · refine ⟨r, k, if bat ≤ (k : Int) then (k : Int) + beat else bat, ?_, by omega, fun h => hr2 (by omega), hr1, ?_, ?_⟩
    · unfold CS.ticks CS.ticked
      simp only [hnow, List.map_nil]
    · split <;> omega
    · split
      · rename_i h
        rw [Int.add_emod_right]
        exact hiff.1 h
      · exact h5
  · unfold CS.outs CS.ticked
    simp only [hnow, List.filter_nil, List.map_nil, List.nil_append, CS.letter]
    by_cases h : bat ≤ (k : Int)
    · rw [if_pos h, if_pos (hiff.1 h)]
    · rw [if_neg h, if_neg (fun e => h (hiff.2 e))]
  · unfold letterB wordB roleB
    simp only [Bool.and_eq_true, Bool.or_eq_true, decide_eq_true_eq, beq_iff_eq]
    refine ⟨⟨⟨⟨⟨?_, ?_⟩, ?_⟩, ?_⟩, ?_⟩, .inr ⟨trivial, ?_⟩⟩ <;> first | omega | rfl | decide

set_option maxHeartbeats 4000000 in
theorem chanIdle_walk (W : World) (b0 : Int) (wb : (Lit.int .i64 b0).wf = true) (t0 : Int) (wt : (Lit.int .i64 t0).wf = true) (m0 : Int) (wm : (Lit.int .i64 m0).wf = true) :
    Calls Try.prog 5 #[.int .i64 b0, .int .i64 t0, .int .i64 m0] W fun e W' => e = .returned (.bool true) ∧ Below W.heap.size W W' := by
  go_enter Try.func5, Try.ntmps5
  go_wp2_with fail
  refine (among_any b0 20 _ wb (by decide) (by decide)).mono ?_
  rintro e _ ⟨rfl, rfl⟩
  have hb0 : 0 ≤ b0 % 20 := Int.emod_nonneg _ (by decide)
  have hb1 : b0 % 20 < 20 := Int.emod_lt_of_pos _ (by decide)
  generalize b0 % 20 = b at hb0 hb1 ⊢
  go_wp2_with fail
  refine (among_any t0 200 _ wt (by decide) (by decide)).mono ?_
  rintro e _ ⟨rfl, rfl⟩
  have ht0 : 0 ≤ t0 % 200 := Int.emod_nonneg _ (by decide)
  have ht1 : t0 % 200 < 200 := Int.emod_lt_of_pos _ (by decide)
  obtain ⟨t, ht⟩ := Int.eq_ofNat_of_zero_le ht0
  rw [ht] at ht1 ⊢
  clear ht0 ht
  go_wp2_with fail
  refine (among_any m0 4294967296 _ wm (by decide) (by decide)).mono ?_
  rintro e _ ⟨rfl, rfl⟩
  have hm0 : 0 ≤ m0 % 4294967296 := Int.emod_nonneg _ (by decide)
  have hm1 : m0 % 4294967296 < 4294967296 := Int.emod_lt_of_pos _ (by decide)
  generalize m0 % 4294967296 = mark at hm0 hm1 ⊢
  clear wb wt wm
  go_wp2_with fail
  have hbt : 1 ≤ 1 + b ∧ 1 + b ≤ 20 := by omega
  generalize 1 + b = beat at hbt ⊢
  clear hb0 hb1
  refine (end_new _ 4 3 beat 9 1 mark 0 (by decide) (by decide) ⟨hbt.1, by omega⟩ (by decide) ⟨hm0, by omega⟩ (by decide) (by decide)).mono ?_
  rintro e w1 ⟨g, mo, me, rfl, h1, hg, hmo, hme, hk1⟩
  have hS0 : IdleS beat mark 0 ⟨4, 3, beat, 9, 1, mark, 0, 0, 0, 0, 0, 0, 0, 0, [], []⟩ := ⟨1, 0, 0, rfl, by omega, fun _ => rfl, by omega, by omega, by simp⟩
  have hF0 : Only (fun _ => False) W w1 := hk1
  generalize (⟨4, 3, beat, 9, 1, mark, 0, 0, 0, 0, 0, 0, 0, 0, [], []⟩ : CS) = s0 at h1 hS0
  clear hk1
  go_wp2_with fail
  refine (works24 _).mono ?_
  rintro e w2 ⟨rfl, hk⟩
  replace h1 := h1.keep hk
  replace hF0 := hF0.trans hk
  clear hk
  go_wp2_with fail
  go_loopw [41] (fun iv wr => ∃ (k : Nat) (s : CS), iv = .int .i64 k ∧ k ≤ t ∧ IdleS beat mark k s ∧ EndAt wr g mo me s ∧ Only (fun _ => False) W wr) (fun i _ => t - (intOf i).toNat)
  case atStart => exact ⟨0, s0, rfl, by omega, hS0, h1, hF0⟩
  case round =>
    clear h1 hF0 hS0
    obtain ⟨k, s, rfl, hkt, hS, hE, hF⟩ := hrel
    by_cases hlt : k < t
    · have HS := Lib.hid hS
      obtain ⟨role, nw, bat, hs, _⟩ := hS.form
      have hOnil : s.O = [] := by rw [hs]
      have HON := Lib.hid hOnil
      clear hs hS hOnil
      by_cases h50 : 50 < k
      · have d50 : decide (50 < (k : Int)) = true := decide_eq_true (by omega)
        go_wp2_with fail
        refine (role_any _ g mo me s 2 hE (by decide) (by decide)).mono ?_
        rintro e w3 ⟨rfl, h3, hk3⟩
        have hF3 : Only (fun _ => False) W w3 := hF.then hk3 (fun i hi e => by omega)
        clear hE hF hk3
        go_wp2_with fail
        have hst := IdleS.step HS.out hbt ⟨hm0, hm1⟩ (by omega) (r := 2) (by omega) (by omega)
        have hok := (HS.out.ok hbt ⟨hm0, hm1⟩ (by omega)).role (r := 2) (by decide) (by decide)
        have HST := Lib.hid hst
        have HOK := Lib.hid hok
        clear hst hok
        refine (etick_any w3 g mo me _ (k : Int) h3 HOK.out (by show (s.O.map (·.key)).Pairwise _; rw [HON.out]; exact List.Pairwise.nil)).mono ?_
        rintro e w4 ⟨v, rfl, hrow, h4, hk4⟩
        have hF4 : Only (fun _ => False) W w4 := hF3.then hk4 (fun i hi e => by
          rcases e with rfl | rfl | rfl | ⟨x, hx, _⟩
          · omega
          · omega
          · omega
          · have : x ∈ s.O := hx
            rw [HON.out] at this; cases this)
        have hL := HST.out.2.2
        have hR := HST.out.2.1
        rw [hR] at hrow
        clear hR hk4 h3
        by_cases hdiv : (k : Int) % beat = 0
        · rw [if_pos hdiv] at hrow
          obtain ⟨a, cap, rfl, hcap, hcell⟩ := strs_lie hrow
          obtain ⟨blk, rfl, hb1, hb2, hc⟩ := hcell 0 (Nat.zero_lt_succ _)
          replace hc : w4.cell? ⟨blk, 0, none⟩ = some (.string (letBytes 2 9 2 mark 0 ⟨#[]⟩)) := hc
          have hcap1 : 1 ≤ cap := hcap
          have HOKL := Lib.hid (let_ok hL)
          have HVL := Lib.hid (let_value hL)
          have hsz := let_size 2 9 2 mark 0 ⟨#[]⟩
          have hsz2 : (letBytes 2 9 2 mark 0 ⟨#[]⟩).size ≤ 140737488355328 := by rw [hsz]; decide
          clear hL hrow hcell hcap hsz
          generalize letBytes 2 9 2 mark 0 ⟨#[]⟩ = S at hc HOKL HVL hsz2
          have hdv1 : ((k : Int) % beat == 0) = true := by rw [hdiv]; rfl
          have hdv2 : ((k : Int) % beat != 0) = false := by rw [hdiv]; rfl
          clear hdiv
          go_wp2_with fail
          refine wp_loop_rounds 2 ?_
          rw [rounds_succ]
          go_wp2_with fail
          refine (decode_ok S _ hsz2 HOKL.out).mono ?_
          rintro e w5 ⟨rfl, hk5⟩
          rw [HVL.out]
          have h5 := (h4.keep hk5).keep ((Only.refl (fun _ => False) w5).alloc (.cells #[.int .i64 2, .int .i64 9, .int .i64 2, .int .i64 mark, .int .i64 0, .string ⟨#[]⟩] 23))
          have hF5 := (hF4.trans hk5).alloc (.cells #[.int .i64 2, .int .i64 9, .int .i64 2, .int .i64 mark, .int .i64 0, .string ⟨#[]⟩] 23)
          clear h4 hF4 hc hk5
          go_wp2_with fail
          rw [rounds_succ]
          go_wp2_with fail
          go_roundw
          case rel => exact ⟨k + 1, _, by go_num, by omega, HST.out.1, h5, hF5⟩
          case measure => simp [intOf]; omega
        · rw [if_neg hdiv] at hrow
          obtain ⟨a, cap, rfl, hcap, hcell⟩ := strs_lie hrow
          have hdv1 : ((k : Int) % beat == 0) = false := by simpa using hdiv
          have hdv2 : ((k : Int) % beat != 0) = true := by simpa using hdiv
          simp only [List.length_nil] at hcap ⊢
          clear hdiv hcell hrow hL
          go_wp2_with fail
          refine wp_loop_rounds 1 ?_
          rw [rounds_succ]
          go_wp2_with fail
          go_roundw
          case rel => exact ⟨k + 1, _, by go_num, by omega, HST.out.1, h4, hF4⟩
          case measure => simp [intOf]; omega
      · have d50 : decide (50 < (k : Int)) = false := decide_eq_false (by omega)
        have h3 : EndAt wr g mo me { s with role := 1 } := by
          have : ({ s with role := 1 } : CS) = s := by
            obtain ⟨role, nw, bat, hs, _, h2, _⟩ := HS.out.form
            rw [hs, h2 (by omega)]
          rw [this]; exact hE
        clear hE
        go_wp2_with fail
        have hst := IdleS.step HS.out hbt ⟨hm0, hm1⟩ (by omega) (r := 1) (by omega) (by omega)
        have hok := (HS.out.ok hbt ⟨hm0, hm1⟩ (by omega)).role (r := 1) (by decide) (by decide)
        have HST := Lib.hid hst
        have HOK := Lib.hid hok
        clear hst hok
        refine (etick_any wr g mo me _ (k : Int) h3 HOK.out (by show (s.O.map (·.key)).Pairwise _; rw [HON.out]; exact List.Pairwise.nil)).mono ?_
        rintro e w4 ⟨v, rfl, hrow, h4, hk4⟩
        have hF4 : Only (fun _ => False) W w4 := hF.then hk4 (fun i hi e => by
          rcases e with rfl | rfl | rfl | ⟨x, hx, _⟩
          · omega
          · omega
          · omega
          · have : x ∈ s.O := hx
            rw [HON.out] at this; cases this)
        have hL := HST.out.2.2
        have hR := HST.out.2.1
        rw [hR] at hrow
        clear hR hk4 h3
        by_cases hdiv : (k : Int) % beat = 0
        · rw [if_pos hdiv] at hrow
          obtain ⟨a, cap, rfl, hcap, hcell⟩ := strs_lie hrow
          obtain ⟨blk, rfl, hb1, hb2, hc⟩ := hcell 0 (Nat.zero_lt_succ _)
          replace hc : w4.cell? ⟨blk, 0, none⟩ = some (.string (letBytes 2 9 1 mark 0 ⟨#[]⟩)) := hc
          have hcap1 : 1 ≤ cap := hcap
          have HOKL := Lib.hid (let_ok hL)
          have HVL := Lib.hid (let_value hL)
          have hsz := let_size 2 9 1 mark 0 ⟨#[]⟩
          have hsz2 : (letBytes 2 9 1 mark 0 ⟨#[]⟩).size ≤ 140737488355328 := by rw [hsz]; decide
          clear hL hrow hcell hcap hsz
          generalize letBytes 2 9 1 mark 0 ⟨#[]⟩ = S at hc HOKL HVL hsz2
          have hdv1 : ((k : Int) % beat == 0) = true := by rw [hdiv]; rfl
          have hdv2 : ((k : Int) % beat != 0) = false := by rw [hdiv]; rfl
          clear hdiv
          go_wp2_with fail
          refine wp_loop_rounds 2 ?_
          rw [rounds_succ]
          go_wp2_with fail
          refine (decode_ok S _ hsz2 HOKL.out).mono ?_
          rintro e w5 ⟨rfl, hk5⟩
          rw [HVL.out]
          have h5 := (h4.keep hk5).keep ((Only.refl (fun _ => False) w5).alloc (.cells #[.int .i64 2, .int .i64 9, .int .i64 1, .int .i64 mark, .int .i64 0, .string ⟨#[]⟩] 23))
          have hF5 := (hF4.trans hk5).alloc (.cells #[.int .i64 2, .int .i64 9, .int .i64 1, .int .i64 mark, .int .i64 0, .string ⟨#[]⟩] 23)
          clear h4 hF4 hc hk5
          go_wp2_with fail
          rw [rounds_succ]
          go_wp2_with fail
          go_roundw
          case rel => exact ⟨k + 1, _, by go_num, by omega, HST.out.1, h5, hF5⟩
          case measure => simp [intOf]; omega
        · rw [if_neg hdiv] at hrow
          obtain ⟨a, cap, rfl, hcap, hcell⟩ := strs_lie hrow
          have hdv1 : ((k : Int) % beat == 0) = false := by simpa using hdiv
          have hdv2 : ((k : Int) % beat != 0) = true := by simpa using hdiv
          simp only [List.length_nil] at hcap ⊢
          clear hdiv hcell hrow hL
          go_wp2_with fail
          refine wp_loop_rounds 1 ?_
          rw [rounds_succ]
          go_wp2_with fail
          go_roundw
          case rel => exact ⟨k + 1, _, by go_num, by omega, HST.out.1, h4, hF4⟩
          case measure => simp [intOf]; omega
    · obtain rfl : k = t := by omega
      go_wp2_with fail
      go_ret
      exact ⟨rfl, hF.below (Nat.le_refl _) (fun _ _ h => h)⟩

end Go.Proofs.Yteifehienpeaiaa

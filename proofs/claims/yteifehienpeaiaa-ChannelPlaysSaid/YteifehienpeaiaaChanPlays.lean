/-
  The walk of the law ChannelPlays.
  No conditions.
-/
import Derived.Test.YteifehienpeaiaaChanStep
import Derived.Test.YteifehienpeaiaaRefEndNew
import Derived.Test.YteifehienpeaiaaDecBoth
import Derived.Test.YteifehienpeaiaaOpen
set_option linter.unusedVariables false
set_option linter.unusedSimpArgs false
set_option maxRecDepth 100000
namespace Go.Proofs.Yteifehienpeaiaa
open Go.RowKit

theorem begun_cells {cs : List Value} (h : CellsAre [.i, .i, .i, .i, .i, .i, .i] cs) : ∃ (a b c d e f g : Int), cs = [.int .i64 a, .int .i64 b, .int .i64 c, .int .i64 d, .int .i64 e, .int .i64 f, .int .i64 g] := by
  obtain ⟨a, _, rfl, _, h1⟩ := h.i
  obtain ⟨b, _, rfl, _, h2⟩ := h1.i
  obtain ⟨c, _, rfl, _, h3⟩ := h2.i
  obtain ⟨d, _, rfl, _, h4⟩ := h3.i
  obtain ⟨e, _, rfl, _, h5⟩ := h4.i
  obtain ⟨f, _, rfl, _, h6⟩ := h5.i
  obtain ⟨g, _, rfl, _, h7⟩ := h6.i
  obtain rfl := h7.nil
  exact ⟨a, b, c, d, e, f, g, rfl⟩

/-- An act as it lies. -/
structure ActC where
  kd : Int
  by_ : Int
  nn : Int
  tx : ByteArray
  lk : Int
  le : Int
  lr : Int
  ln : Int
  la : Int
  ld : ByteArray
  near : Bool
def ActC.cells (x : ActC) : List Value := [.int .i64 x.kd, .int .i64 x.by_, .int .i64 x.nn, .string x.tx, .int .i64 x.lk, .int .i64 x.le, .int .i64 x.lr, .int .i64 x.ln, .int .i64 x.la, .string x.ld, .bool x.near]
instance : Inhabited ActC := ⟨⟨0, 0, 0, ⟨#[]⟩, 0, 0, 0, 0, 0, ⟨#[]⟩, false⟩⟩
theorem act_cells {cs : List Value} (h : CellsAre [.i, .i, .i, .s, .i, .i, .i, .i, .i, .s, .b] cs) : ∃ x : ActC, cs = x.cells ∧ (Lit.int .i64 x.kd).wf = true ∧ (Lit.int .i64 x.by_).wf = true ∧ (Lit.int .i64 x.ln).wf = true ∧ (Lit.int .i64 x.la).wf = true ∧ x.tx.size ≤ reachB ∧ x.ld.size ≤ reachB := by
  obtain ⟨a, _, rfl, ha, h1⟩ := h.i
  obtain ⟨b, _, rfl, hb, h2⟩ := h1.i
  obtain ⟨c, _, rfl, _, h3⟩ := h2.i
  obtain ⟨d, _, rfl, hd, h4⟩ := h3.s
  obtain ⟨e, _, rfl, _, h5⟩ := h4.i
  obtain ⟨f, _, rfl, _, h6⟩ := h5.i
  obtain ⟨g, _, rfl, _, h7⟩ := h6.i
  obtain ⟨i, _, rfl, hi, h8⟩ := h7.i
  obtain ⟨j, _, rfl, hj, h9⟩ := h8.i
  obtain ⟨k, _, rfl, hk, h10⟩ := h9.s
  obtain ⟨l, _, rfl, h11⟩ := h10.b
  obtain rfl := h11.nil
  exact ⟨⟨a, b, c, d, e, f, g, i, j, k, l⟩, rfl, ha, hb, hi, hj, hd, hk⟩

set_option maxHeartbeats 16000000 in
theorem chanPlays_walk (W : World) (cs : List Value) (hcs : CellsAre [.i, .i, .i, .i, .i, .i, .i] cs) (v : Value) (n : Nat) (f : Nat → List Value) (h : SlIs W [.i, .i, .i, .s, .i, .i, .i, .i, .i, .s, .b] v n f) :
    Calls Try.prog 8 #[.agg cs.toArray, v] W fun e W' => e = .returned (.bool true) ∧ Below W.heap.size W W' := by
  obtain ⟨room, wait, beat, epoch, role, mark, now0, rfl⟩ := begun_cells hcs
  obtain ⟨⟨a, cap, rfl, hle, hat⟩, hcells, hsmall, _, _⟩ := h
  obtain ⟨pa, hpa⟩ := Deep.choose_lt (fun i hi => act_cells (hcells i hi))
  have HPA := Lib.hid hpa
  have HAT := Lib.hid hat
  clear hcells hpa hat hcs
  simp only [List.length_cons, List.length_nil, reachB] at hsmall
  have hO := (Only.refl (fun _ => False) W).alloc (.cells #[.int .i64 room, .int .i64 wait, .int .i64 beat, .int .i64 epoch, .int .i64 role, .int .i64 mark, .int .i64 now0] 64)
  have hx := blk_new W (.cells #[.int .i64 room, .int .i64 wait, .int .i64 beat, .int .i64 epoch, .int .i64 role, .int .i64 mark, .int .i64 now0] 64)
  have z0 := (blk_cell hx 0).trans (show _ = some (.int .i64 room) from rfl)
  have z1 := (blk_cell hx 1).trans (show _ = some (.int .i64 wait) from rfl)
  have z2 := (blk_cell hx 2).trans (show _ = some (.int .i64 beat) from rfl)
  have z3 := (blk_cell hx 3).trans (show _ = some (.int .i64 epoch) from rfl)
  have z4 := (blk_cell hx 4).trans (show _ = some (.int .i64 role) from rfl)
  have z5 := (blk_cell hx 5).trans (show _ = some (.int .i64 mark) from rfl)
  have z6 := (blk_cell hx 6).trans (show _ = some (.int .i64 now0) from rfl)
  by_cases hgood : NewOk room wait beat epoch role mark now0
  · have HG := Lib.hid hgood
    obtain ⟨⟨⟨r1, r2⟩, ⟨q1, q2⟩, ⟨b1, b2⟩⟩, he, hm, ho, n1, n2⟩ := id hgood
    unfold wordB at he hm
    unfold roleB at ho
    simp only [Bool.and_eq_true, decide_eq_true_eq] at he hm ho
    obtain ⟨e1, e2⟩ := he
    obtain ⟨m1, m2⟩ := hm
    obtain ⟨o1, o2⟩ := ho
    clear hgood hx
    go_enter Try.func8, Try.ntmps8
    go_wp2_with fail
    refine (end_new _ room wait beat epoch role mark now0 ⟨r1, r2⟩ ⟨q1, q2⟩ ⟨b1, b2⟩ ⟨e1, e2⟩ ⟨m1, m2⟩ ⟨o1, o2⟩ ⟨n1, n2⟩).mono ?_
    rintro e w1 ⟨g, mo, me, rfl, hE, g1, g2, g3, hk1⟩
    have y0 := cell_only hk1 (fun h => h) z0
    have y1 := cell_only hk1 (fun h => h) z1
    have y2 := cell_only hk1 (fun h => h) z2
    have y3 := cell_only hk1 (fun h => h) z3
    have y4 := cell_only hk1 (fun h => h) z4
    have y5 := cell_only hk1 (fun h => h) z5
    have y6 := cell_only hk1 (fun h => h) z6
    have hO1 := hO.trans hk1
    have hs0 := hO.size
    have HE := Lib.hid hE
    have HF0 : Hid (∀ i, Foot g mo me ([] : List Sn) i → W.heap.size ≤ i) := Lib.hid (by
      rintro i (rfl | rfl | rfl | ⟨x, hx, _⟩)
      · omega
      · omega
      · omega
      · cases hx)
    clear z0 z1 z2 z3 z4 z5 z6 hE hk1 hO g1 g2 g3 hs0
    go_wp2_with fail
    refine (rend_new w1 room wait beat epoch role mark now0 HG.out).mono ?_
    rintro e w2 ⟨r, rfl, hR, hr1, hk2⟩
    have u6 := cell_only hk2 (fun h => h) y6
    have hO2 := hO1.trans hk2
    have hT2 : TwinS W w2 g mo me r 0 ⟨room, wait, beat, epoch, role, mark, now0, now0, 0, 0, 0, now0, 0, 0, [], []⟩ := ⟨HE.out.keep hk2, hR, PInv.new HG.out, HF0.out, Nat.le_trans hO1.size hr1, hO2⟩
    have HT2 := Lib.hid hT2
    clear y0 y1 y2 y3 y4 y5 y6 hR hk2 hO1 HE HF0 hr1 hT2
    go_wp2_with fail
    refine (works24 _).mono ?_
    rintro e w3 ⟨rfl, hk3⟩
    have v6 := cell_only hk3 (fun h => h) u6
    have HT3 : Hid (TwinC W w3 g mo me r 0) := Lib.hid ⟨_, HT2.out.keep hk3⟩
    clear u6 HT2 hk3 hO2
    go_wp2_with fail
    clear r1 r2 q1 q2 b1 b2 e1 e2 m1 m2 o1 o2 HG
    go_loopw [9, 10] (fun nv iv wr => ∃ (k : Nat) (nw : Int), iv = .int .i64 k ∧ nv = .int .i64 nw ∧ k ≤ n ∧ k ≤ 80 ∧ 0 ≤ nw ∧ nw ≤ 1099511627776 + 1000 * k ∧ TwinC W wr g mo me r k) (fun _ i _ => 80 - (intOf i).toNat)
    case atStart => exact ⟨0, now0, rfl, rfl, by omega, by omega, n1, by omega, HT3.out⟩
    case round =>
      obtain ⟨k, nw, rfl, rfl, hkn, hk80, nw0, nw1, hTw⟩ := hrel
      have HTW := Lib.hid hTw
      clear hTw v6
      by_cases hin : k < n ∧ k < 80
      · obtain ⟨hin, hi80⟩ := hin
        obtain ⟨b, off, rfl, hbW, hat⟩ := HAT.out (by omega)
        obtain ⟨he, wk, wb, wn, wa, hts, hls⟩ := HPA.out k hin
        have hc := fun j hj => hat k hin j hj
        rw [he] at hc
        generalize pa k = x at hc wk wb wn wa hts hls
        obtain ⟨kd, by_, nn, tx, lk, le, lr, ln, la, ld, near⟩ := x
        simp only [reachB] at wk wb wn wa hts hls
        have HO : Only (fun _ => False) W wr := by obtain ⟨s, hs⟩ := HTW.out; exact hs.only
        have hcc : ∀ (j : Nat) (u : Value), (ActC.cells ⟨kd, by_, nn, tx, lk, le, lr, ln, la, ld, near⟩)[j]? = some u → wr.cell? ⟨b, off + k * 11 + j, none⟩ = some u := by
          intro j u hj
          refine cell_only HO (fun h => h) ?_
          have hj11 : j < 11 := by
            have := List.getElem?_eq_some_iff.1 hj
            obtain ⟨h1, _⟩ := this
            exact h1
          have := hc j hj11
          exact this.trans hj
        have hc0 := hcc 0 _ rfl
        have hc1 := hcc 1 _ rfl
        have hc2 := hcc 2 _ rfl
        have hc3 := hcc 3 _ rfl
        have hc4 := hcc 4 _ rfl
        have hc5 := hcc 5 _ rfl
        have hc6 := hcc 6 _ rfl
        have hc7 := hcc 7 _ rfl
        have hc8 := hcc 8 _ rfl
        have hc9 := hcc 9 _ rfl
        have hc10 := hcc 10 _ rfl
        simp only [Nat.add_zero] at hc0 hc1 hc2 hc3 hc4 hc5 hc6 hc7 hc8 hc9 hc10
        clear hcc hc he hat
        by_cases hsk : 1000 < ld.size ∨ (1000 < tx.size ∧ tx.size ≤ 4096)
        · have HTK : Hid (TwinC W wr g mo me r (k + 1)) := Lib.hid (by
            obtain ⟨s, hs⟩ := HTW.out
            exact ⟨s, hs.mono (Nat.le_succ k)⟩)
          have hs2 : decide (1000 < (ld.size : Int)) = true ∨ (decide (1000 < (ld.size : Int)) = false ∧ decide (1000 < (tx.size : Int)) = true ∧ decide ((tx.size : Int) ≤ 4096) = true) := by
            by_cases h1 : 1000 < ld.size
            · exact .inl (decide_eq_true (by omega))
            · exact .inr ⟨decide_eq_false (by omega), decide_eq_true (by omega), decide_eq_true (by omega)⟩
          clear HTW hc0 hc1 hc2 hc4 hc5 hc6 hc7 hc8 hc10 wk wb wn wa hsk
          rcases hs2 with h1 | ⟨h1, h2, h3⟩
          all_goals
            go_wp2_with fail
            go_roundw
            case rel => exact ⟨k + 1, nw, by go_num, rfl, by omega, by omega, nw0, by push_cast; omega, HTK.out⟩
            case measure => simp [intOf]; omega
        · have hs2 : decide (1000 < (ld.size : Int)) = false ∧ (decide (1000 < (tx.size : Int)) = false ∨ (decide (1000 < (tx.size : Int)) = true ∧ decide ((tx.size : Int) ≤ 4096) = false)) := by
            refine ⟨decide_eq_false (by omega), ?_⟩
            by_cases h1 : 1000 < tx.size
            · exact .inr ⟨decide_eq_true (by omega), decide_eq_false (by omega)⟩
            · exact .inl (decide_eq_false (by omega))
          obtain ⟨h0, h1⟩ := hs2
          have hldB : ld.size ≤ 1000 := by omega
          have hwn : IntKind.i64.wrap (nw + by_ % 1000) = nw + by_ % 1000 := by rw [IntKind.wrap_i64]; omega
          clear hsk
          rcases h1 with h1 | ⟨h1, h2⟩
          all_goals
            go_wp2_with fail
            refine (among_any by_ 1000 _ wb (by decide) (by decide)).mono ?_
            rintro e _ ⟨rfl, rfl⟩
            have hn0 : 0 ≤ by_ % 1000 := by omega
            have hn1 : by_ % 1000 < 1000 := by omega
            go_wp2_with fail
            refine (cstep_any W wr g mo me r k HTW.out (by omega) kd by_ nn lk le lr ln la (nw + by_ % 1000) tx ld near wk wn wa (by omega) hldB).mono ?_
            rintro e w5 ⟨rfl, hT5⟩
            obtain ⟨s, hT5⟩ := hT5
            have HT5 := Lib.hid hT5
            clear hT5 hc0 hc1 hc2 hc3 hc4 hc5 hc6 hc7 hc8 hc9 hc10
            go_wp2_with fail
            refine (heard_any w5 g mo me s HT5.out.c).mono ?_
            rintro e w6 ⟨rfl, hk6⟩
            have HT6 := Lib.hid (HT5.out.keep hk6)
            clear hk6
            go_wp2_with fail
            refine (numbers_any w6 g mo me s HT6.out.c).mono ?_
            rintro e w7 ⟨rfl, hk7⟩
            have HT7 := Lib.hid (HT6.out.keep hk7)
            clear hk7 HT6 HT5
            have HTd := Lib.hid (HT7.out.keep (Only.refl (fun _ => False) w7).drew)
            obtain ⟨wv, yv, wb8, eb8, hg8, _, _⟩ := id HT7.out.f
            have q3 := (blk_cell hg8 3).trans (show (s.rcells wv yv)[3]? = some (.int .i64 s.epoch) from rfl)
            have q7 := (blk_cell hg8 7).trans (show (s.rcells wv yv)[7]? = some (.int .i64 s.last) from rfl)
            have q8 := (blk_cell hg8 8).trans (show (s.rcells wv yv)[8]? = some (.int .i64 s.acked) from rfl)
            have q9 := (blk_cell hg8 9).trans (show (s.rcells wv yv)[9]? = some (.int .i64 s.taken) from rfl)
            have q11 := (blk_cell hg8 11).trans (show (s.rcells wv yv)[11]? = some (.int .i64 s.hat) from rfl)
            have q12 := (blk_cell hg8 12).trans (show (s.rcells wv yv)[12]? = some (.int .i64 s.hrole) from rfl)
            have q13 := (blk_cell hg8 13).trans (show (s.rcells wv yv)[13]? = some (.int .i64 s.hmark) from rfl)
            clear hg8
            go_wp2_with fail
            go_quiet ((go_at_call 32; exact Calls.quiet_of_same ((epoch_any _ g mo me s (HT7.out.c.keep ((Only.refl (fun _ => False) w7).drewN _))).mono fun _ _ x => ⟨x.1, x.2.symm⟩)))
            have HT8 := Lib.hid (HT7.out.keep ((Only.refl (fun _ => False) w7).drewN nq))
            generalize w7.drewN nq = w8 at HT8 ⊢
            clear q3 q7 q8 q9 q11 q12 q13 HT7 HTd
            go_wp2_with fail
            go_roundw
            case rel => exact ⟨k + 1, nw + by_ % 1000, by go_num, rfl, by omega, by omega, by omega, by push_cast; omega, s, HT8.out⟩
            case measure => simp [intOf]; omega
      · have hend : ¬ k < n ∨ (k < n ∧ ¬ k < 80) := by omega
        have HB : Hid (Below W.heap.size W wr) := Lib.hid (by
          obtain ⟨s, hs⟩ := HTW.out
          exact hs.only.below (Nat.le_refl _) (fun _ _ h => h))
        rcases hend with hk1 | ⟨hk1, hk2⟩
        · have hk1' : ¬ (k : Int) < (n : Int) := by omega
          clear hin
          go_wp2_with fail
          go_ret
          exact ⟨rfl, HB.out⟩
        · have hk2' : ¬ (k : Int) < 80 := by omega
          have hk1' : (k : Int) < (n : Int) := by omega
          clear hin
          go_wp2_with fail
          go_ret
          exact ⟨rfl, HB.out⟩
  · have HBAD := Lib.hid hgood
    clear hgood hx
    go_enter Try.func8, Try.ntmps8
    go_wp2_with fail
    refine (end_new_bad _ room wait beat epoch role mark now0 HBAD.out).mono ?_
    rintro e w1 ⟨rfl, hk1⟩
    have y0 := cell_only hk1 (fun h => h) z0
    have y1 := cell_only hk1 (fun h => h) z1
    have y2 := cell_only hk1 (fun h => h) z2
    have y3 := cell_only hk1 (fun h => h) z3
    have y4 := cell_only hk1 (fun h => h) z4
    have y5 := cell_only hk1 (fun h => h) z5
    have y6 := cell_only hk1 (fun h => h) z6
    have hO1 := hO.trans hk1
    clear z0 z1 z2 z3 z4 z5 z6 hk1 hO
    go_wp2_with fail
    refine (rend_new_bad w1 room wait beat epoch role mark now0 HBAD.out).mono ?_
    rintro e w2 ⟨rfl, hk2⟩
    have u6 := cell_only hk2 (fun h => h) y6
    have hO2 := hO1.trans hk2
    clear y0 y1 y2 y3 y4 y5 y6 hk2 hO1
    go_wp2_with fail
    refine (works24 _).mono ?_
    rintro e w3 ⟨rfl, hk3⟩
    have v6 := cell_only hk3 (fun h => h) u6
    have HB := Lib.hid ((hO2.trans hk3).below (Nat.le_refl _) (fun _ _ h => h))
    clear u6 hk3 hO2
    go_wp2_with fail
    refine wp_loop_rounds 1 ?_
    rw [rounds_succ]
    go_wp2_with fail
    go_ret
    exact ⟨rfl, HB.out⟩

end Go.Proofs.Yteifehienpeaiaa

/-
  The walk of the law ChannelBrings.
  No conditions.
-/
import Derived.Test.YteifehienpeaiaaDoes
import Derived.Test.YteifehienpeaiaaBringsRegs
import Derived.Test.YteifehienpeaiaaOpen

import Derived.Deep.CutBlock
import Derived.Deep.CutRange
set_option linter.unusedVariables false
set_option linter.unusedSimpArgs false
set_option maxRecDepth 100000
namespace Go.Proofs.Yteifehienpeaiaa
open Go.RowKit


theorem do_cells {cs : List Value} (h : CellsAre [.i, .i, .s, .b] cs) : ∃ x : Int × Int × ByteArray × Bool, cs = [.int .i64 x.1, .int .i64 x.2.1, .string x.2.2.1, .bool x.2.2.2] ∧ (Lit.int .i64 x.1).wf = true ∧ (Lit.int .i64 x.2.1).wf = true ∧ x.2.2.1.size ≤ reachB := by
  obtain ⟨x, _, rfl, hx, h1⟩ := h.i
  obtain ⟨y, _, rfl, hy, h2⟩ := h1.i
  obtain ⟨s, _, rfl, hs, h3⟩ := h2.s
  obtain ⟨b, _, rfl, h4⟩ := h3.b
  rw [h4.nil]
  exact ⟨(x, y, s, b), rfl, hx, hy, hs⟩

set_option maxHeartbeats 32000000 in
theorem chanBrings_walk (W : World) (ro : Int) (wro : (Lit.int .i64 ro).wf = true) (v : Value) (n : Nat) (f : Nat → List Value) (h : SlIs W [.i, .i, .s, .b] v n f) :
    Calls Try.prog 6 #[.int .i64 ro, v] W fun e W' => e = .returned (.bool true) ∧ Below W.heap.size W W' := by
  obtain ⟨⟨a, cap, rfl, hle, hat⟩, hcells, hsmall, _, _⟩ := h
  obtain ⟨pa, hpa⟩ := Deep.choose_lt (fun i hi => do_cells (hcells i hi))
  have HPA0 := Lib.hid hpa
  have HAT := Lib.hid hat
  clear hcells hpa hat
  simp only [List.length_cons, List.length_nil, reachB] at hsmall
  go_enter Try.func6, Try.ntmps6
  go_wp2_with fail
  refine (among_any ro 8 _ wro (by decide) (by decide)).mono ?_
  rintro e _ ⟨rfl, rfl⟩
  have q0 : 0 ≤ ro % 8 := by omega
  have q1 : ro % 8 < 8 := by omega
  have hwr : IntKind.i64.wrap (1 + ro % 8) = 1 + ro % 8 := by rw [IntKind.wrap_i64]; omega
  obtain ⟨R, hR⟩ : ∃ R, R = 1 + ro % 8 := ⟨_, rfl⟩
  have hR1 : 1 ≤ R ∧ R ≤ 8 := by omega
  rw [← hR] at hwr
  go_wp2_with fail
  rw [← hR]
  clear hR q0 q1
  refine (made_any W R (by omega)).mono ?_
  rintro e w1 ⟨p, g, mo, me, rv0, rfl, hp1⟩
  have HP1 := Lib.hid hp1
  clear hp1 hwr
  go_wp2_with fail
  refine (works24 _).mono ?_
  rintro e w2 ⟨rfl, hk2⟩
  have HP2 := Lib.hid (HP1.out.keep hk2)
  have HD0 := Lib.hid (DInv.new hR1)
  clear HP1 hk2
  go_upto_block 0 with fail
  go_cut [6] from 28 to 53 (fun v6 wx => ∃ (rv : Nat → Value) (S : PS), PAt W wx 6 p g mo me rv S ∧ DInv R S 100)
  case first =>
    go_wp2_with fail
    go_loopw [6] (fun iv wr => ∃ (k : Nat) (rv : Nat → Value) (S : PS), iv = .int .i64 k ∧ k ≤ n ∧ k ≤ 100 ∧ PAt W wr 6 p g mo me rv S ∧ DInv R S k) (fun iv _ => 100 - (intOf iv).toNat)
    case atStart => exact ⟨0, rv0, newPS R, rfl, by omega, by omega, HP2.out, HD0.out⟩
    case round =>
      obtain ⟨k, rv, S, rfl, hkn, hk1, hP, hD⟩ := hrel
      have HP := Lib.hid hP
      have HD := Lib.hid hD
      clear hP hD
      by_cases hin : k < n ∧ k < 100
      · obtain ⟨hin, hi100⟩ := hin
        obtain ⟨b, off, rfl, hbW, hat⟩ := HAT.out (by omega)
        obtain ⟨he, wk, wn, hts⟩ := HPA0.out k hin
        have hc0 := hat k hin 0 (by decide)
        have hc1 := hat k hin 1 (by decide)
        have hc2 := hat k hin 2 (by decide)
        have hc3 := hat k hin 3 (by decide)
        rw [he] at hc0 hc1 hc2 hc3
        simp only [List.getElem?_cons_zero, List.getElem?_cons_succ, Nat.add_zero, List.length_cons, List.length_nil, Nat.zero_add, Nat.reduceAdd] at hc0 hc1 hc2 hc3
        clear hat he
        generalize pa k = x at hc0 hc1 hc2 hc3 wk wn hts
        obtain ⟨kd, nn, tx, sec⟩ := x
        simp only [reachB] at hc0 hc1 hc2 hc3 wk wn hts
        have hO := HP.out.only
        replace hc0 := cell_only hO (fun h => h) hc0
        replace hc1 := cell_only hO (fun h => h) hc1
        replace hc2 := cell_only hO (fun h => h) hc2
        replace hc3 := cell_only hO (fun h => h) hc3
        by_cases hlen : tx.size ≤ 500
        · have d1 : decide ((tx.size : Int) ≤ 500) = true := decide_eq_true (by omega)
          clear hO
          go_wp2_with fail
          refine (does_any W wr p g mo me rv S k R kd nn tx sec wk wn hlen HP.out HD.out (by omega)).mono ?_
          rintro e w5 ⟨rv5, S5, rfl, hP5, hD5⟩
          have HP5 := Lib.hid hP5
          have HD5 := Lib.hid hD5
          clear hP5 hD5 hc0 hc1 hc2 hc3
          go_wp2_with fail
          go_roundw
          case rel => exact ⟨k + 1, rv5, S5, by go_num, by omega, by omega, HP5.out, HD5.out⟩
          case measure => simp [intOf]; omega
        · have d1 : decide ((tx.size : Int) ≤ 500) = false := decide_eq_false (by omega)
          have HDm := Lib.hid (HD.out.mono (Nat.le_succ k))
          clear hO
          go_wp2_with fail
          go_roundw
          case rel => exact ⟨k + 1, rv, S, by go_num, by omega, by omega, HP.out, HDm.out⟩
          case measure => simp [intOf]; omega
      · by_cases hkn' : k < n
        all_goals
          have HDm := Lib.hid (HD.out.mono hk1)
          go_wp2_with fail
          go_meet
          case rel => exact ⟨rv, S, HP.out, HDm.out⟩
  case rest =>
    obtain ⟨rvS, SS, hPS, hDS⟩ := hcut
    have HPS := Lib.hid hPS
    have HRS := Lib.hid (RInv.start hDS (Nat.le_refl _) hR1.2)
    clear hPS hDS HAT HPA0 HP2 HD0
    generalize wc = w3 at HPS ⊢
    go_wp2_with fail
    go_loopw [54] (fun iv wr => ∃ (k : Nat) (rv : Nat → Value) (S : PS), iv = .int .i64 k ∧ k ≤ 40 ∧ PAt W wr 6 p g mo me rv S ∧ RInv S k) (fun iv _ => 40 - (intOf iv).toNat)
    case atStart => exact ⟨0, rvS, SS, rfl, by omega, HPS.out, HRS.out⟩
    case round =>
      obtain ⟨k, rv, S, rfl, hk40, hP, hR⟩ := hrel
      have HP := Lib.hid hP
      have HR := Lib.hid hR
      clear hP hR
      by_cases hk : k < 40
      · have y8 := HP.out.cNow
        have f8 := blk_free HP.out.blk 8
        have hn0 := HR.out.pt.two.n0
        have hn1 := HR.out.now
        have hwr : IntKind.i64.wrap (S.now + 2) = S.now + 2 := by rw [IntKind.wrap_i64]; omega
        have HST := Lib.hid (HP.out.setNow (S.now + 2))
        obtain ⟨S1, hS1⟩ : ∃ S1 : PS, S1 = { S with now := S.now + 2 } := ⟨_, rfl⟩
        rw [← hS1] at HST
        have HS1 := Lib.hid hS1
        have HRN := Lib.hid (HR.out.round hk)
        have HPI0 : Hid (PInv (S1.s 0) 300) := Lib.hid (by rw [hS1]; exact HR.out.pt.two.ea.p)
        have HPI1 : Hid (PInv (S1.s 1) 300) := Lib.hid (by rw [hS1]; exact HR.out.pt.two.eb.p)
        have HLN : Hid (∀ i, i < 6 → (S1.L i).length ≤ 20000) := Lib.hid (by rw [hS1]; exact HR.out.len)
        clear hS1 hn0 hn1 HP
        go_upto_block 4 with fail
        generalize wr.setCell ⟨p, 8, none⟩ (.int .i64 (S.now + 2)) = W2 at HST ⊢
        clear y8 f8 hwr
        go_cut [7] from 63 to 91 (fun v7 wx => ∃ rv' : Nat → Value, PAt W wx 6 p g mo me rv' ((S1.tickd 0).tickd 1))
        case first =>
          go_wp2_with fail
          refine wp_loop_rounds 3 ?_
          rw [rounds_succ]
          have HPA := HST
          have hp0 := HST.out
          have HPI := HPI0
          have HOL : Hid (((S1.s 0).outs S1.now).length ≤ 65) := Lib.hid (outs_le HPI.out _)
          have HT : Hid (p2Ph W2 p (pcells g rv S1.now) false false W2.drew) := Lib.hid ⟨fun _ => (Only.refl _ W2).drew, fun _ => hp0.blk, Nat.le_refl _⟩
          obtain ⟨B, hB⟩ : ∃ B, B = W2.heap.size := ⟨_, rfl⟩
          have HBW : Hid (W2.heap.size = B) := Lib.hid hB.symm
          clear hB HST
          go_upto_region 15 with fail
          refine wp_region_phasedk_tail 25 b0tDs b0tNeed b0tGs b0tLate b0tEarly (fun L w' => p2Ph W2 p (pcells g rv S1.now) (L 20) (L 21) w') (fun i w w' => Only (p2St 20 21 (rv 1) i) w w') (b0tG W B p p g mo me rv S1 0 0 ⟨#[]⟩ false) rfl rfl (by kernel_rfl) (by kernel_rfl) (by kernel_rfl) (by kernel_rfl) (by kernel_rfl) (by kernel_rfl) HT.out b0tG.keep b0tG.guard (fun _ _ => Only.refl _ _) ?_ ?_
          · refine And.intro ?op0 (And.intro ?op1 (And.intro ?op2 (And.intro ?op3 (And.intro ?op4 (And.intro ?op5 (And.intro ?op6 (And.intro ?op7 (And.intro ?op8 (And.intro ?op9 (And.intro ?op10 (And.intro ?op11 (And.intro ?op12 (And.intro ?op13 (And.intro ?op14 (And.intro ?op15 (And.intro ?op16 (And.intro ?op17 (And.intro ?op18 (And.intro ?op19 (And.intro ?op20 (And.intro ?op21 (And.intro ?op22 (And.intro ?op23 (And.intro ?op24 trivial))))))))))))))))))))))))
            case op0 =>
              intro L ev w1 hLi hlate hearly hT1 hc hf hfr hG
              rw [if_pos (by decide)]
              have hP : p2Ph W2 p (pcells g rv S1.now) (L 20) (L 21) w1 := hT1
              have h5 : ev (.tmp 5) = .pointer (some ⟨p, 0, none⟩) := hfr 5 (by decide)
              clear hG hfr
              refine OpSays.value (v := .pointer (some ⟨p, 0, none⟩)) (w' := w1) ?_ ⟨hT1, Only.refl _ _, rfl⟩
              go_simp
            case op1 =>
              intro L ev w1 hLi hlate hearly hT1 hc hf hfr hG
              rw [if_pos (by decide)]
              have hP : p2Ph W2 p (pcells g rv S1.now) (L 20) (L 21) w1 := hT1
              have h7 : ev (.tmp 7) = .int .i64 0 := hfr 7 (by decide)
              clear hG hfr
              refine OpSays.value (v := .int .i64 0) (w' := w1) ?_ ⟨hT1, Only.refl _ _, rfl⟩
              go_simp
            case op2 =>
              intro L ev w1 hLi hlate hearly hT1 hc hf hfr hG
              rw [if_pos (by decide)]
              have hP : p2Ph W2 p (pcells g rv S1.now) (L 20) (L 21) w1 := hT1
              have hg : (ev (.tmp 67) = .int .i64 0) ∧ True := hG
              obtain ⟨g1, _⟩ := hg
              clear hG hfr
              have hw1 : IntKind.i64.wrap 1 = 1 := by decide
              have hw0 : IntKind.i64.wrap 0 = 0 := by decide
              refine OpSays.value (v := .int .i64 1) (w' := w1) ?_ ⟨hT1, Only.refl _ _, rfl⟩
              go_simp
            case op3 =>
              intro L ev w1 hLi hlate hearly hT1 hc hf hfr hG
              rw [if_pos (by decide)]
              have hP : p2Ph W2 p (pcells g rv S1.now) (L 20) (L 21) w1 := hT1
              obtain ⟨hl21, _⟩ := hlate
              rw [hl21] at hP
              have h5 : ev (.tmp 5) = .pointer (some ⟨p, 0, none⟩) := hfr 5 (by decide)
              clear hG hfr
              refine OpSays.value (v := .pointer (some ⟨p, 0, none⟩)) (w' := w1) ?_ ⟨hT1, Only.refl _ _, rfl⟩
              go_simp
            case op4 =>
              intro L ev w1 hLi hlate hearly hT1 hc hf hfr hG
              rw [if_pos (by decide)]
              have hP : p2Ph W2 p (pcells g rv S1.now) (L 20) (L 21) w1 := hT1
              obtain ⟨hl21, _⟩ := hlate
              rw [hl21] at hP
              have h7 : ev (.tmp 7) = .int .i64 0 := hfr 7 (by decide)
              clear hG hfr
              refine OpSays.value (v := .int .i64 0) (w' := w1) ?_ ⟨hT1, Only.refl _ _, rfl⟩
              go_simp
            case op5 =>
              intro L ev w1 hLi hlate hearly hT1 hc hf hfr hG
              rw [if_pos (by decide)]
              have hP : p2Ph W2 p (pcells g rv S1.now) (L 20) (L 21) w1 := hT1
              obtain ⟨hl21, _⟩ := hlate
              rw [hl21] at hP
              have hg : (ev (.tmp 70) = .int .i64 0) ∧ True := hG
              obtain ⟨g4, _⟩ := hg
              clear hG hfr
              have hw1 : IntKind.i64.wrap 1 = 1 := by decide
              have hw0 : IntKind.i64.wrap 0 = 0 := by decide
              refine OpSays.value (v := .int .i64 1) (w' := w1) ?_ ⟨hT1, Only.refl _ _, rfl⟩
              go_simp
            case op6 =>
              intro L ev w1 hLi hlate hearly hT1 hc hf hfr hG
              rw [if_pos (by decide)]
              have hP : p2Ph W2 p (pcells g rv S1.now) (L 20) (L 21) w1 := hT1
              obtain ⟨hl21, _⟩ := hlate
              rw [hl21] at hP
              have hg : (ev (.tmp 69) = .pointer (some ⟨p, 0, none⟩)) ∧ True := hG
              obtain ⟨g3, _⟩ := hg
              clear hG hfr
              refine OpSays.value (v := .pointer (some ⟨p, 0, none⟩)) (w' := w1) ?_ ⟨hT1, Only.refl _ _, rfl⟩
              go_simp
            case op7 =>
              intro L ev w1 hLi hlate hearly hT1 hc hf hfr hG
              rw [if_pos (by decide)]
              have hP : p2Ph W2 p (pcells g rv S1.now) (L 20) (L 21) w1 := hT1
              obtain ⟨hl21, _⟩ := hlate
              rw [hl21] at hP
              have hg : (ev (.tmp 72) = .pointer (some ⟨p, 0, none⟩)) ∧ True := hG
              obtain ⟨g6, _⟩ := hg
              clear hG hfr
              refine OpSays.value (v := .pointer (some ⟨p, 2, none⟩)) (w' := w1) ?_ ⟨hT1, Only.refl _ _, rfl⟩
              go_simp
            case op8 =>
              intro L ev w1 hLi hlate hearly hT1 hc hf hfr hG
              rw [if_pos (by decide)]
              have hP : p2Ph W2 p (pcells g rv S1.now) (L 20) (L 21) w1 := hT1
              obtain ⟨hl21, _⟩ := hlate
              rw [hl21] at hP
              have hg : (ev (.tmp 71) = .int .i64 1) ∧ (ev (.tmp 73) = .pointer (some ⟨p, 2, none⟩)) ∧ True := hG
              obtain ⟨g5, g7, _⟩ := hg
              clear hG hfr
              refine OpSays.value (v := .pointer (some ⟨p, 3, none⟩)) (w' := w1) ?_ ⟨hT1, Only.refl _ _, rfl⟩
              go_simp
            case op9 =>
              intro L ev w1 hLi hlate hearly hT1 hc hf hfr hG
              rw [if_pos (by decide)]
              have hP : p2Ph W2 p (pcells g rv S1.now) (L 20) (L 21) w1 := hT1
              obtain ⟨hl21, _⟩ := hlate
              rw [hl21] at hP
              have hg : (ev (.tmp 74) = .pointer (some ⟨p, 3, none⟩)) ∧ True := hG
              obtain ⟨g8, _⟩ := hg
              clear hG hfr
              have c : w1.cell? ⟨p, 3, none⟩ = some (rv 1) := (blk_cell (hP.2.1 rfl) 3).trans rfl
              refine OpSays.value (v := rv 1) (w' := w1) ?_ ⟨hT1, Only.refl _ _, rfl⟩
              go_simp
            case op10 =>
              intro L ev w1 hLi hlate hearly hT1 hc hf hfr hG
              rw [if_pos (by decide)]
              have hP : p2Ph W2 p (pcells g rv S1.now) (L 20) (L 21) w1 := hT1
              obtain ⟨hl20, hl21, _⟩ := hlate
              rw [hl20] at hP
              rw [hl21] at hP
              have h5 : ev (.tmp 5) = .pointer (some ⟨p, 0, none⟩) := hfr 5 (by decide)
              clear hG hfr
              refine OpSays.value (v := .pointer (some ⟨p, 0, none⟩)) (w' := w1) ?_ ⟨hT1, Only.refl _ _, rfl⟩
              go_simp
            case op11 =>
              intro L ev w1 hLi hlate hearly hT1 hc hf hfr hG
              rw [if_pos (by decide)]
              have hP : p2Ph W2 p (pcells g rv S1.now) (L 20) (L 21) w1 := hT1
              obtain ⟨hl20, hl21, _⟩ := hlate
              rw [hl20] at hP
              rw [hl21] at hP
              have h7 : ev (.tmp 7) = .int .i64 0 := hfr 7 (by decide)
              clear hG hfr
              refine OpSays.value (v := .int .i64 0) (w' := w1) ?_ ⟨hT1, Only.refl _ _, rfl⟩
              go_simp
            case op12 =>
              intro L ev w1 hLi hlate hearly hT1 hc hf hfr hG
              rw [if_pos (by decide)]
              have hP : p2Ph W2 p (pcells g rv S1.now) (L 20) (L 21) w1 := hT1
              obtain ⟨hl20, hl21, _⟩ := hlate
              rw [hl20] at hP
              rw [hl21] at hP
              have hg : (ev (.tmp 76) = .pointer (some ⟨p, 0, none⟩)) ∧ True := hG
              obtain ⟨g10, _⟩ := hg
              clear hG hfr
              refine OpSays.value (v := .pointer (some ⟨p, 0, none⟩)) (w' := w1) ?_ ⟨hT1, Only.refl _ _, rfl⟩
              go_simp
            case op13 =>
              intro L ev w1 hLi hlate hearly hT1 hc hf hfr hG
              rw [if_pos (by decide)]
              have hP : p2Ph W2 p (pcells g rv S1.now) (L 20) (L 21) w1 := hT1
              obtain ⟨hl20, hl21, _⟩ := hlate
              rw [hl20] at hP
              rw [hl21] at hP
              have hg : (ev (.tmp 78) = .pointer (some ⟨p, 0, none⟩)) ∧ True := hG
              obtain ⟨g12, _⟩ := hg
              clear hG hfr
              refine OpSays.value (v := .pointer (some ⟨p, 0, none⟩)) (w' := w1) ?_ ⟨hT1, Only.refl _ _, rfl⟩
              go_simp
            case op14 =>
              intro L ev w1 hLi hlate hearly hT1 hc hf hfr hG
              rw [if_pos (by decide)]
              have hP : p2Ph W2 p (pcells g rv S1.now) (L 20) (L 21) w1 := hT1
              obtain ⟨hl20, hl21, _⟩ := hlate
              rw [hl20] at hP
              rw [hl21] at hP
              have hg : (ev (.tmp 77) = .int .i64 0) ∧ (ev (.tmp 79) = .pointer (some ⟨p, 0, none⟩)) ∧ True := hG
              obtain ⟨g11, g13, _⟩ := hg
              clear hG hfr
              refine OpSays.value (v := .pointer (some ⟨p, 0, none⟩)) (w' := w1) ?_ ⟨hT1, Only.refl _ _, rfl⟩
              go_simp
            case op15 =>
              intro L ev w1 hLi hlate hearly hT1 hc hf hfr hG
              rw [if_pos (by decide)]
              have hP : p2Ph W2 p (pcells g rv S1.now) (L 20) (L 21) w1 := hT1
              obtain ⟨hl20, hl21, _⟩ := hlate
              rw [hl20] at hP
              rw [hl21] at hP
              have hg : (ev (.tmp 80) = .pointer (some ⟨p, 0, none⟩)) ∧ True := hG
              obtain ⟨g14, _⟩ := hg
              clear hG hfr
              have c : w1.cell? ⟨p, 0, none⟩ = some (.pointer (some ⟨g 0, 0, none⟩)) := (blk_cell (hP.2.1 rfl) 0).trans rfl
              refine OpSays.value (v := .pointer (some ⟨g 0, 0, none⟩)) (w' := w1) ?_ ⟨hT1, Only.refl _ _, rfl⟩
              go_simp
            case op16 =>
              intro L ev w1 hLi hlate hearly hT1 hc hf hfr hG
              rw [if_pos (by decide)]
              have hP : p2Ph W2 p (pcells g rv S1.now) (L 20) (L 21) w1 := hT1
              obtain ⟨hl20, hl21, _⟩ := hlate
              rw [hl20] at hP
              rw [hl21] at hP
              have h5 : ev (.tmp 5) = .pointer (some ⟨p, 0, none⟩) := hfr 5 (by decide)
              clear hG hfr
              refine OpSays.value (v := .pointer (some ⟨p, 0, none⟩)) (w' := w1) ?_ ⟨hT1, Only.refl _ _, rfl⟩
              go_simp
            case op17 =>
              intro L ev w1 hLi hlate hearly hT1 hc hf hfr hG
              rw [if_pos (by decide)]
              have hP : p2Ph W2 p (pcells g rv S1.now) (L 20) (L 21) w1 := hT1
              obtain ⟨hl20, hl21, _⟩ := hlate
              rw [hl20] at hP
              rw [hl21] at hP
              have hg : (ev (.tmp 82) = .pointer (some ⟨p, 0, none⟩)) ∧ True := hG
              obtain ⟨g16, _⟩ := hg
              clear hG hfr
              refine OpSays.value (v := .pointer (some ⟨p, 0, none⟩)) (w' := w1) ?_ ⟨hT1, Only.refl _ _, rfl⟩
              go_simp
            case op18 =>
              intro L ev w1 hLi hlate hearly hT1 hc hf hfr hG
              rw [if_pos (by decide)]
              have hP : p2Ph W2 p (pcells g rv S1.now) (L 20) (L 21) w1 := hT1
              obtain ⟨hl20, hl21, _⟩ := hlate
              rw [hl20] at hP
              rw [hl21] at hP
              have hg : (ev (.tmp 83) = .pointer (some ⟨p, 0, none⟩)) ∧ True := hG
              obtain ⟨g17, _⟩ := hg
              clear hG hfr
              refine OpSays.value (v := .pointer (some ⟨p, 8, none⟩)) (w' := w1) ?_ ⟨hT1, Only.refl _ _, rfl⟩
              go_simp
            case op19 =>
              intro L ev w1 hLi hlate hearly hT1 hc hf hfr hG
              rw [if_pos (by decide)]
              have hP : p2Ph W2 p (pcells g rv S1.now) (L 20) (L 21) w1 := hT1
              obtain ⟨hl20, hl21, _⟩ := hlate
              rw [hl20] at hP
              rw [hl21] at hP
              have hg : (ev (.tmp 84) = .pointer (some ⟨p, 8, none⟩)) ∧ True := hG
              obtain ⟨g18, _⟩ := hg
              clear hG hfr
              have c : w1.cell? ⟨p, 8, none⟩ = some (.int .i64 S1.now) := (blk_cell (hP.2.1 rfl) 8).trans rfl
              refine OpSays.value (v := .int .i64 S1.now) (w' := w1) ?_ ⟨hT1, Only.refl _ _, rfl⟩
              go_simp
            case op20 =>
              intro L ev w1 hLi hlate hearly hT1 hc hf hfr hG
              rw [if_pos (by decide)]
              have hP : p2Ph W2 p (pcells g rv S1.now) (L 20) (L 21) w1 := hT1
              obtain ⟨hl21, _⟩ := hlate
              rw [hLi] at hP
              rw [hl21] at hP
              change OpSays _ _ _ _ (fun v w' => p2Ph W2 p (pcells g rv S1.now) (true) (L 21) w' ∧ _ ∧ _)
              rw [hl21]
              have hg : (ev (.tmp 81) = .pointer (some ⟨g 0, 0, none⟩)) ∧ (ev (.tmp 85) = .int .i64 S1.now) ∧ True := hG
              obtain ⟨g15, g19, _⟩ := hg
              clear hG hfr
              have hpa := HPA.out.keep (hP.1 rfl)
              refine OpSays.enter (f := 22) (args := #[.pointer (some ⟨g 0, 0, none⟩), .int .i64 S1.now]) (w' := w1) ?_ ?_
              · go_simp
              · refine (pair_tick hpa (by decide) HPI.out).mono ?_
                rintro e' w2 ⟨v, rfl, hrow, hpa2, hk⟩
                exact ⟨v, rfl, ⟨fun e => (by cases e), fun _ => hpa2.blk, Nat.le_trans hP.2.2 hk.size⟩, hk.mono (fun _ _ _ => .inl rfl), World.ownsRow.mono hrow (by have := hP.2.2; have := HBW.out; omega), fun b hb => by have := ((HPA.out.rows 1 (by decide) (by decide)).lt b hb).2; have := HBW.out; omega, fun _ => hpa2⟩
            case op21 =>
              intro L ev w1 hLi hlate hearly hT1 hc hf hfr hG
              rw [if_pos (by decide)]
              have hP : p2Ph W2 p (pcells g rv S1.now) (L 20) (L 21) w1 := hT1
              obtain ⟨he20, _⟩ := hearly
              rw [he20] at hP
              rw [hLi] at hP
              change OpSays _ _ _ _ (fun v w' => p2Ph W2 p (pcells g rv S1.now) (L 20) (true) w' ∧ _ ∧ _)
              rw [he20]
              have hg : (ev (.tmp 75) = rv 1) ∧ (w1.ownsRow B 9 1 (ev (.tmp 86)) ((S1.s 0).outs S1.now).length (((S1.s 0).outs S1.now).map Value.string) ∧ (∀ b, (rv 1).ownBlock = some b → b < B) ∧ (L 21 = false → PAt W w1 6 p g mo me rv { S1 with s := put S1.s 0 ((S1.s 0).ticks S1.now) })) ∧ True := hG
              obtain ⟨g9, g20, _⟩ := hg
              clear hG hfr
              obtain ⟨hrow, hlt, hpa⟩ := g20
              have hpa := hpa hLi
              obtain ⟨v2, w2, hr, h1, h2, h3⟩ := append_texts w1 43 W.heap.size _ _ (S1.L 1) ((S1.s 0).outs S1.now) (hpa.rows 1 (by decide) (by decide)) (row_src hrow) hpa.only.size (by have := HLN.out 1 (by decide); have := HOL.out; omega)
              refine OpSays.value (v := v2) (w' := w2) ?_ ⟨⟨fun e => (by cases e), fun e => (by cases e), Nat.le_trans hP.2.2 (Only.of_grown h2).size⟩, (Only.of_grown h2).mono (fun _ _ e => .inr ⟨rfl, e⟩), h1, fun b hb => (h3 b hb).imp id (fun h => by have := hP.2.2; have := HBW.out; omega), (by first | rfl | exact he20 | simp [upd, he20]), hpa.grown (by decide) h2⟩
              unfold execOp
              simp only [resolve, invoke, builtin, Sem.run_bind, Sem.run_pure, Result.andThen_ok, List.map_toArray, List.map_cons, List.map_nil, g9, hr]
            case op22 =>
              intro L ev w1 hLi hlate hearly hT1 hc hf hfr hG
              rw [if_pos (by decide)]
              have hP : p2Ph W2 p (pcells g rv S1.now) (L 20) (L 21) w1 := hT1
              have hg : (ev (.tmp 66) = .pointer (some ⟨p, 0, none⟩)) ∧ True := hG
              obtain ⟨g0, _⟩ := hg
              clear hG hfr
              refine OpSays.value (v := .pointer (some ⟨p, 0, none⟩)) (w' := w1) ?_ ⟨hT1, Only.refl _ _, rfl⟩
              go_simp
            case op23 =>
              intro L ev w1 hLi hlate hearly hT1 hc hf hfr hG
              rw [if_pos (by decide)]
              have hP : p2Ph W2 p (pcells g rv S1.now) (L 20) (L 21) w1 := hT1
              have hg : (ev (.tmp 88) = .pointer (some ⟨p, 0, none⟩)) ∧ True := hG
              obtain ⟨g22, _⟩ := hg
              clear hG hfr
              refine OpSays.value (v := .pointer (some ⟨p, 2, none⟩)) (w' := w1) ?_ ⟨hT1, Only.refl _ _, rfl⟩
              go_simp
            case op24 =>
              intro L ev w1 hLi hlate hearly hT1 hc hf hfr hG
              rw [if_pos (by decide)]
              have hP : p2Ph W2 p (pcells g rv S1.now) (L 20) (L 21) w1 := hT1
              have hg : (ev (.tmp 68) = .int .i64 1) ∧ (ev (.tmp 89) = .pointer (some ⟨p, 2, none⟩)) ∧ True := hG
              obtain ⟨g2, g23, _⟩ := hg
              clear hG hfr
              refine OpSays.value (v := .pointer (some ⟨p, 3, none⟩)) (w' := w1) ?_ ⟨hT1, Only.refl _ _, rfl⟩
              go_simp
          rintro L ⟨tm, df⟩ w3 hL hT1 hsz hdf hfr hG
          have hPE : p2Ph W2 p (pcells g rv S1.now) (true) (true) w3 := by
            have hP : p2Ph W2 p (pcells g rv S1.now) (L 20) (L 21) w3 := hT1
            have hm := fun k (hk : k ∈ List.range 25) => AllB.get hL k hk
            rw [hm 20 (by decide)] at hP
            rw [hm 21 (by decide)] at hP
            exact hP
          clear hT1 hL
          have k0 : tm.getD 0 undef = Value.int IntKind.i64 ro := hfr 0 (by decide)
          have k1 : tm.getD 1 undef = Value.slice a n cap := hfr 1 (by decide)
          have k2 : tm.getD 2 undef = undef := hfr 2 (by decide)
          have k3 : tm.getD 3 undef = undef := hfr 3 (by decide)
          have k4 : tm.getD 4 undef = u4 := hfr 4 (by decide)
          have k5 : tm.getD 5 undef = .pointer (some ⟨p, 0, none⟩) := hfr 5 (by decide)
          have k6 : tm.getD 6 undef = u6 := hfr 6 (by decide)
          have k8 : tm.getD 8 undef = u8 := hfr 8 (by decide)
          have k9 : tm.getD 9 undef = u9 := hfr 9 (by decide)
          have k10 : tm.getD 10 undef = undef := hfr 10 (by decide)
          have k11 : tm.getD 11 undef = u11 := hfr 11 (by decide)
          have k12 : tm.getD 12 undef = u12 := hfr 12 (by decide)
          have k13 : tm.getD 13 undef = u13 := hfr 13 (by decide)
          have k14 : tm.getD 14 undef = undef := hfr 14 (by decide)
          have k15 : tm.getD 15 undef = undef := hfr 15 (by decide)
          have k16 : tm.getD 16 undef = undef := hfr 16 (by decide)
          have k17 : tm.getD 17 undef = undef := hfr 17 (by decide)
          have k18 : tm.getD 18 undef = Value.int IntKind.i64 ro := hfr 18 (by decide)
          have k19 : tm.getD 19 undef = Value.int IntKind.i64 (ro % 8) := hfr 19 (by decide)
          have k20 : tm.getD 20 undef = Value.int IntKind.i64 R := hfr 20 (by decide)
          have k21 : tm.getD 21 undef = Value.pointer (some { block := p, off := 0 }) := hfr 21 (by decide)
          have k22 : tm.getD 22 undef = Value.pointer (some { block := p, off := 0 }) := hfr 22 (by decide)
          have k23 : tm.getD 23 undef = Value.bool false := hfr 23 (by decide)
          have k24 : tm.getD 24 undef = Value.bool false := hfr 24 (by decide)
          have k25 : tm.getD 25 undef = Value.bool true := hfr 25 (by decide)
          have k26 : tm.getD 26 undef = Value.bool false := hfr 26 (by decide)
          have k27 : tm.getD 27 undef = Value.bool false := hfr 27 (by decide)
          have k28 : tm.getD 28 undef = u28 := hfr 28 (by decide)
          have k29 : tm.getD 29 undef = u29 := hfr 29 (by decide)
          have k30 : tm.getD 30 undef = u30 := hfr 30 (by decide)
          have k31 : tm.getD 31 undef = u31 := hfr 31 (by decide)
          have k32 : tm.getD 32 undef = u32 := hfr 32 (by decide)
          have k33 : tm.getD 33 undef = u33 := hfr 33 (by decide)
          have k34 : tm.getD 34 undef = u34 := hfr 34 (by decide)
          have k35 : tm.getD 35 undef = u35 := hfr 35 (by decide)
          have k36 : tm.getD 36 undef = u36 := hfr 36 (by decide)
          have k37 : tm.getD 37 undef = u37 := hfr 37 (by decide)
          have k38 : tm.getD 38 undef = u38 := hfr 38 (by decide)
          have k39 : tm.getD 39 undef = u39 := hfr 39 (by decide)
          have k40 : tm.getD 40 undef = u40 := hfr 40 (by decide)
          have k41 : tm.getD 41 undef = u41 := hfr 41 (by decide)
          have k42 : tm.getD 42 undef = u42 := hfr 42 (by decide)
          have k43 : tm.getD 43 undef = u43 := hfr 43 (by decide)
          have k44 : tm.getD 44 undef = u44 := hfr 44 (by decide)
          have k45 : tm.getD 45 undef = u45 := hfr 45 (by decide)
          have k46 : tm.getD 46 undef = u46 := hfr 46 (by decide)
          have k47 : tm.getD 47 undef = u47 := hfr 47 (by decide)
          have k48 : tm.getD 48 undef = u48 := hfr 48 (by decide)
          have k49 : tm.getD 49 undef = u49 := hfr 49 (by decide)
          have k50 : tm.getD 50 undef = u50 := hfr 50 (by decide)
          have k51 : tm.getD 51 undef = u51 := hfr 51 (by decide)
          have k52 : tm.getD 52 undef = u52 := hfr 52 (by decide)
          have k53 : tm.getD 53 undef = u53 := hfr 53 (by decide)
          have k54 : tm.getD 54 undef = Value.int IntKind.i64 (k : Int) := hfr 54 (by decide)
          have k55 : tm.getD 55 undef = Value.bool (decide ((k : Int) < 40)) := hfr 55 (by decide)
          have k56 : tm.getD 56 undef = Value.pointer (some { block := p, off := 0 }) := hfr 56 (by decide)
          have k57 : tm.getD 57 undef = Value.pointer (some { block := p, off := 0 }) := hfr 57 (by decide)
          have k58 : tm.getD 58 undef = Value.pointer (some { block := p, off := 8 }) := hfr 58 (by decide)
          have k59 : tm.getD 59 undef = Value.int IntKind.i64 S.now := hfr 59 (by decide)
          have k60 : tm.getD 60 undef = Value.int IntKind.i64 (S.now + 2) := hfr 60 (by decide)
          have k61 : tm.getD 61 undef = Value.pointer (some { block := p, off := 0 }) := hfr 61 (by decide)
          have k62 : tm.getD 62 undef = Value.pointer (some { block := p, off := 8 }) := hfr 62 (by decide)
          have k92 : tm.getD 92 undef = u92 := hfr 92 (by decide)
          have k93 : tm.getD 93 undef = u93 := hfr 93 (by decide)
          have k94 : tm.getD 94 undef = u94 := hfr 94 (by decide)
          have k95 : tm.getD 95 undef = u95 := hfr 95 (by decide)
          have k96 : tm.getD 96 undef = u96 := hfr 96 (by decide)
          have k97 : tm.getD 97 undef = u97 := hfr 97 (by decide)
          have k98 : tm.getD 98 undef = u98 := hfr 98 (by decide)
          have k99 : tm.getD 99 undef = u99 := hfr 99 (by decide)
          have k100 : tm.getD 100 undef = u100 := hfr 100 (by decide)
          have k101 : tm.getD 101 undef = u101 := hfr 101 (by decide)
          have k102 : tm.getD 102 undef = u102 := hfr 102 (by decide)
          have k103 : tm.getD 103 undef = u103 := hfr 103 (by decide)
          have k104 : tm.getD 104 undef = u104 := hfr 104 (by decide)
          have k105 : tm.getD 105 undef = u105 := hfr 105 (by decide)
          have k106 : tm.getD 106 undef = u106 := hfr 106 (by decide)
          have k107 : tm.getD 107 undef = u107 := hfr 107 (by decide)
          have k108 : tm.getD 108 undef = u108 := hfr 108 (by decide)
          have k109 : tm.getD 109 undef = u109 := hfr 109 (by decide)
          have k110 : tm.getD 110 undef = u110 := hfr 110 (by decide)
          have k111 : tm.getD 111 undef = u111 := hfr 111 (by decide)
          have k112 : tm.getD 112 undef = u112 := hfr 112 (by decide)
          have k113 : tm.getD 113 undef = u113 := hfr 113 (by decide)
          have k114 : tm.getD 114 undef = u114 := hfr 114 (by decide)
          have k115 : tm.getD 115 undef = u115 := hfr 115 (by decide)
          have k116 : tm.getD 116 undef = u116 := hfr 116 (by decide)
          have k117 : tm.getD 117 undef = u117 := hfr 117 (by decide)
          have k118 : tm.getD 118 undef = u118 := hfr 118 (by decide)
          have k119 : tm.getD 119 undef = u119 := hfr 119 (by decide)
          have k120 : tm.getD 120 undef = u120 := hfr 120 (by decide)
          have k121 : tm.getD 121 undef = u121 := hfr 121 (by decide)
          have k122 : tm.getD 122 undef = u122 := hfr 122 (by decide)
          have k123 : tm.getD 123 undef = u123 := hfr 123 (by decide)
          have k124 : tm.getD 124 undef = u124 := hfr 124 (by decide)
          have k125 : tm.getD 125 undef = u125 := hfr 125 (by decide)
          have k126 : tm.getD 126 undef = u126 := hfr 126 (by decide)
          have k127 : tm.getD 127 undef = u127 := hfr 127 (by decide)
          have k128 : tm.getD 128 undef = u128 := hfr 128 (by decide)
          have k129 : tm.getD 129 undef = u129 := hfr 129 (by decide)
          have k130 : tm.getD 130 undef = u130 := hfr 130 (by decide)
          have k131 : tm.getD 131 undef = u131 := hfr 131 (by decide)
          have k132 : tm.getD 132 undef = u132 := hfr 132 (by decide)
          have k133 : tm.getD 133 undef = u133 := hfr 133 (by decide)
          have k134 : tm.getD 134 undef = u134 := hfr 134 (by decide)
          have k135 : tm.getD 135 undef = u135 := hfr 135 (by decide)
          have k136 : tm.getD 136 undef = u136 := hfr 136 (by decide)
          have k137 : tm.getD 137 undef = u137 := hfr 137 (by decide)
          have k138 : tm.getD 138 undef = u138 := hfr 138 (by decide)
          have k139 : tm.getD 139 undef = u139 := hfr 139 (by decide)
          have k140 : tm.getD 140 undef = u140 := hfr 140 (by decide)
          have k141 : tm.getD 141 undef = u141 := hfr 141 (by decide)
          have k142 : tm.getD 142 undef = u142 := hfr 142 (by decide)
          have k143 : tm.getD 143 undef = undef := hfr 143 (by decide)
          have k144 : tm.getD 144 undef = undef := hfr 144 (by decide)
          have k145 : tm.getD 145 undef = undef := hfr 145 (by decide)
          have k146 : tm.getD 146 undef = undef := hfr 146 (by decide)
          have k147 : tm.getD 147 undef = undef := hfr 147 (by decide)
          have k148 : tm.getD 148 undef = undef := hfr 148 (by decide)
          have k149 : tm.getD 149 undef = undef := hfr 149 (by decide)
          have k150 : tm.getD 150 undef = undef := hfr 150 (by decide)
          have k151 : tm.getD 151 undef = undef := hfr 151 (by decide)
          have k152 : tm.getD 152 undef = undef := hfr 152 (by decide)
          have k153 : tm.getD 153 undef = undef := hfr 153 (by decide)
          have k154 : tm.getD 154 undef = undef := hfr 154 (by decide)
          have k155 : tm.getD 155 undef = undef := hfr 155 (by decide)
          have k156 : tm.getD 156 undef = undef := hfr 156 (by decide)
          have k157 : tm.getD 157 undef = undef := hfr 157 (by decide)
          have k158 : tm.getD 158 undef = undef := hfr 158 (by decide)
          have k159 : tm.getD 159 undef = undef := hfr 159 (by decide)
          have k160 : tm.getD 160 undef = undef := hfr 160 (by decide)
          have k161 : tm.getD 161 undef = undef := hfr 161 (by decide)
          have k162 : tm.getD 162 undef = undef := hfr 162 (by decide)
          have k163 : tm.getD 163 undef = undef := hfr 163 (by decide)
          have k164 : tm.getD 164 undef = undef := hfr 164 (by decide)
          have k165 : tm.getD 165 undef = undef := hfr 165 (by decide)
          have k166 : tm.getD 166 undef = undef := hfr 166 (by decide)
          have k167 : tm.getD 167 undef = undef := hfr 167 (by decide)
          have k168 : tm.getD 168 undef = undef := hfr 168 (by decide)
          have k169 : tm.getD 169 undef = undef := hfr 169 (by decide)
          have k170 : tm.getD 170 undef = undef := hfr 170 (by decide)
          have k171 : tm.getD 171 undef = undef := hfr 171 (by decide)
          have k172 : tm.getD 172 undef = undef := hfr 172 (by decide)
          have k173 : tm.getD 173 undef = undef := hfr 173 (by decide)
          have k174 : tm.getD 174 undef = undef := hfr 174 (by decide)
          have k175 : tm.getD 175 undef = undef := hfr 175 (by decide)
          have k176 : tm.getD 176 undef = undef := hfr 176 (by decide)
          have k177 : tm.getD 177 undef = undef := hfr 177 (by decide)
          have k178 : tm.getD 178 undef = undef := hfr 178 (by decide)
          have k179 : tm.getD 179 undef = undef := hfr 179 (by decide)
          have k180 : tm.getD 180 undef = undef := hfr 180 (by decide)
          have k181 : tm.getD 181 undef = undef := hfr 181 (by decide)
          have k182 : tm.getD 182 undef = undef := hfr 182 (by decide)
          have k183 : tm.getD 183 undef = undef := hfr 183 (by decide)
          have k184 : tm.getD 184 undef = undef := hfr 184 (by decide)
          have k185 : tm.getD 185 undef = undef := hfr 185 (by decide)
          have k186 : tm.getD 186 undef = undef := hfr 186 (by decide)
          have k187 : tm.getD 187 undef = undef := hfr 187 (by decide)
          have k188 : tm.getD 188 undef = undef := hfr 188 (by decide)
          have k189 : tm.getD 189 undef = undef := hfr 189 (by decide)
          have k190 : tm.getD 190 undef = undef := hfr 190 (by decide)
          have k191 : tm.getD 191 undef = undef := hfr 191 (by decide)
          have k192 : tm.getD 192 undef = undef := hfr 192 (by decide)
          have k193 : tm.getD 193 undef = undef := hfr 193 (by decide)
          have k194 : tm.getD 194 undef = undef := hfr 194 (by decide)
          have k195 : tm.getD 195 undef = undef := hfr 195 (by decide)
          have k196 : tm.getD 196 undef = undef := hfr 196 (by decide)
          have k197 : tm.getD 197 undef = undef := hfr 197 (by decide)
          have k198 : tm.getD 198 undef = undef := hfr 198 (by decide)
          have k199 : tm.getD 199 undef = undef := hfr 199 (by decide)
          have k200 : tm.getD 200 undef = undef := hfr 200 (by decide)
          have k201 : tm.getD 201 undef = undef := hfr 201 (by decide)
          have k202 : tm.getD 202 undef = undef := hfr 202 (by decide)
          have k203 : tm.getD 203 undef = undef := hfr 203 (by decide)
          have k204 : tm.getD 204 undef = undef := hfr 204 (by decide)
          have k205 : tm.getD 205 undef = undef := hfr 205 (by decide)
          have k206 : tm.getD 206 undef = undef := hfr 206 (by decide)
          have k207 : tm.getD 207 undef = undef := hfr 207 (by decide)
          have k208 : tm.getD 208 undef = undef := hfr 208 (by decide)
          have k209 : tm.getD 209 undef = undef := hfr 209 (by decide)
          have k210 : tm.getD 210 undef = undef := hfr 210 (by decide)
          have k211 : tm.getD 211 undef = undef := hfr 211 (by decide)
          have k212 : tm.getD 212 undef = undef := hfr 212 (by decide)
          have k213 : tm.getD 213 undef = undef := hfr 213 (by decide)
          have k214 : tm.getD 214 undef = undef := hfr 214 (by decide)
          have k215 : tm.getD 215 undef = undef := hfr 215 (by decide)
          have k7 : tm.getD 7 undef = .int .i64 0 := hfr 7 (by decide)
          have k63 : tm.getD 63 undef = .int .i64 0 := hfr 63 (by decide)
          have k90 : tm.getD 90 undef = .pointer (some ⟨p, 3, none⟩) := AllG.get hG 24 (by decide)
          obtain ⟨hrow, hob, _, hpx⟩ : w3.ownsRow W.heap.size 9 1 (tm.getD 87 undef) (S1.L 1 ++ (S1.s 0).outs S1.now).length ((S1.L 1 ++ (S1.s 0).outs S1.now).map Value.string) ∧ (∀ b, (tm.getD 87 undef).ownBlock = some b → (rv 1).ownBlock = some b ∨ B ≤ b) ∧ _ ∧ PAt W w3 1 p g mo me rv { S1 with s := put S1.s 0 ((S1.s 0).ticks S1.now) } := AllG.get hG 21 (by decide)
          have he : tm = #[tm.getD 0 undef, tm.getD 1 undef, tm.getD 2 undef, tm.getD 3 undef, tm.getD 4 undef, tm.getD 5 undef, tm.getD 6 undef, tm.getD 7 undef, tm.getD 8 undef, tm.getD 9 undef, tm.getD 10 undef, tm.getD 11 undef, tm.getD 12 undef, tm.getD 13 undef, tm.getD 14 undef, tm.getD 15 undef, tm.getD 16 undef, tm.getD 17 undef, tm.getD 18 undef, tm.getD 19 undef, tm.getD 20 undef, tm.getD 21 undef, tm.getD 22 undef, tm.getD 23 undef, tm.getD 24 undef, tm.getD 25 undef, tm.getD 26 undef, tm.getD 27 undef, tm.getD 28 undef, tm.getD 29 undef, tm.getD 30 undef, tm.getD 31 undef, tm.getD 32 undef, tm.getD 33 undef, tm.getD 34 undef, tm.getD 35 undef, tm.getD 36 undef, tm.getD 37 undef, tm.getD 38 undef, tm.getD 39 undef, tm.getD 40 undef, tm.getD 41 undef, tm.getD 42 undef, tm.getD 43 undef, tm.getD 44 undef, tm.getD 45 undef, tm.getD 46 undef, tm.getD 47 undef, tm.getD 48 undef, tm.getD 49 undef, tm.getD 50 undef, tm.getD 51 undef, tm.getD 52 undef, tm.getD 53 undef, tm.getD 54 undef, tm.getD 55 undef, tm.getD 56 undef, tm.getD 57 undef, tm.getD 58 undef, tm.getD 59 undef, tm.getD 60 undef, tm.getD 61 undef, tm.getD 62 undef, tm.getD 63 undef, tm.getD 64 undef, tm.getD 65 undef, tm.getD 66 undef, tm.getD 67 undef, tm.getD 68 undef, tm.getD 69 undef, tm.getD 70 undef, tm.getD 71 undef, tm.getD 72 undef, tm.getD 73 undef, tm.getD 74 undef, tm.getD 75 undef, tm.getD 76 undef, tm.getD 77 undef, tm.getD 78 undef, tm.getD 79 undef, tm.getD 80 undef, tm.getD 81 undef, tm.getD 82 undef, tm.getD 83 undef, tm.getD 84 undef, tm.getD 85 undef, tm.getD 86 undef, tm.getD 87 undef, tm.getD 88 undef, tm.getD 89 undef, tm.getD 90 undef, tm.getD 91 undef, tm.getD 92 undef, tm.getD 93 undef, tm.getD 94 undef, tm.getD 95 undef, tm.getD 96 undef, tm.getD 97 undef, tm.getD 98 undef, tm.getD 99 undef, tm.getD 100 undef, tm.getD 101 undef, tm.getD 102 undef, tm.getD 103 undef, tm.getD 104 undef, tm.getD 105 undef, tm.getD 106 undef, tm.getD 107 undef, tm.getD 108 undef, tm.getD 109 undef, tm.getD 110 undef, tm.getD 111 undef, tm.getD 112 undef, tm.getD 113 undef, tm.getD 114 undef, tm.getD 115 undef, tm.getD 116 undef, tm.getD 117 undef, tm.getD 118 undef, tm.getD 119 undef, tm.getD 120 undef, tm.getD 121 undef, tm.getD 122 undef, tm.getD 123 undef, tm.getD 124 undef, tm.getD 125 undef, tm.getD 126 undef, tm.getD 127 undef, tm.getD 128 undef, tm.getD 129 undef, tm.getD 130 undef, tm.getD 131 undef, tm.getD 132 undef, tm.getD 133 undef, tm.getD 134 undef, tm.getD 135 undef, tm.getD 136 undef, tm.getD 137 undef, tm.getD 138 undef, tm.getD 139 undef, tm.getD 140 undef, tm.getD 141 undef, tm.getD 142 undef, tm.getD 143 undef, tm.getD 144 undef, tm.getD 145 undef, tm.getD 146 undef, tm.getD 147 undef, tm.getD 148 undef, tm.getD 149 undef, tm.getD 150 undef, tm.getD 151 undef, tm.getD 152 undef, tm.getD 153 undef, tm.getD 154 undef, tm.getD 155 undef, tm.getD 156 undef, tm.getD 157 undef, tm.getD 158 undef, tm.getD 159 undef, tm.getD 160 undef, tm.getD 161 undef, tm.getD 162 undef, tm.getD 163 undef, tm.getD 164 undef, tm.getD 165 undef, tm.getD 166 undef, tm.getD 167 undef, tm.getD 168 undef, tm.getD 169 undef, tm.getD 170 undef, tm.getD 171 undef, tm.getD 172 undef, tm.getD 173 undef, tm.getD 174 undef, tm.getD 175 undef, tm.getD 176 undef, tm.getD 177 undef, tm.getD 178 undef, tm.getD 179 undef, tm.getD 180 undef, tm.getD 181 undef, tm.getD 182 undef, tm.getD 183 undef, tm.getD 184 undef, tm.getD 185 undef, tm.getD 186 undef, tm.getD 187 undef, tm.getD 188 undef, tm.getD 189 undef, tm.getD 190 undef, tm.getD 191 undef, tm.getD 192 undef, tm.getD 193 undef, tm.getD 194 undef, tm.getD 195 undef, tm.getD 196 undef, tm.getD 197 undef, tm.getD 198 undef, tm.getD 199 undef, tm.getD 200 undef, tm.getD 201 undef, tm.getD 202 undef, tm.getD 203 undef, tm.getD 204 undef, tm.getD 205 undef, tm.getD 206 undef, tm.getD 207 undef, tm.getD 208 undef, tm.getD 209 undef, tm.getD 210 undef, tm.getD 211 undef, tm.getD 212 undef, tm.getD 213 undef, tm.getD 214 undef, tm.getD 215 undef] := arr_eta (n := 216) hsz
          replace hdf : df = [] := hdf
          subst hdf
          clear hsz hfr hG
          rw [he, k0, k1, k2, k3, k4, k5, k6, k8, k9, k10, k11, k12, k13, k14, k15, k16, k17, k18, k19, k20, k21, k22, k23, k24, k25, k26, k27, k28, k29, k30, k31, k32, k33, k34, k35, k36, k37, k38, k39, k40, k41, k42, k43, k44, k45, k46, k47, k48, k49, k50, k51, k52, k53, k54, k55, k56, k57, k58, k59, k60, k61, k62, k92, k93, k94, k95, k96, k97, k98, k99, k100, k101, k102, k103, k104, k105, k106, k107, k108, k109, k110, k111, k112, k113, k114, k115, k116, k117, k118, k119, k120, k121, k122, k123, k124, k125, k126, k127, k128, k129, k130, k131, k132, k133, k134, k135, k136, k137, k138, k139, k140, k141, k142, k143, k144, k145, k146, k147, k148, k149, k150, k151, k152, k153, k154, k155, k156, k157, k158, k159, k160, k161, k162, k163, k164, k165, k166, k167, k168, k169, k170, k171, k172, k173, k174, k175, k176, k177, k178, k179, k180, k181, k182, k183, k184, k185, k186, k187, k188, k189, k190, k191, k192, k193, k194, k195, k196, k197, k198, k199, k200, k201, k202, k203, k204, k205, k206, k207, k208, k209, k210, k211, k212, k213, k214, k215, k7, k63, k90]
          clear he k0 k1 k2 k3 k4 k5 k6 k8 k9 k10 k11 k12 k13 k14 k15 k16 k17 k18 k19 k20 k21 k22 k23 k24 k25 k26 k27 k28 k29 k30 k31 k32 k33 k34 k35 k36 k37 k38 k39 k40 k41 k42 k43 k44 k45 k46 k47 k48 k49 k50 k51 k52 k53 k54 k55 k56 k57 k58 k59 k60 k61 k62 k92 k93 k94 k95 k96 k97 k98 k99 k100 k101 k102 k103 k104 k105 k106 k107 k108 k109 k110 k111 k112 k113 k114 k115 k116 k117 k118 k119 k120 k121 k122 k123 k124 k125 k126 k127 k128 k129 k130 k131 k132 k133 k134 k135 k136 k137 k138 k139 k140 k141 k142 k143 k144 k145 k146 k147 k148 k149 k150 k151 k152 k153 k154 k155 k156 k157 k158 k159 k160 k161 k162 k163 k164 k165 k166 k167 k168 k169 k170 k171 k172 k173 k174 k175 k176 k177 k178 k179 k180 k181 k182 k183 k184 k185 k186 k187 k188 k189 k190 k191 k192 k193 k194 k195 k196 k197 k198 k199 k200 k201 k202 k203 k204 k205 k206 k207 k208 k209 k210 k211 k212 k213 k214 k215 k7 k63 k90
          generalize tm.getD 64 undef = x64
          generalize tm.getD 65 undef = x65
          generalize tm.getD 66 undef = x66
          generalize tm.getD 67 undef = x67
          generalize tm.getD 68 undef = x68
          generalize tm.getD 69 undef = x69
          generalize tm.getD 70 undef = x70
          generalize tm.getD 71 undef = x71
          generalize tm.getD 72 undef = x72
          generalize tm.getD 73 undef = x73
          generalize tm.getD 74 undef = x74
          generalize tm.getD 75 undef = x75
          generalize tm.getD 76 undef = x76
          generalize tm.getD 77 undef = x77
          generalize tm.getD 78 undef = x78
          generalize tm.getD 79 undef = x79
          generalize tm.getD 80 undef = x80
          generalize tm.getD 81 undef = x81
          generalize tm.getD 82 undef = x82
          generalize tm.getD 83 undef = x83
          generalize tm.getD 84 undef = x84
          generalize tm.getD 85 undef = x85
          generalize tm.getD 86 undef = x86
          generalize tm.getD 87 undef = vw at hrow hob ⊢
          generalize tm.getD 88 undef = x88
          generalize tm.getD 89 undef = x89
          generalize tm.getD 91 undef = x91
          simp only [List.drop_succ_cons, List.drop_zero]
          clear hPE HT HPA
          obtain ⟨aw, cw, ew, _, _⟩ := row_texts hrow
          have x2 := (blk_cell hpx.blk 3).trans (show (pcells g rv S1.now)[3]? = some (rv 1) from rfl)
          have f2 := blk_free hpx.blk 3
          have hst := hp0.app HBW.out hpx (by decide) hrow hob
          clear hrow hob hpx hp0 HBW
          obtain ⟨nw, hnw⟩ : ∃ n, n = (S1.L 1 ++ (S1.s 0).outs S1.now).length := ⟨_, rfl⟩
          rw [← hnw] at ew
          clear hnw
          subst ew
          simp only [Nat.reduceAdd] at hst
          obtain ⟨rv2, hrv2⟩ : ∃ rv2, rv2 = put rv 1 (.slice aw nw cw) := ⟨_, rfl⟩
          obtain ⟨S2, hS2⟩ : ∃ S2 : PS, S2 = S1.tickd 0 := ⟨_, rfl⟩
          replace hst : PAt W (w3.setCell ⟨p, 3, none⟩ (.slice aw nw cw)) 6 p g mo me rv2 S2 := by rw [hrv2, hS2]; exact hst
          have HS2 := Lib.hid hS2
          have HST := Lib.hid hst
          clear hrv2 hst
          go_wp2_with fail
          rw [rounds_succ]
          generalize w3.setCell ⟨p, 3, none⟩ (.slice aw nw cw) = W3 at HST ⊢
          clear x2 f2
          have HLN2 : Hid (∀ i, i < 6 → (S2.L i).length ≤ 30000) := Lib.hid (fun i hi => by
            have h1 := HLN.out i hi
            rw [HS2.out]
            show (put S1.L 1 (S1.L 1 ++ (S1.s 0).outs S1.now) i).length ≤ _
            unfold put
            split
            · have := HLN.out 1 (by decide)
              have := HOL.out
              rw [List.length_append]
              omega
            · omega)
          have HPI2 : Hid (PInv (S2.s 1) 300) := Lib.hid (by rw [HS2.out]; exact HPI1.out)
          clear HLN HPI HOL hS2
          have HLN := HLN2
          have HPI := HPI2
          clear HLN2 HPI2
          have HOL : Hid (((S2.s 1).outs S2.now).length ≤ 65) := Lib.hid (outs_le HPI.out _)
          have HPA := HST
          have hp0 := HST.out
          have HT : Hid (p2Ph W3 p (pcells g rv2 S2.now) false false W3.drew) := Lib.hid ⟨fun _ => (Only.refl _ W3).drew, fun _ => hp0.blk, Nat.le_refl _⟩
          obtain ⟨B, hB⟩ : ∃ B, B = W3.heap.size := ⟨_, rfl⟩
          have HBW : Hid (W3.heap.size = B) := Lib.hid hB.symm
          clear hB HST
          go_upto_region 15 with fail
          refine wp_region_phasedk_tail 25 b1tDs b1tNeed b1tGs b1tLate b1tEarly (fun L w' => p2Ph W3 p (pcells g rv2 S2.now) (L 20) (L 21) w') (fun i w w' => Only (p2St 20 21 (rv2 0) i) w w') (b1tG W B p p g mo me rv2 S2 0 0 ⟨#[]⟩ false) rfl rfl (by kernel_rfl) (by kernel_rfl) (by kernel_rfl) (by kernel_rfl) (by kernel_rfl) (by kernel_rfl) HT.out b1tG.keep b1tG.guard (fun _ _ => Only.refl _ _) ?_ ?_
          · refine And.intro ?op0 (And.intro ?op1 (And.intro ?op2 (And.intro ?op3 (And.intro ?op4 (And.intro ?op5 (And.intro ?op6 (And.intro ?op7 (And.intro ?op8 (And.intro ?op9 (And.intro ?op10 (And.intro ?op11 (And.intro ?op12 (And.intro ?op13 (And.intro ?op14 (And.intro ?op15 (And.intro ?op16 (And.intro ?op17 (And.intro ?op18 (And.intro ?op19 (And.intro ?op20 (And.intro ?op21 (And.intro ?op22 (And.intro ?op23 (And.intro ?op24 trivial))))))))))))))))))))))))
            case op0 =>
              intro L ev w1 hLi hlate hearly hT1 hc hf hfr hG
              rw [if_pos (by decide)]
              have hP : p2Ph W3 p (pcells g rv2 S2.now) (L 20) (L 21) w1 := hT1
              have h5 : ev (.tmp 5) = .pointer (some ⟨p, 0, none⟩) := hfr 5 (by decide)
              clear hG hfr
              refine OpSays.value (v := .pointer (some ⟨p, 0, none⟩)) (w' := w1) ?_ ⟨hT1, Only.refl _ _, rfl⟩
              go_simp
            case op1 =>
              intro L ev w1 hLi hlate hearly hT1 hc hf hfr hG
              rw [if_pos (by decide)]
              have hP : p2Ph W3 p (pcells g rv2 S2.now) (L 20) (L 21) w1 := hT1
              have h7 : ev (.tmp 7) = .int .i64 1 := hfr 7 (by decide)
              clear hG hfr
              refine OpSays.value (v := .int .i64 1) (w' := w1) ?_ ⟨hT1, Only.refl _ _, rfl⟩
              go_simp
            case op2 =>
              intro L ev w1 hLi hlate hearly hT1 hc hf hfr hG
              rw [if_pos (by decide)]
              have hP : p2Ph W3 p (pcells g rv2 S2.now) (L 20) (L 21) w1 := hT1
              have hg : (ev (.tmp 67) = .int .i64 1) ∧ True := hG
              obtain ⟨g1, _⟩ := hg
              clear hG hfr
              have hw1 : IntKind.i64.wrap 1 = 1 := by decide
              have hw0 : IntKind.i64.wrap 0 = 0 := by decide
              refine OpSays.value (v := .int .i64 0) (w' := w1) ?_ ⟨hT1, Only.refl _ _, rfl⟩
              go_simp
            case op3 =>
              intro L ev w1 hLi hlate hearly hT1 hc hf hfr hG
              rw [if_pos (by decide)]
              have hP : p2Ph W3 p (pcells g rv2 S2.now) (L 20) (L 21) w1 := hT1
              obtain ⟨hl21, _⟩ := hlate
              rw [hl21] at hP
              have h5 : ev (.tmp 5) = .pointer (some ⟨p, 0, none⟩) := hfr 5 (by decide)
              clear hG hfr
              refine OpSays.value (v := .pointer (some ⟨p, 0, none⟩)) (w' := w1) ?_ ⟨hT1, Only.refl _ _, rfl⟩
              go_simp
            case op4 =>
              intro L ev w1 hLi hlate hearly hT1 hc hf hfr hG
              rw [if_pos (by decide)]
              have hP : p2Ph W3 p (pcells g rv2 S2.now) (L 20) (L 21) w1 := hT1
              obtain ⟨hl21, _⟩ := hlate
              rw [hl21] at hP
              have h7 : ev (.tmp 7) = .int .i64 1 := hfr 7 (by decide)
              clear hG hfr
              refine OpSays.value (v := .int .i64 1) (w' := w1) ?_ ⟨hT1, Only.refl _ _, rfl⟩
              go_simp
            case op5 =>
              intro L ev w1 hLi hlate hearly hT1 hc hf hfr hG
              rw [if_pos (by decide)]
              have hP : p2Ph W3 p (pcells g rv2 S2.now) (L 20) (L 21) w1 := hT1
              obtain ⟨hl21, _⟩ := hlate
              rw [hl21] at hP
              have hg : (ev (.tmp 70) = .int .i64 1) ∧ True := hG
              obtain ⟨g4, _⟩ := hg
              clear hG hfr
              have hw1 : IntKind.i64.wrap 1 = 1 := by decide
              have hw0 : IntKind.i64.wrap 0 = 0 := by decide
              refine OpSays.value (v := .int .i64 0) (w' := w1) ?_ ⟨hT1, Only.refl _ _, rfl⟩
              go_simp
            case op6 =>
              intro L ev w1 hLi hlate hearly hT1 hc hf hfr hG
              rw [if_pos (by decide)]
              have hP : p2Ph W3 p (pcells g rv2 S2.now) (L 20) (L 21) w1 := hT1
              obtain ⟨hl21, _⟩ := hlate
              rw [hl21] at hP
              have hg : (ev (.tmp 69) = .pointer (some ⟨p, 0, none⟩)) ∧ True := hG
              obtain ⟨g3, _⟩ := hg
              clear hG hfr
              refine OpSays.value (v := .pointer (some ⟨p, 0, none⟩)) (w' := w1) ?_ ⟨hT1, Only.refl _ _, rfl⟩
              go_simp
            case op7 =>
              intro L ev w1 hLi hlate hearly hT1 hc hf hfr hG
              rw [if_pos (by decide)]
              have hP : p2Ph W3 p (pcells g rv2 S2.now) (L 20) (L 21) w1 := hT1
              obtain ⟨hl21, _⟩ := hlate
              rw [hl21] at hP
              have hg : (ev (.tmp 72) = .pointer (some ⟨p, 0, none⟩)) ∧ True := hG
              obtain ⟨g6, _⟩ := hg
              clear hG hfr
              refine OpSays.value (v := .pointer (some ⟨p, 2, none⟩)) (w' := w1) ?_ ⟨hT1, Only.refl _ _, rfl⟩
              go_simp
            case op8 =>
              intro L ev w1 hLi hlate hearly hT1 hc hf hfr hG
              rw [if_pos (by decide)]
              have hP : p2Ph W3 p (pcells g rv2 S2.now) (L 20) (L 21) w1 := hT1
              obtain ⟨hl21, _⟩ := hlate
              rw [hl21] at hP
              have hg : (ev (.tmp 71) = .int .i64 0) ∧ (ev (.tmp 73) = .pointer (some ⟨p, 2, none⟩)) ∧ True := hG
              obtain ⟨g5, g7, _⟩ := hg
              clear hG hfr
              refine OpSays.value (v := .pointer (some ⟨p, 2, none⟩)) (w' := w1) ?_ ⟨hT1, Only.refl _ _, rfl⟩
              go_simp
            case op9 =>
              intro L ev w1 hLi hlate hearly hT1 hc hf hfr hG
              rw [if_pos (by decide)]
              have hP : p2Ph W3 p (pcells g rv2 S2.now) (L 20) (L 21) w1 := hT1
              obtain ⟨hl21, _⟩ := hlate
              rw [hl21] at hP
              have hg : (ev (.tmp 74) = .pointer (some ⟨p, 2, none⟩)) ∧ True := hG
              obtain ⟨g8, _⟩ := hg
              clear hG hfr
              have c : w1.cell? ⟨p, 2, none⟩ = some (rv2 0) := (blk_cell (hP.2.1 rfl) 2).trans rfl
              refine OpSays.value (v := rv2 0) (w' := w1) ?_ ⟨hT1, Only.refl _ _, rfl⟩
              go_simp
            case op10 =>
              intro L ev w1 hLi hlate hearly hT1 hc hf hfr hG
              rw [if_pos (by decide)]
              have hP : p2Ph W3 p (pcells g rv2 S2.now) (L 20) (L 21) w1 := hT1
              obtain ⟨hl20, hl21, _⟩ := hlate
              rw [hl20] at hP
              rw [hl21] at hP
              have h5 : ev (.tmp 5) = .pointer (some ⟨p, 0, none⟩) := hfr 5 (by decide)
              clear hG hfr
              refine OpSays.value (v := .pointer (some ⟨p, 0, none⟩)) (w' := w1) ?_ ⟨hT1, Only.refl _ _, rfl⟩
              go_simp
            case op11 =>
              intro L ev w1 hLi hlate hearly hT1 hc hf hfr hG
              rw [if_pos (by decide)]
              have hP : p2Ph W3 p (pcells g rv2 S2.now) (L 20) (L 21) w1 := hT1
              obtain ⟨hl20, hl21, _⟩ := hlate
              rw [hl20] at hP
              rw [hl21] at hP
              have h7 : ev (.tmp 7) = .int .i64 1 := hfr 7 (by decide)
              clear hG hfr
              refine OpSays.value (v := .int .i64 1) (w' := w1) ?_ ⟨hT1, Only.refl _ _, rfl⟩
              go_simp
            case op12 =>
              intro L ev w1 hLi hlate hearly hT1 hc hf hfr hG
              rw [if_pos (by decide)]
              have hP : p2Ph W3 p (pcells g rv2 S2.now) (L 20) (L 21) w1 := hT1
              obtain ⟨hl20, hl21, _⟩ := hlate
              rw [hl20] at hP
              rw [hl21] at hP
              have hg : (ev (.tmp 76) = .pointer (some ⟨p, 0, none⟩)) ∧ True := hG
              obtain ⟨g10, _⟩ := hg
              clear hG hfr
              refine OpSays.value (v := .pointer (some ⟨p, 0, none⟩)) (w' := w1) ?_ ⟨hT1, Only.refl _ _, rfl⟩
              go_simp
            case op13 =>
              intro L ev w1 hLi hlate hearly hT1 hc hf hfr hG
              rw [if_pos (by decide)]
              have hP : p2Ph W3 p (pcells g rv2 S2.now) (L 20) (L 21) w1 := hT1
              obtain ⟨hl20, hl21, _⟩ := hlate
              rw [hl20] at hP
              rw [hl21] at hP
              have hg : (ev (.tmp 78) = .pointer (some ⟨p, 0, none⟩)) ∧ True := hG
              obtain ⟨g12, _⟩ := hg
              clear hG hfr
              refine OpSays.value (v := .pointer (some ⟨p, 0, none⟩)) (w' := w1) ?_ ⟨hT1, Only.refl _ _, rfl⟩
              go_simp
            case op14 =>
              intro L ev w1 hLi hlate hearly hT1 hc hf hfr hG
              rw [if_pos (by decide)]
              have hP : p2Ph W3 p (pcells g rv2 S2.now) (L 20) (L 21) w1 := hT1
              obtain ⟨hl20, hl21, _⟩ := hlate
              rw [hl20] at hP
              rw [hl21] at hP
              have hg : (ev (.tmp 77) = .int .i64 1) ∧ (ev (.tmp 79) = .pointer (some ⟨p, 0, none⟩)) ∧ True := hG
              obtain ⟨g11, g13, _⟩ := hg
              clear hG hfr
              refine OpSays.value (v := .pointer (some ⟨p, 1, none⟩)) (w' := w1) ?_ ⟨hT1, Only.refl _ _, rfl⟩
              go_simp
            case op15 =>
              intro L ev w1 hLi hlate hearly hT1 hc hf hfr hG
              rw [if_pos (by decide)]
              have hP : p2Ph W3 p (pcells g rv2 S2.now) (L 20) (L 21) w1 := hT1
              obtain ⟨hl20, hl21, _⟩ := hlate
              rw [hl20] at hP
              rw [hl21] at hP
              have hg : (ev (.tmp 80) = .pointer (some ⟨p, 1, none⟩)) ∧ True := hG
              obtain ⟨g14, _⟩ := hg
              clear hG hfr
              have c : w1.cell? ⟨p, 1, none⟩ = some (.pointer (some ⟨g 1, 0, none⟩)) := (blk_cell (hP.2.1 rfl) 1).trans rfl
              refine OpSays.value (v := .pointer (some ⟨g 1, 0, none⟩)) (w' := w1) ?_ ⟨hT1, Only.refl _ _, rfl⟩
              go_simp
            case op16 =>
              intro L ev w1 hLi hlate hearly hT1 hc hf hfr hG
              rw [if_pos (by decide)]
              have hP : p2Ph W3 p (pcells g rv2 S2.now) (L 20) (L 21) w1 := hT1
              obtain ⟨hl20, hl21, _⟩ := hlate
              rw [hl20] at hP
              rw [hl21] at hP
              have h5 : ev (.tmp 5) = .pointer (some ⟨p, 0, none⟩) := hfr 5 (by decide)
              clear hG hfr
              refine OpSays.value (v := .pointer (some ⟨p, 0, none⟩)) (w' := w1) ?_ ⟨hT1, Only.refl _ _, rfl⟩
              go_simp
            case op17 =>
              intro L ev w1 hLi hlate hearly hT1 hc hf hfr hG
              rw [if_pos (by decide)]
              have hP : p2Ph W3 p (pcells g rv2 S2.now) (L 20) (L 21) w1 := hT1
              obtain ⟨hl20, hl21, _⟩ := hlate
              rw [hl20] at hP
              rw [hl21] at hP
              have hg : (ev (.tmp 82) = .pointer (some ⟨p, 0, none⟩)) ∧ True := hG
              obtain ⟨g16, _⟩ := hg
              clear hG hfr
              refine OpSays.value (v := .pointer (some ⟨p, 0, none⟩)) (w' := w1) ?_ ⟨hT1, Only.refl _ _, rfl⟩
              go_simp
            case op18 =>
              intro L ev w1 hLi hlate hearly hT1 hc hf hfr hG
              rw [if_pos (by decide)]
              have hP : p2Ph W3 p (pcells g rv2 S2.now) (L 20) (L 21) w1 := hT1
              obtain ⟨hl20, hl21, _⟩ := hlate
              rw [hl20] at hP
              rw [hl21] at hP
              have hg : (ev (.tmp 83) = .pointer (some ⟨p, 0, none⟩)) ∧ True := hG
              obtain ⟨g17, _⟩ := hg
              clear hG hfr
              refine OpSays.value (v := .pointer (some ⟨p, 8, none⟩)) (w' := w1) ?_ ⟨hT1, Only.refl _ _, rfl⟩
              go_simp
            case op19 =>
              intro L ev w1 hLi hlate hearly hT1 hc hf hfr hG
              rw [if_pos (by decide)]
              have hP : p2Ph W3 p (pcells g rv2 S2.now) (L 20) (L 21) w1 := hT1
              obtain ⟨hl20, hl21, _⟩ := hlate
              rw [hl20] at hP
              rw [hl21] at hP
              have hg : (ev (.tmp 84) = .pointer (some ⟨p, 8, none⟩)) ∧ True := hG
              obtain ⟨g18, _⟩ := hg
              clear hG hfr
              have c : w1.cell? ⟨p, 8, none⟩ = some (.int .i64 S2.now) := (blk_cell (hP.2.1 rfl) 8).trans rfl
              refine OpSays.value (v := .int .i64 S2.now) (w' := w1) ?_ ⟨hT1, Only.refl _ _, rfl⟩
              go_simp
            case op20 =>
              intro L ev w1 hLi hlate hearly hT1 hc hf hfr hG
              rw [if_pos (by decide)]
              have hP : p2Ph W3 p (pcells g rv2 S2.now) (L 20) (L 21) w1 := hT1
              obtain ⟨hl21, _⟩ := hlate
              rw [hLi] at hP
              rw [hl21] at hP
              change OpSays _ _ _ _ (fun v w' => p2Ph W3 p (pcells g rv2 S2.now) (true) (L 21) w' ∧ _ ∧ _)
              rw [hl21]
              have hg : (ev (.tmp 81) = .pointer (some ⟨g 1, 0, none⟩)) ∧ (ev (.tmp 85) = .int .i64 S2.now) ∧ True := hG
              obtain ⟨g15, g19, _⟩ := hg
              clear hG hfr
              have hpa := HPA.out.keep (hP.1 rfl)
              refine OpSays.enter (f := 22) (args := #[.pointer (some ⟨g 1, 0, none⟩), .int .i64 S2.now]) (w' := w1) ?_ ?_
              · go_simp
              · refine (pair_tick hpa (by decide) HPI.out).mono ?_
                rintro e' w2 ⟨v, rfl, hrow, hpa2, hk⟩
                exact ⟨v, rfl, ⟨fun e => (by cases e), fun _ => hpa2.blk, Nat.le_trans hP.2.2 hk.size⟩, hk.mono (fun _ _ _ => .inl rfl), World.ownsRow.mono hrow (by have := hP.2.2; have := HBW.out; omega), fun b hb => by have := ((HPA.out.rows 0 (by decide) (by decide)).lt b hb).2; have := HBW.out; omega, fun _ => hpa2⟩
            case op21 =>
              intro L ev w1 hLi hlate hearly hT1 hc hf hfr hG
              rw [if_pos (by decide)]
              have hP : p2Ph W3 p (pcells g rv2 S2.now) (L 20) (L 21) w1 := hT1
              obtain ⟨he20, _⟩ := hearly
              rw [he20] at hP
              rw [hLi] at hP
              change OpSays _ _ _ _ (fun v w' => p2Ph W3 p (pcells g rv2 S2.now) (L 20) (true) w' ∧ _ ∧ _)
              rw [he20]
              have hg : (ev (.tmp 75) = rv2 0) ∧ (w1.ownsRow B 9 1 (ev (.tmp 86)) ((S2.s 1).outs S2.now).length (((S2.s 1).outs S2.now).map Value.string) ∧ (∀ b, (rv2 0).ownBlock = some b → b < B) ∧ (L 21 = false → PAt W w1 6 p g mo me rv2 { S2 with s := put S2.s 1 ((S2.s 1).ticks S2.now) })) ∧ True := hG
              obtain ⟨g9, g20, _⟩ := hg
              clear hG hfr
              obtain ⟨hrow, hlt, hpa⟩ := g20
              have hpa := hpa hLi
              obtain ⟨v2, w2, hr, h1, h2, h3⟩ := append_texts w1 43 W.heap.size _ _ (S2.L 0) ((S2.s 1).outs S2.now) (hpa.rows 0 (by decide) (by decide)) (row_src hrow) hpa.only.size (by have := HLN.out 0 (by decide); have := HOL.out; omega)
              refine OpSays.value (v := v2) (w' := w2) ?_ ⟨⟨fun e => (by cases e), fun e => (by cases e), Nat.le_trans hP.2.2 (Only.of_grown h2).size⟩, (Only.of_grown h2).mono (fun _ _ e => .inr ⟨rfl, e⟩), h1, fun b hb => (h3 b hb).imp id (fun h => by have := hP.2.2; have := HBW.out; omega), (by first | rfl | exact he20 | simp [upd, he20]), hpa.grown (by decide) h2⟩
              unfold execOp
              simp only [resolve, invoke, builtin, Sem.run_bind, Sem.run_pure, Result.andThen_ok, List.map_toArray, List.map_cons, List.map_nil, g9, hr]
            case op22 =>
              intro L ev w1 hLi hlate hearly hT1 hc hf hfr hG
              rw [if_pos (by decide)]
              have hP : p2Ph W3 p (pcells g rv2 S2.now) (L 20) (L 21) w1 := hT1
              have hg : (ev (.tmp 66) = .pointer (some ⟨p, 0, none⟩)) ∧ True := hG
              obtain ⟨g0, _⟩ := hg
              clear hG hfr
              refine OpSays.value (v := .pointer (some ⟨p, 0, none⟩)) (w' := w1) ?_ ⟨hT1, Only.refl _ _, rfl⟩
              go_simp
            case op23 =>
              intro L ev w1 hLi hlate hearly hT1 hc hf hfr hG
              rw [if_pos (by decide)]
              have hP : p2Ph W3 p (pcells g rv2 S2.now) (L 20) (L 21) w1 := hT1
              have hg : (ev (.tmp 88) = .pointer (some ⟨p, 0, none⟩)) ∧ True := hG
              obtain ⟨g22, _⟩ := hg
              clear hG hfr
              refine OpSays.value (v := .pointer (some ⟨p, 2, none⟩)) (w' := w1) ?_ ⟨hT1, Only.refl _ _, rfl⟩
              go_simp
            case op24 =>
              intro L ev w1 hLi hlate hearly hT1 hc hf hfr hG
              rw [if_pos (by decide)]
              have hP : p2Ph W3 p (pcells g rv2 S2.now) (L 20) (L 21) w1 := hT1
              have hg : (ev (.tmp 68) = .int .i64 0) ∧ (ev (.tmp 89) = .pointer (some ⟨p, 2, none⟩)) ∧ True := hG
              obtain ⟨g2, g23, _⟩ := hg
              clear hG hfr
              refine OpSays.value (v := .pointer (some ⟨p, 2, none⟩)) (w' := w1) ?_ ⟨hT1, Only.refl _ _, rfl⟩
              go_simp
          rintro L ⟨tm, df⟩ w5 hL hT1 hsz hdf hfr hG
          have hPE : p2Ph W3 p (pcells g rv2 S2.now) (true) (true) w5 := by
            have hP : p2Ph W3 p (pcells g rv2 S2.now) (L 20) (L 21) w5 := hT1
            have hm := fun k (hk : k ∈ List.range 25) => AllB.get hL k hk
            rw [hm 20 (by decide)] at hP
            rw [hm 21 (by decide)] at hP
            exact hP
          clear hT1 hL
          have k0 : tm.getD 0 undef = Value.int IntKind.i64 ro := hfr 0 (by decide)
          have k1 : tm.getD 1 undef = Value.slice a n cap := hfr 1 (by decide)
          have k2 : tm.getD 2 undef = undef := hfr 2 (by decide)
          have k3 : tm.getD 3 undef = undef := hfr 3 (by decide)
          have k4 : tm.getD 4 undef = u4 := hfr 4 (by decide)
          have k5 : tm.getD 5 undef = .pointer (some ⟨p, 0, none⟩) := hfr 5 (by decide)
          have k6 : tm.getD 6 undef = u6 := hfr 6 (by decide)
          have k8 : tm.getD 8 undef = u8 := hfr 8 (by decide)
          have k9 : tm.getD 9 undef = u9 := hfr 9 (by decide)
          have k10 : tm.getD 10 undef = undef := hfr 10 (by decide)
          have k11 : tm.getD 11 undef = u11 := hfr 11 (by decide)
          have k12 : tm.getD 12 undef = u12 := hfr 12 (by decide)
          have k13 : tm.getD 13 undef = u13 := hfr 13 (by decide)
          have k14 : tm.getD 14 undef = undef := hfr 14 (by decide)
          have k15 : tm.getD 15 undef = undef := hfr 15 (by decide)
          have k16 : tm.getD 16 undef = undef := hfr 16 (by decide)
          have k17 : tm.getD 17 undef = undef := hfr 17 (by decide)
          have k18 : tm.getD 18 undef = Value.int IntKind.i64 ro := hfr 18 (by decide)
          have k19 : tm.getD 19 undef = Value.int IntKind.i64 (ro % 8) := hfr 19 (by decide)
          have k20 : tm.getD 20 undef = Value.int IntKind.i64 R := hfr 20 (by decide)
          have k21 : tm.getD 21 undef = Value.pointer (some { block := p, off := 0 }) := hfr 21 (by decide)
          have k22 : tm.getD 22 undef = Value.pointer (some { block := p, off := 0 }) := hfr 22 (by decide)
          have k23 : tm.getD 23 undef = Value.bool false := hfr 23 (by decide)
          have k24 : tm.getD 24 undef = Value.bool false := hfr 24 (by decide)
          have k25 : tm.getD 25 undef = Value.bool true := hfr 25 (by decide)
          have k26 : tm.getD 26 undef = Value.bool false := hfr 26 (by decide)
          have k27 : tm.getD 27 undef = Value.bool false := hfr 27 (by decide)
          have k28 : tm.getD 28 undef = u28 := hfr 28 (by decide)
          have k29 : tm.getD 29 undef = u29 := hfr 29 (by decide)
          have k30 : tm.getD 30 undef = u30 := hfr 30 (by decide)
          have k31 : tm.getD 31 undef = u31 := hfr 31 (by decide)
          have k32 : tm.getD 32 undef = u32 := hfr 32 (by decide)
          have k33 : tm.getD 33 undef = u33 := hfr 33 (by decide)
          have k34 : tm.getD 34 undef = u34 := hfr 34 (by decide)
          have k35 : tm.getD 35 undef = u35 := hfr 35 (by decide)
          have k36 : tm.getD 36 undef = u36 := hfr 36 (by decide)
          have k37 : tm.getD 37 undef = u37 := hfr 37 (by decide)
          have k38 : tm.getD 38 undef = u38 := hfr 38 (by decide)
          have k39 : tm.getD 39 undef = u39 := hfr 39 (by decide)
          have k40 : tm.getD 40 undef = u40 := hfr 40 (by decide)
          have k41 : tm.getD 41 undef = u41 := hfr 41 (by decide)
          have k42 : tm.getD 42 undef = u42 := hfr 42 (by decide)
          have k43 : tm.getD 43 undef = u43 := hfr 43 (by decide)
          have k44 : tm.getD 44 undef = u44 := hfr 44 (by decide)
          have k45 : tm.getD 45 undef = u45 := hfr 45 (by decide)
          have k46 : tm.getD 46 undef = u46 := hfr 46 (by decide)
          have k47 : tm.getD 47 undef = u47 := hfr 47 (by decide)
          have k48 : tm.getD 48 undef = u48 := hfr 48 (by decide)
          have k49 : tm.getD 49 undef = u49 := hfr 49 (by decide)
          have k50 : tm.getD 50 undef = u50 := hfr 50 (by decide)
          have k51 : tm.getD 51 undef = u51 := hfr 51 (by decide)
          have k52 : tm.getD 52 undef = u52 := hfr 52 (by decide)
          have k53 : tm.getD 53 undef = u53 := hfr 53 (by decide)
          have k54 : tm.getD 54 undef = Value.int IntKind.i64 (k : Int) := hfr 54 (by decide)
          have k55 : tm.getD 55 undef = Value.bool (decide ((k : Int) < 40)) := hfr 55 (by decide)
          have k56 : tm.getD 56 undef = Value.pointer (some { block := p, off := 0 }) := hfr 56 (by decide)
          have k57 : tm.getD 57 undef = Value.pointer (some { block := p, off := 0 }) := hfr 57 (by decide)
          have k58 : tm.getD 58 undef = Value.pointer (some { block := p, off := 8 }) := hfr 58 (by decide)
          have k59 : tm.getD 59 undef = Value.int IntKind.i64 S.now := hfr 59 (by decide)
          have k60 : tm.getD 60 undef = Value.int IntKind.i64 (S.now + 2) := hfr 60 (by decide)
          have k61 : tm.getD 61 undef = Value.pointer (some { block := p, off := 0 }) := hfr 61 (by decide)
          have k62 : tm.getD 62 undef = Value.pointer (some { block := p, off := 8 }) := hfr 62 (by decide)
          have k92 : tm.getD 92 undef = u92 := hfr 92 (by decide)
          have k93 : tm.getD 93 undef = u93 := hfr 93 (by decide)
          have k94 : tm.getD 94 undef = u94 := hfr 94 (by decide)
          have k95 : tm.getD 95 undef = u95 := hfr 95 (by decide)
          have k96 : tm.getD 96 undef = u96 := hfr 96 (by decide)
          have k97 : tm.getD 97 undef = u97 := hfr 97 (by decide)
          have k98 : tm.getD 98 undef = u98 := hfr 98 (by decide)
          have k99 : tm.getD 99 undef = u99 := hfr 99 (by decide)
          have k100 : tm.getD 100 undef = u100 := hfr 100 (by decide)
          have k101 : tm.getD 101 undef = u101 := hfr 101 (by decide)
          have k102 : tm.getD 102 undef = u102 := hfr 102 (by decide)
          have k103 : tm.getD 103 undef = u103 := hfr 103 (by decide)
          have k104 : tm.getD 104 undef = u104 := hfr 104 (by decide)
          have k105 : tm.getD 105 undef = u105 := hfr 105 (by decide)
          have k106 : tm.getD 106 undef = u106 := hfr 106 (by decide)
          have k107 : tm.getD 107 undef = u107 := hfr 107 (by decide)
          have k108 : tm.getD 108 undef = u108 := hfr 108 (by decide)
          have k109 : tm.getD 109 undef = u109 := hfr 109 (by decide)
          have k110 : tm.getD 110 undef = u110 := hfr 110 (by decide)
          have k111 : tm.getD 111 undef = u111 := hfr 111 (by decide)
          have k112 : tm.getD 112 undef = u112 := hfr 112 (by decide)
          have k113 : tm.getD 113 undef = u113 := hfr 113 (by decide)
          have k114 : tm.getD 114 undef = u114 := hfr 114 (by decide)
          have k115 : tm.getD 115 undef = u115 := hfr 115 (by decide)
          have k116 : tm.getD 116 undef = u116 := hfr 116 (by decide)
          have k117 : tm.getD 117 undef = u117 := hfr 117 (by decide)
          have k118 : tm.getD 118 undef = u118 := hfr 118 (by decide)
          have k119 : tm.getD 119 undef = u119 := hfr 119 (by decide)
          have k120 : tm.getD 120 undef = u120 := hfr 120 (by decide)
          have k121 : tm.getD 121 undef = u121 := hfr 121 (by decide)
          have k122 : tm.getD 122 undef = u122 := hfr 122 (by decide)
          have k123 : tm.getD 123 undef = u123 := hfr 123 (by decide)
          have k124 : tm.getD 124 undef = u124 := hfr 124 (by decide)
          have k125 : tm.getD 125 undef = u125 := hfr 125 (by decide)
          have k126 : tm.getD 126 undef = u126 := hfr 126 (by decide)
          have k127 : tm.getD 127 undef = u127 := hfr 127 (by decide)
          have k128 : tm.getD 128 undef = u128 := hfr 128 (by decide)
          have k129 : tm.getD 129 undef = u129 := hfr 129 (by decide)
          have k130 : tm.getD 130 undef = u130 := hfr 130 (by decide)
          have k131 : tm.getD 131 undef = u131 := hfr 131 (by decide)
          have k132 : tm.getD 132 undef = u132 := hfr 132 (by decide)
          have k133 : tm.getD 133 undef = u133 := hfr 133 (by decide)
          have k134 : tm.getD 134 undef = u134 := hfr 134 (by decide)
          have k135 : tm.getD 135 undef = u135 := hfr 135 (by decide)
          have k136 : tm.getD 136 undef = u136 := hfr 136 (by decide)
          have k137 : tm.getD 137 undef = u137 := hfr 137 (by decide)
          have k138 : tm.getD 138 undef = u138 := hfr 138 (by decide)
          have k139 : tm.getD 139 undef = u139 := hfr 139 (by decide)
          have k140 : tm.getD 140 undef = u140 := hfr 140 (by decide)
          have k141 : tm.getD 141 undef = u141 := hfr 141 (by decide)
          have k142 : tm.getD 142 undef = u142 := hfr 142 (by decide)
          have k143 : tm.getD 143 undef = undef := hfr 143 (by decide)
          have k144 : tm.getD 144 undef = undef := hfr 144 (by decide)
          have k145 : tm.getD 145 undef = undef := hfr 145 (by decide)
          have k146 : tm.getD 146 undef = undef := hfr 146 (by decide)
          have k147 : tm.getD 147 undef = undef := hfr 147 (by decide)
          have k148 : tm.getD 148 undef = undef := hfr 148 (by decide)
          have k149 : tm.getD 149 undef = undef := hfr 149 (by decide)
          have k150 : tm.getD 150 undef = undef := hfr 150 (by decide)
          have k151 : tm.getD 151 undef = undef := hfr 151 (by decide)
          have k152 : tm.getD 152 undef = undef := hfr 152 (by decide)
          have k153 : tm.getD 153 undef = undef := hfr 153 (by decide)
          have k154 : tm.getD 154 undef = undef := hfr 154 (by decide)
          have k155 : tm.getD 155 undef = undef := hfr 155 (by decide)
          have k156 : tm.getD 156 undef = undef := hfr 156 (by decide)
          have k157 : tm.getD 157 undef = undef := hfr 157 (by decide)
          have k158 : tm.getD 158 undef = undef := hfr 158 (by decide)
          have k159 : tm.getD 159 undef = undef := hfr 159 (by decide)
          have k160 : tm.getD 160 undef = undef := hfr 160 (by decide)
          have k161 : tm.getD 161 undef = undef := hfr 161 (by decide)
          have k162 : tm.getD 162 undef = undef := hfr 162 (by decide)
          have k163 : tm.getD 163 undef = undef := hfr 163 (by decide)
          have k164 : tm.getD 164 undef = undef := hfr 164 (by decide)
          have k165 : tm.getD 165 undef = undef := hfr 165 (by decide)
          have k166 : tm.getD 166 undef = undef := hfr 166 (by decide)
          have k167 : tm.getD 167 undef = undef := hfr 167 (by decide)
          have k168 : tm.getD 168 undef = undef := hfr 168 (by decide)
          have k169 : tm.getD 169 undef = undef := hfr 169 (by decide)
          have k170 : tm.getD 170 undef = undef := hfr 170 (by decide)
          have k171 : tm.getD 171 undef = undef := hfr 171 (by decide)
          have k172 : tm.getD 172 undef = undef := hfr 172 (by decide)
          have k173 : tm.getD 173 undef = undef := hfr 173 (by decide)
          have k174 : tm.getD 174 undef = undef := hfr 174 (by decide)
          have k175 : tm.getD 175 undef = undef := hfr 175 (by decide)
          have k176 : tm.getD 176 undef = undef := hfr 176 (by decide)
          have k177 : tm.getD 177 undef = undef := hfr 177 (by decide)
          have k178 : tm.getD 178 undef = undef := hfr 178 (by decide)
          have k179 : tm.getD 179 undef = undef := hfr 179 (by decide)
          have k180 : tm.getD 180 undef = undef := hfr 180 (by decide)
          have k181 : tm.getD 181 undef = undef := hfr 181 (by decide)
          have k182 : tm.getD 182 undef = undef := hfr 182 (by decide)
          have k183 : tm.getD 183 undef = undef := hfr 183 (by decide)
          have k184 : tm.getD 184 undef = undef := hfr 184 (by decide)
          have k185 : tm.getD 185 undef = undef := hfr 185 (by decide)
          have k186 : tm.getD 186 undef = undef := hfr 186 (by decide)
          have k187 : tm.getD 187 undef = undef := hfr 187 (by decide)
          have k188 : tm.getD 188 undef = undef := hfr 188 (by decide)
          have k189 : tm.getD 189 undef = undef := hfr 189 (by decide)
          have k190 : tm.getD 190 undef = undef := hfr 190 (by decide)
          have k191 : tm.getD 191 undef = undef := hfr 191 (by decide)
          have k192 : tm.getD 192 undef = undef := hfr 192 (by decide)
          have k193 : tm.getD 193 undef = undef := hfr 193 (by decide)
          have k194 : tm.getD 194 undef = undef := hfr 194 (by decide)
          have k195 : tm.getD 195 undef = undef := hfr 195 (by decide)
          have k196 : tm.getD 196 undef = undef := hfr 196 (by decide)
          have k197 : tm.getD 197 undef = undef := hfr 197 (by decide)
          have k198 : tm.getD 198 undef = undef := hfr 198 (by decide)
          have k199 : tm.getD 199 undef = undef := hfr 199 (by decide)
          have k200 : tm.getD 200 undef = undef := hfr 200 (by decide)
          have k201 : tm.getD 201 undef = undef := hfr 201 (by decide)
          have k202 : tm.getD 202 undef = undef := hfr 202 (by decide)
          have k203 : tm.getD 203 undef = undef := hfr 203 (by decide)
          have k204 : tm.getD 204 undef = undef := hfr 204 (by decide)
          have k205 : tm.getD 205 undef = undef := hfr 205 (by decide)
          have k206 : tm.getD 206 undef = undef := hfr 206 (by decide)
          have k207 : tm.getD 207 undef = undef := hfr 207 (by decide)
          have k208 : tm.getD 208 undef = undef := hfr 208 (by decide)
          have k209 : tm.getD 209 undef = undef := hfr 209 (by decide)
          have k210 : tm.getD 210 undef = undef := hfr 210 (by decide)
          have k211 : tm.getD 211 undef = undef := hfr 211 (by decide)
          have k212 : tm.getD 212 undef = undef := hfr 212 (by decide)
          have k213 : tm.getD 213 undef = undef := hfr 213 (by decide)
          have k214 : tm.getD 214 undef = undef := hfr 214 (by decide)
          have k215 : tm.getD 215 undef = undef := hfr 215 (by decide)
          have k7 : tm.getD 7 undef = .int .i64 1 := hfr 7 (by decide)
          have k63 : tm.getD 63 undef = .int .i64 1 := hfr 63 (by decide)
          have k90 : tm.getD 90 undef = .pointer (some ⟨p, 2, none⟩) := AllG.get hG 24 (by decide)
          obtain ⟨hrow, hob, _, hpx⟩ : w5.ownsRow W.heap.size 9 1 (tm.getD 87 undef) (S2.L 0 ++ (S2.s 1).outs S2.now).length ((S2.L 0 ++ (S2.s 1).outs S2.now).map Value.string) ∧ (∀ b, (tm.getD 87 undef).ownBlock = some b → (rv2 0).ownBlock = some b ∨ B ≤ b) ∧ _ ∧ PAt W w5 0 p g mo me rv2 { S2 with s := put S2.s 1 ((S2.s 1).ticks S2.now) } := AllG.get hG 21 (by decide)
          have he : tm = #[tm.getD 0 undef, tm.getD 1 undef, tm.getD 2 undef, tm.getD 3 undef, tm.getD 4 undef, tm.getD 5 undef, tm.getD 6 undef, tm.getD 7 undef, tm.getD 8 undef, tm.getD 9 undef, tm.getD 10 undef, tm.getD 11 undef, tm.getD 12 undef, tm.getD 13 undef, tm.getD 14 undef, tm.getD 15 undef, tm.getD 16 undef, tm.getD 17 undef, tm.getD 18 undef, tm.getD 19 undef, tm.getD 20 undef, tm.getD 21 undef, tm.getD 22 undef, tm.getD 23 undef, tm.getD 24 undef, tm.getD 25 undef, tm.getD 26 undef, tm.getD 27 undef, tm.getD 28 undef, tm.getD 29 undef, tm.getD 30 undef, tm.getD 31 undef, tm.getD 32 undef, tm.getD 33 undef, tm.getD 34 undef, tm.getD 35 undef, tm.getD 36 undef, tm.getD 37 undef, tm.getD 38 undef, tm.getD 39 undef, tm.getD 40 undef, tm.getD 41 undef, tm.getD 42 undef, tm.getD 43 undef, tm.getD 44 undef, tm.getD 45 undef, tm.getD 46 undef, tm.getD 47 undef, tm.getD 48 undef, tm.getD 49 undef, tm.getD 50 undef, tm.getD 51 undef, tm.getD 52 undef, tm.getD 53 undef, tm.getD 54 undef, tm.getD 55 undef, tm.getD 56 undef, tm.getD 57 undef, tm.getD 58 undef, tm.getD 59 undef, tm.getD 60 undef, tm.getD 61 undef, tm.getD 62 undef, tm.getD 63 undef, tm.getD 64 undef, tm.getD 65 undef, tm.getD 66 undef, tm.getD 67 undef, tm.getD 68 undef, tm.getD 69 undef, tm.getD 70 undef, tm.getD 71 undef, tm.getD 72 undef, tm.getD 73 undef, tm.getD 74 undef, tm.getD 75 undef, tm.getD 76 undef, tm.getD 77 undef, tm.getD 78 undef, tm.getD 79 undef, tm.getD 80 undef, tm.getD 81 undef, tm.getD 82 undef, tm.getD 83 undef, tm.getD 84 undef, tm.getD 85 undef, tm.getD 86 undef, tm.getD 87 undef, tm.getD 88 undef, tm.getD 89 undef, tm.getD 90 undef, tm.getD 91 undef, tm.getD 92 undef, tm.getD 93 undef, tm.getD 94 undef, tm.getD 95 undef, tm.getD 96 undef, tm.getD 97 undef, tm.getD 98 undef, tm.getD 99 undef, tm.getD 100 undef, tm.getD 101 undef, tm.getD 102 undef, tm.getD 103 undef, tm.getD 104 undef, tm.getD 105 undef, tm.getD 106 undef, tm.getD 107 undef, tm.getD 108 undef, tm.getD 109 undef, tm.getD 110 undef, tm.getD 111 undef, tm.getD 112 undef, tm.getD 113 undef, tm.getD 114 undef, tm.getD 115 undef, tm.getD 116 undef, tm.getD 117 undef, tm.getD 118 undef, tm.getD 119 undef, tm.getD 120 undef, tm.getD 121 undef, tm.getD 122 undef, tm.getD 123 undef, tm.getD 124 undef, tm.getD 125 undef, tm.getD 126 undef, tm.getD 127 undef, tm.getD 128 undef, tm.getD 129 undef, tm.getD 130 undef, tm.getD 131 undef, tm.getD 132 undef, tm.getD 133 undef, tm.getD 134 undef, tm.getD 135 undef, tm.getD 136 undef, tm.getD 137 undef, tm.getD 138 undef, tm.getD 139 undef, tm.getD 140 undef, tm.getD 141 undef, tm.getD 142 undef, tm.getD 143 undef, tm.getD 144 undef, tm.getD 145 undef, tm.getD 146 undef, tm.getD 147 undef, tm.getD 148 undef, tm.getD 149 undef, tm.getD 150 undef, tm.getD 151 undef, tm.getD 152 undef, tm.getD 153 undef, tm.getD 154 undef, tm.getD 155 undef, tm.getD 156 undef, tm.getD 157 undef, tm.getD 158 undef, tm.getD 159 undef, tm.getD 160 undef, tm.getD 161 undef, tm.getD 162 undef, tm.getD 163 undef, tm.getD 164 undef, tm.getD 165 undef, tm.getD 166 undef, tm.getD 167 undef, tm.getD 168 undef, tm.getD 169 undef, tm.getD 170 undef, tm.getD 171 undef, tm.getD 172 undef, tm.getD 173 undef, tm.getD 174 undef, tm.getD 175 undef, tm.getD 176 undef, tm.getD 177 undef, tm.getD 178 undef, tm.getD 179 undef, tm.getD 180 undef, tm.getD 181 undef, tm.getD 182 undef, tm.getD 183 undef, tm.getD 184 undef, tm.getD 185 undef, tm.getD 186 undef, tm.getD 187 undef, tm.getD 188 undef, tm.getD 189 undef, tm.getD 190 undef, tm.getD 191 undef, tm.getD 192 undef, tm.getD 193 undef, tm.getD 194 undef, tm.getD 195 undef, tm.getD 196 undef, tm.getD 197 undef, tm.getD 198 undef, tm.getD 199 undef, tm.getD 200 undef, tm.getD 201 undef, tm.getD 202 undef, tm.getD 203 undef, tm.getD 204 undef, tm.getD 205 undef, tm.getD 206 undef, tm.getD 207 undef, tm.getD 208 undef, tm.getD 209 undef, tm.getD 210 undef, tm.getD 211 undef, tm.getD 212 undef, tm.getD 213 undef, tm.getD 214 undef, tm.getD 215 undef] := arr_eta (n := 216) hsz
          replace hdf : df = [] := hdf
          subst hdf
          clear hsz hfr hG
          rw [he, k0, k1, k2, k3, k4, k5, k6, k8, k9, k10, k11, k12, k13, k14, k15, k16, k17, k18, k19, k20, k21, k22, k23, k24, k25, k26, k27, k28, k29, k30, k31, k32, k33, k34, k35, k36, k37, k38, k39, k40, k41, k42, k43, k44, k45, k46, k47, k48, k49, k50, k51, k52, k53, k54, k55, k56, k57, k58, k59, k60, k61, k62, k92, k93, k94, k95, k96, k97, k98, k99, k100, k101, k102, k103, k104, k105, k106, k107, k108, k109, k110, k111, k112, k113, k114, k115, k116, k117, k118, k119, k120, k121, k122, k123, k124, k125, k126, k127, k128, k129, k130, k131, k132, k133, k134, k135, k136, k137, k138, k139, k140, k141, k142, k143, k144, k145, k146, k147, k148, k149, k150, k151, k152, k153, k154, k155, k156, k157, k158, k159, k160, k161, k162, k163, k164, k165, k166, k167, k168, k169, k170, k171, k172, k173, k174, k175, k176, k177, k178, k179, k180, k181, k182, k183, k184, k185, k186, k187, k188, k189, k190, k191, k192, k193, k194, k195, k196, k197, k198, k199, k200, k201, k202, k203, k204, k205, k206, k207, k208, k209, k210, k211, k212, k213, k214, k215, k7, k63, k90]
          clear he k0 k1 k2 k3 k4 k5 k6 k8 k9 k10 k11 k12 k13 k14 k15 k16 k17 k18 k19 k20 k21 k22 k23 k24 k25 k26 k27 k28 k29 k30 k31 k32 k33 k34 k35 k36 k37 k38 k39 k40 k41 k42 k43 k44 k45 k46 k47 k48 k49 k50 k51 k52 k53 k54 k55 k56 k57 k58 k59 k60 k61 k62 k92 k93 k94 k95 k96 k97 k98 k99 k100 k101 k102 k103 k104 k105 k106 k107 k108 k109 k110 k111 k112 k113 k114 k115 k116 k117 k118 k119 k120 k121 k122 k123 k124 k125 k126 k127 k128 k129 k130 k131 k132 k133 k134 k135 k136 k137 k138 k139 k140 k141 k142 k143 k144 k145 k146 k147 k148 k149 k150 k151 k152 k153 k154 k155 k156 k157 k158 k159 k160 k161 k162 k163 k164 k165 k166 k167 k168 k169 k170 k171 k172 k173 k174 k175 k176 k177 k178 k179 k180 k181 k182 k183 k184 k185 k186 k187 k188 k189 k190 k191 k192 k193 k194 k195 k196 k197 k198 k199 k200 k201 k202 k203 k204 k205 k206 k207 k208 k209 k210 k211 k212 k213 k214 k215 k7 k63 k90
          generalize tm.getD 64 undef = x64
          generalize tm.getD 65 undef = x65
          generalize tm.getD 66 undef = x66
          generalize tm.getD 67 undef = x67
          generalize tm.getD 68 undef = x68
          generalize tm.getD 69 undef = x69
          generalize tm.getD 70 undef = x70
          generalize tm.getD 71 undef = x71
          generalize tm.getD 72 undef = x72
          generalize tm.getD 73 undef = x73
          generalize tm.getD 74 undef = x74
          generalize tm.getD 75 undef = x75
          generalize tm.getD 76 undef = x76
          generalize tm.getD 77 undef = x77
          generalize tm.getD 78 undef = x78
          generalize tm.getD 79 undef = x79
          generalize tm.getD 80 undef = x80
          generalize tm.getD 81 undef = x81
          generalize tm.getD 82 undef = x82
          generalize tm.getD 83 undef = x83
          generalize tm.getD 84 undef = x84
          generalize tm.getD 85 undef = x85
          generalize tm.getD 86 undef = x86
          generalize tm.getD 87 undef = vw at hrow hob ⊢
          generalize tm.getD 88 undef = x88
          generalize tm.getD 89 undef = x89
          generalize tm.getD 91 undef = x91
          simp only [List.drop_succ_cons, List.drop_zero]
          clear hPE HT HPA
          obtain ⟨aw, cw, ew, _, _⟩ := row_texts hrow
          have x2 := (blk_cell hpx.blk 2).trans (show (pcells g rv2 S2.now)[2]? = some (rv2 0) from rfl)
          have f2 := blk_free hpx.blk 2
          have hst := hp0.app HBW.out hpx (by decide) hrow hob
          clear hrow hob hpx hp0 HBW
          obtain ⟨nw, hnw⟩ : ∃ n, n = (S2.L 0 ++ (S2.s 1).outs S2.now).length := ⟨_, rfl⟩
          rw [← hnw] at ew
          clear hnw
          subst ew
          simp only [Nat.reduceAdd] at hst
          have HST := Lib.hid hst
          clear hst
          go_wp2_with fail
          rw [rounds_succ]
          generalize w5.setCell ⟨p, 2, none⟩ (.slice aw nw cw) = W5 at HST ⊢
          clear x2 f2
          go_wp2_with fail
          go_meet
          case rel => exact ⟨_, by rw [← HS2.out]; exact HST.out⟩
        case rest =>
          obtain ⟨rv3, hP3⟩ := hcut
          obtain ⟨S3, hS3⟩ : ∃ S3 : PS, S3 = (S1.tickd 0).tickd 1 := ⟨_, rfl⟩
          rw [← hS3] at hP3
          have HS3 := Lib.hid hS3
          have HP3 := Lib.hid hP3
          clear hS3 hP3 HLN
          generalize wc = w3 at HP3 ⊢
          have h1p : Pt S1 0 1 := by
            have hnw := HR.out.now
            rw [HS1.out]
            exact ⟨HR.out.pt.two.time (nw' := S.now + 2) (by omega) (by omega), HR.out.pt.wk, HR.out.pt.wk'⟩
          have HPT3 : Hid (Pt S3 0 1) := Lib.hid (by
            rw [HS3.out]
            exact ((h1p.tick (.inl ⟨rfl, rfl⟩)).swap.tick (.inr ⟨rfl, rfl⟩)).swap)
          have HLN3 : Hid (∀ z, z < 6 → (S3.L z).length ≤ 20000) := Lib.hid (by
            intro z hz
            have o0 := outs_le HPI0.out S1.now
            have o1 := outs_le HPI1.out S1.now
            have l0 : (S1.L 0).length ≤ 7000 := by rw [HS1.out]; exact HR.out.way 0 (by decide)
            have l1 : (S1.L 1).length ≤ 7000 := by rw [HS1.out]; exact HR.out.way 1 (by decide)
            have lz : (S1.L z).length ≤ 20000 := by rw [HS1.out]; exact HR.out.len z hz
            rw [HS3.out]
            show (put (put S1.L 1 (S1.L 1 ++ (S1.s 0).outs S1.now)) 0 (S1.L 0 ++ (S1.s 1).outs S1.now) z).length ≤ _
            unfold put
            split
            · rw [List.length_append]; omega
            · split
              · rw [List.length_append]; omega
              · exact lz)
          clear h1p HPI0 HPI1
          go_wp2_with fail
          refine wp_loop_rounds 3 ?_
          rw [rounds_succ]
          -- the end 0
          obtain ⟨ra, ca, hra, hNc, htx⟩ := row_texts (HP3.out.rows 0 (by decide) (by decide))
          have y2 := HP3.out.cRow (i := 0) (by decide)
          have f2 := blk_free HP3.out.blk 2
          rw [hra] at y2
          simp only [Nat.reduceAdd] at y2
          have hlen := HLN3.out 0 (by decide)
          have hst0 := (HP3.out.drop 0).store (i := 0) (v := .slice none 0 0) (M := []) (by decide) (World.ownsRow_nil _ _ _ _) (fun _ _ _ b hb => by cases hb)
          rw [← PS.part_zero S3 0 (by decide)] at hst0
          simp only [Nat.reduceAdd] at hst0
          have hks := (Only.refl (fun z => z = p) w3).setCell ⟨p, 2, none⟩ (.slice none 0 0) (fun _ => rfl)
          have hold : (w3.setCell ⟨p, 2, none⟩ (.slice none 0 0)).ownsRow W.heap.size 9 1 (.slice ra (S3.L 0).length ca) (S3.L 0).length ((S3.L 0).map Value.string) := by
            rw [← hra]
            refine row_keepS (HP3.out.rows 0 (by decide) (by decide)) hks (fun b hb e => ?_)
            obtain ⟨cur, hc⟩ := row_block (HP3.out.rows 0 (by decide) (by decide)) hb
            exact pair_texts HP3.out.blk hc e
          have hsep : ∀ b, (Value.slice ra (S3.L 0).length ca).ownBlock = some b → (put rv3 0 (.slice none 0 0) 4).ownBlock ≠ some b := by
            intro b hb
            rw [← hra] at hb
            exact HP3.out.sep 0 4 (by decide) (by decide) (by decide) (by decide) (by decide) b hb
          obtain ⟨N, hN⟩ : ∃ N, N = (S3.L 0).length := ⟨_, rfl⟩
          rw [← hN] at y2 hold hsep hlen
          have HN := Lib.hid hN
          have HST0 := Lib.hid hst0
          have HOLD := Lib.hid hold
          have HSEP := Lib.hid hsep
          clear hN hst0 hold hsep hra hNc htx hks
          go_upto_block 8 with fail
          generalize w3.setCell ⟨p, 2, none⟩ (.slice none 0 0) = wL0 at HST0 HOLD ⊢
          clear y2 f2
          go_wp2_with fail
          go_loopw [108] (fun iv wr => ∃ (i : Nat) (rv' : Nat → Value), iv = .int .i64 i ∧ i ≤ N ∧ PAt W wr 6 p g mo me rv' (S3.part 0 i) ∧ wr.ownsRow W.heap.size 9 1 (.slice ra N ca) N ((S3.L 0).map Value.string) ∧ (∀ b, (Value.slice ra N ca).ownBlock = some b → (rv' 4).ownBlock ≠ some b)) (fun iv _ => N - (intOf iv).toNat)
          case atStart => exact ⟨0, _, rfl, by omega, HST0.out, HOLD.out, HSEP.out⟩
          case round =>
            obtain ⟨i, rvi, rfl, hiN, hPi, hri, hsi⟩ := hrel
            by_cases hi : i < N
            · have hri2 : wr.ownsRow W.heap.size 9 1 (.slice ra N ca) (S3.L 0).length ((S3.L 0).map Value.string) := by rw [← HN.out]; exact hri
              obtain ⟨a2, c2, e2, _, ht2⟩ := row_texts hri2
              injection e2 with e2a e2b e2c
              subst e2a
              obtain ⟨ga, rfl, hgl, hcX⟩ := ht2 i (by rw [← HN.out]; exact hi)
              obtain ⟨tl1, tl2, tpi⟩ := took_len HPT3.out (k := 0) (by decide) (show i < (S3.L 0).length by rw [← HN.out]; exact hi)
              have hXm : LetIn (S3.L (2 + 1)) (S3.s 1).taken 7 ((S3.L 0).getD i ⟨#[]⟩) := HPT3.out.wk _ (by
                rw [List.getD_eq_getElem?_getD, List.getElem?_eq_getElem (show i < (S3.L 0).length by rw [← HN.out]; exact hi)]
                exact List.getElem_mem _)
              have HNX := Lib.hid (PS.part_succ S3 0 i (by decide) (show i < (S3.L 0).length by rw [← HN.out]; exact hi))
              generalize (S3.L 0).getD i ⟨#[]⟩ = X at hcX tl1 hXm HNX
              obtain ⟨Sp, hSp⟩ : ∃ Sp, Sp = S3.part 0 i := ⟨_, rfl⟩
              have hnow : S3.now = Sp.now := by rw [hSp]; rfl
              have hlnp : ∀ z, z < 6 → (Sp.L z).length ≤ 20000 := by
                intro z hz
                rw [hSp]
                show (put (put S3.L 0 []) 4 _ z).length ≤ _
                unfold put
                split
                · exact Nat.le_trans tl2 (by decide)
                · split
                  · exact Nat.zero_le _
                  · exact HLN3.out z hz
              rw [← hSp] at hPi tl1 tpi HNX
              rw [hnow] at tl1 HNX
              have HXS : Hid (X.size ≤ 140737488355328) := Lib.hid (by have := hXm.size.1; omega)
              have HPA := Lib.hid hPi
              have HPI := Lib.hid tpi
              have HLN := Lib.hid hlnp
              have HML0 := Lib.hid tl1
              have HRI := Lib.hid hri
              have HSI := Lib.hid hsi
              clear hPi tpi hlnp tl1 tl2 hri hri2 hsi ht2 hXm hnow hSp
              go_upto_region 25 with fail
              have HT : Hid (p1Ph wr false wr.drew) := Lib.hid (fun _ => (Only.refl _ wr).drew)
              obtain ⟨B, hB⟩ : ∃ B, B = wr.heap.size := ⟨_, rfl⟩
              have HBW : Hid (wr.heap.size = B) := Lib.hid hB.symm
              clear hB hcX hgl
              refine wp_region_phasedk_tail 16 b0kDs b0kNeed b0kGs b0kLate b0kEarly (fun L w' => p1Ph wr (L 11) w') (fun i w w' => Only (p1St 11 i) w w') (b0kG W B p p g mo me rvi Sp 0 0 ⟨#[]⟩ false X wr) rfl rfl (by kernel_rfl) (by kernel_rfl) (by kernel_rfl) (by kernel_rfl) (by kernel_rfl) (by kernel_rfl) HT.out b0kG.keep b0kG.guard (fun _ _ => Only.refl _ _) ?_ ?_
              · refine And.intro ?op0 (And.intro ?op1 (And.intro ?op2 (And.intro ?op3 (And.intro ?op4 (And.intro ?op5 (And.intro ?op6 (And.intro ?op7 (And.intro ?op8 (And.intro ?op9 (And.intro ?op10 (And.intro ?op11 (And.intro ?op12 (And.intro ?op13 (And.intro ?op14 (And.intro ?op15 trivial)))))))))))))))
                case op0 =>
                  intro L ev w1 hLi hlate hearly hT1 hc hf hfr hG
                  rw [if_pos (by decide)]
                  have hP : p1Ph wr (L 11) w1 := hT1
                  obtain ⟨hl11, _⟩ := hlate
                  rw [hl11] at hP
                  have h5 : ev (.tmp 5) = .pointer (some ⟨p, 0, none⟩) := hfr 5 (by decide)
                  clear hG hfr
                  refine OpSays.value (v := .pointer (some ⟨p, 0, none⟩)) (w' := w1) ?_ ⟨hT1, Only.refl _ _, rfl⟩
                  go_simp
                case op1 =>
                  intro L ev w1 hLi hlate hearly hT1 hc hf hfr hG
                  rw [if_pos (by decide)]
                  have hP : p1Ph wr (L 11) w1 := hT1
                  obtain ⟨hl11, _⟩ := hlate
                  rw [hl11] at hP
                  have h8 : ev (.tmp 8) = .int .i64 0 := hfr 8 (by decide)
                  clear hG hfr
                  refine OpSays.value (v := .int .i64 0) (w' := w1) ?_ ⟨hT1, Only.refl _ _, rfl⟩
                  go_simp
                case op2 =>
                  intro L ev w1 hLi hlate hearly hT1 hc hf hfr hG
                  rw [if_pos (by decide)]
                  have hP : p1Ph wr (L 11) w1 := hT1
                  obtain ⟨hl11, _⟩ := hlate
                  rw [hl11] at hP
                  have hg : (ev (.tmp 113) = .pointer (some ⟨p, 0, none⟩)) ∧ True := hG
                  obtain ⟨g0, _⟩ := hg
                  clear hG hfr
                  refine OpSays.value (v := .pointer (some ⟨p, 0, none⟩)) (w' := w1) ?_ ⟨hT1, Only.refl _ _, rfl⟩
                  go_simp
                case op3 =>
                  intro L ev w1 hLi hlate hearly hT1 hc hf hfr hG
                  rw [if_pos (by decide)]
                  have hP : p1Ph wr (L 11) w1 := hT1
                  obtain ⟨hl11, _⟩ := hlate
                  rw [hl11] at hP
                  have hg : (ev (.tmp 115) = .pointer (some ⟨p, 0, none⟩)) ∧ True := hG
                  obtain ⟨g2, _⟩ := hg
                  clear hG hfr
                  refine OpSays.value (v := .pointer (some ⟨p, 0, none⟩)) (w' := w1) ?_ ⟨hT1, Only.refl _ _, rfl⟩
                  go_simp
                case op4 =>
                  intro L ev w1 hLi hlate hearly hT1 hc hf hfr hG
                  rw [if_pos (by decide)]
                  have hP : p1Ph wr (L 11) w1 := hT1
                  obtain ⟨hl11, _⟩ := hlate
                  rw [hl11] at hP
                  have hg : (ev (.tmp 114) = .int .i64 0) ∧ (ev (.tmp 116) = .pointer (some ⟨p, 0, none⟩)) ∧ True := hG
                  obtain ⟨g1, g3, _⟩ := hg
                  clear hG hfr
                  refine OpSays.value (v := .pointer (some ⟨p, 0, none⟩)) (w' := w1) ?_ ⟨hT1, Only.refl _ _, rfl⟩
                  go_simp
                case op5 =>
                  intro L ev w1 hLi hlate hearly hT1 hc hf hfr hG
                  rw [if_pos (by decide)]
                  have hP : p1Ph wr (L 11) w1 := hT1
                  obtain ⟨hl11, _⟩ := hlate
                  rw [hl11] at hP
                  have hg : (ev (.tmp 117) = .pointer (some ⟨p, 0, none⟩)) ∧ True := hG
                  obtain ⟨g4, _⟩ := hg
                  clear hG hfr
                  have c : w1.cell? ⟨p, 0, none⟩ = some (.pointer (some ⟨g 0, 0, none⟩)) := (HPA.out.keep (hP rfl)).cEnd (k := 0) (by decide)
                  refine OpSays.value (v := .pointer (some ⟨g 0, 0, none⟩)) (w' := w1) ?_ ⟨hT1, Only.refl _ _, rfl⟩
                  go_simp
                case op6 =>
                  intro L ev w1 hLi hlate hearly hT1 hc hf hfr hG
                  rw [if_pos (by decide)]
                  have hP : p1Ph wr (L 11) w1 := hT1
                  obtain ⟨hl11, _⟩ := hlate
                  rw [hl11] at hP
                  have h11 : ev (.tmp 11) = .string X := hfr 11 (by decide)
                  clear hG hfr
                  refine OpSays.value (v := .string X) (w' := w1) ?_ ⟨hT1, Only.refl _ _, rfl⟩
                  go_simp
                case op7 =>
                  intro L ev w1 hLi hlate hearly hT1 hc hf hfr hG
                  rw [if_pos (by decide)]
                  have hP : p1Ph wr (L 11) w1 := hT1
                  obtain ⟨hl11, _⟩ := hlate
                  rw [hl11] at hP
                  have h5 : ev (.tmp 5) = .pointer (some ⟨p, 0, none⟩) := hfr 5 (by decide)
                  clear hG hfr
                  refine OpSays.value (v := .pointer (some ⟨p, 0, none⟩)) (w' := w1) ?_ ⟨hT1, Only.refl _ _, rfl⟩
                  go_simp
                case op8 =>
                  intro L ev w1 hLi hlate hearly hT1 hc hf hfr hG
                  rw [if_pos (by decide)]
                  have hP : p1Ph wr (L 11) w1 := hT1
                  obtain ⟨hl11, _⟩ := hlate
                  rw [hl11] at hP
                  have hg : (ev (.tmp 120) = .pointer (some ⟨p, 0, none⟩)) ∧ True := hG
                  obtain ⟨g7, _⟩ := hg
                  clear hG hfr
                  refine OpSays.value (v := .pointer (some ⟨p, 0, none⟩)) (w' := w1) ?_ ⟨hT1, Only.refl _ _, rfl⟩
                  go_simp
                case op9 =>
                  intro L ev w1 hLi hlate hearly hT1 hc hf hfr hG
                  rw [if_pos (by decide)]
                  have hP : p1Ph wr (L 11) w1 := hT1
                  obtain ⟨hl11, _⟩ := hlate
                  rw [hl11] at hP
                  have hg : (ev (.tmp 121) = .pointer (some ⟨p, 0, none⟩)) ∧ True := hG
                  obtain ⟨g8, _⟩ := hg
                  clear hG hfr
                  refine OpSays.value (v := .pointer (some ⟨p, 8, none⟩)) (w' := w1) ?_ ⟨hT1, Only.refl _ _, rfl⟩
                  go_simp
                case op10 =>
                  intro L ev w1 hLi hlate hearly hT1 hc hf hfr hG
                  rw [if_pos (by decide)]
                  have hP : p1Ph wr (L 11) w1 := hT1
                  obtain ⟨hl11, _⟩ := hlate
                  rw [hl11] at hP
                  have hg : (ev (.tmp 122) = .pointer (some ⟨p, 8, none⟩)) ∧ True := hG
                  obtain ⟨g9, _⟩ := hg
                  clear hG hfr
                  have c := (HPA.out.keep (hP rfl)).cNow
                  refine OpSays.value (v := .int .i64 Sp.now) (w' := w1) ?_ ⟨hT1, Only.refl _ _, rfl⟩
                  go_simp
                case op11 =>
                  intro L ev w1 hLi hlate hearly hT1 hc hf hfr hG
                  rw [if_pos (by decide)]
                  have hP : p1Ph wr (L 11) w1 := hT1
                  rw [hLi] at hP
                  change OpSays _ _ _ _ (fun v w' => p1Ph wr (true) w' ∧ _ ∧ _)
                  have hg : (ev (.tmp 118) = .pointer (some ⟨g 0, 0, none⟩)) ∧ (ev (.tmp 119) = .string X) ∧ (ev (.tmp 123) = .int .i64 Sp.now) ∧ True := hG
                  obtain ⟨g5, g6, g10, _⟩ := hg
                  clear hG hfr
                  have hpa := HPA.out.keep (hP rfl)
                  refine OpSays.enter (f := 25) (args := #[.pointer (some ⟨g 0, 0, none⟩), .string X, .int .i64 Sp.now]) (w' := w1) ?_ ?_
                  · go_simp
                  · refine (pair_take hpa (by decide) HPI.out X HXS.out).mono ?_
                    rintro e' w2 ⟨v, c, rfl, hrow, hpa2, hk⟩
                    exact ⟨_, rfl, fun e => (by cases e), hk.mono (fun _ _ _ => rfl), v, c, rfl, World.ownsRow.mono hrow (by have := (hP rfl).size; have := HBW.out; omega), hpa2, fun b o _ hb => hk.at ((hP rfl).at hb (fun h => h)) (foot_texts (hpa.e 0 (by decide)) ((hP rfl).at hb (fun h => h)))⟩
                case op12 =>
                  intro L ev w1 hLi hlate hearly hT1 hc hf hfr hG
                  rw [if_pos (by decide)]
                  have hP : p1Ph wr (L 11) w1 := hT1
                  obtain ⟨he11, _⟩ := hearly
                  rw [he11] at hP
                  change OpSays _ _ _ _ (fun v w' => p1Ph wr (L 11) w' ∧ _ ∧ _)
                  rw [he11]
                  have hg : (∃ (u : Value) (c : Int), ev (.tmp 124) = .tuple #[u, .int .i64 c] ∧ w1.ownsRow B 9 1 u (took (Sp.s 0) X Sp.now).2.length ((took (Sp.s 0) X Sp.now).2.map Value.string) ∧ PAt W w1 6 p g mo me rvi { Sp with s := put Sp.s 0 (took (Sp.s 0) X Sp.now).1 } ∧ KeepT (.slice none 0 0) wr w1) ∧ True := hG
                  obtain ⟨g11, _⟩ := hg
                  clear hG hfr
                  obtain ⟨v, c, g11, h1, _⟩ := g11
                  refine OpSays.value (v := .tuple #[v, .int .i64 c]) (w' := w1) ?_ ⟨fun e => (by cases e), Only.refl _ _, (by first | rfl | exact he11 | simp [upd, he11]), v, c, rfl, h1⟩
                  go_simp
                case op13 =>
                  intro L ev w1 hLi hlate hearly hT1 hc hf hfr hG
                  rw [if_pos (by decide)]
                  have hP : p1Ph wr (L 11) w1 := hT1
                  obtain ⟨he11, _⟩ := hearly
                  rw [he11] at hP
                  change OpSays _ _ _ _ (fun v w' => p1Ph wr (L 11) w' ∧ _ ∧ _)
                  rw [he11]
                  have hg : (L 11 = true ∧ ∃ (u : Value) (c : Int), ev (.tmp 112) = .tuple #[u, .int .i64 c] ∧ w1.ownsRow B 9 1 u (took (Sp.s 0) X Sp.now).2.length ((took (Sp.s 0) X Sp.now).2.map Value.string)) ∧ True := hG
                  obtain ⟨g12, _⟩ := hg
                  clear hG hfr
                  obtain ⟨_, v, c, g12, h1⟩ := g12
                  refine OpSays.value (v := v) (w' := w1) ?_ ⟨fun e => (by cases e), Only.refl _ _, (by first | rfl | exact he11 | simp [upd, he11]), h1⟩
                  go_simp
                case op14 =>
                  intro L ev w1 hLi hlate hearly hT1 hc hf hfr hG
                  rw [if_pos (by decide)]
                  have hP : p1Ph wr (L 11) w1 := hT1
                  obtain ⟨he11, _⟩ := hearly
                  rw [he11] at hP
                  change OpSays _ _ _ _ (fun v w' => p1Ph wr (L 11) w' ∧ _ ∧ _)
                  rw [he11]
                  have hg : (L 11 = true ∧ ∃ (u : Value) (c : Int), ev (.tmp 112) = .tuple #[u, .int .i64 c] ∧ w1.ownsRow B 9 1 u (took (Sp.s 0) X Sp.now).2.length ((took (Sp.s 0) X Sp.now).2.map Value.string)) ∧ True := hG
                  obtain ⟨g12, _⟩ := hg
                  clear hG hfr
                  obtain ⟨_, v, c, g12, h1⟩ := g12
                  refine OpSays.value (v := .int .i64 c) (w' := w1) ?_ ⟨fun e => (by cases e), Only.refl _ _, c, rfl⟩
                  go_simp
                case op15 =>
                  intro L ev w1 hLi hlate hearly hT1 hc hf hfr hG
                  rw [if_pos (by decide)]
                  have hP : p1Ph wr (L 11) w1 := hT1
                  obtain ⟨he11, _⟩ := hearly
                  rw [he11] at hP
                  change OpSays _ _ _ _ (fun v w' => p1Ph wr (L 11) w' ∧ _ ∧ _)
                  rw [he11]
                  have hg : (L 11 = true ∧ w1.ownsRow B 9 1 (ev (.tmp 125)) (took (Sp.s 0) X Sp.now).2.length ((took (Sp.s 0) X Sp.now).2.map Value.string)) ∧ True := hG
                  obtain ⟨g13, _⟩ := hg
                  clear hG hfr
                  obtain ⟨_, h1⟩ := g13
                  refine OpSays.value (v := ev (.tmp 125)) (w' := w1) ?_ ⟨fun e => (by cases e), Only.refl _ _, (by first | rfl | exact he11 | simp [upd, he11]), h1⟩
                  go_simp
              rintro L ⟨tm, df⟩ w6 hL hT1 hsz hdf hfr hG
              have hPE : p1Ph wr (true) w6 := by
                have hP : p1Ph wr (L 11) w6 := hT1
                have hm := fun k (hk : k ∈ List.range 16) => AllB.get hL k hk
                rw [hm 11 (by decide)] at hP
                exact hP
              clear hT1 hL
              have k0 : tm.getD 0 undef = Value.int IntKind.i64 ro := hfr 0 (by decide)
              have k1 : tm.getD 1 undef = Value.slice a n cap := hfr 1 (by decide)
              have k2 : tm.getD 2 undef = undef := hfr 2 (by decide)
              have k3 : tm.getD 3 undef = undef := hfr 3 (by decide)
              have k4 : tm.getD 4 undef = u4 := hfr 4 (by decide)
              have k5 : tm.getD 5 undef = .pointer (some ⟨p, 0, none⟩) := hfr 5 (by decide)
              have k6 : tm.getD 6 undef = u6 := hfr 6 (by decide)
              have k7 : tm.getD 7 undef = u7 := hfr 7 (by decide)
              have k8 : tm.getD 8 undef = .int .i64 0 := hfr 8 (by decide)
              have k9 : tm.getD 9 undef = Value.slice (some { block := ga, off := 0 }) N ca := hfr 9 (by decide)
              have k10 : tm.getD 10 undef = undef := hfr 10 (by decide)
              have k14 : tm.getD 14 undef = undef := hfr 14 (by decide)
              have k15 : tm.getD 15 undef = undef := hfr 15 (by decide)
              have k16 : tm.getD 16 undef = undef := hfr 16 (by decide)
              have k17 : tm.getD 17 undef = undef := hfr 17 (by decide)
              have k18 : tm.getD 18 undef = Value.int IntKind.i64 ro := hfr 18 (by decide)
              have k19 : tm.getD 19 undef = Value.int IntKind.i64 (ro % 8) := hfr 19 (by decide)
              have k20 : tm.getD 20 undef = Value.int IntKind.i64 R := hfr 20 (by decide)
              have k21 : tm.getD 21 undef = Value.pointer (some { block := p, off := 0 }) := hfr 21 (by decide)
              have k22 : tm.getD 22 undef = Value.pointer (some { block := p, off := 0 }) := hfr 22 (by decide)
              have k23 : tm.getD 23 undef = Value.bool false := hfr 23 (by decide)
              have k24 : tm.getD 24 undef = Value.bool false := hfr 24 (by decide)
              have k25 : tm.getD 25 undef = Value.bool true := hfr 25 (by decide)
              have k26 : tm.getD 26 undef = Value.bool false := hfr 26 (by decide)
              have k27 : tm.getD 27 undef = Value.bool false := hfr 27 (by decide)
              have k28 : tm.getD 28 undef = u28 := hfr 28 (by decide)
              have k29 : tm.getD 29 undef = u29 := hfr 29 (by decide)
              have k30 : tm.getD 30 undef = u30 := hfr 30 (by decide)
              have k31 : tm.getD 31 undef = u31 := hfr 31 (by decide)
              have k32 : tm.getD 32 undef = u32 := hfr 32 (by decide)
              have k33 : tm.getD 33 undef = u33 := hfr 33 (by decide)
              have k34 : tm.getD 34 undef = u34 := hfr 34 (by decide)
              have k35 : tm.getD 35 undef = u35 := hfr 35 (by decide)
              have k36 : tm.getD 36 undef = u36 := hfr 36 (by decide)
              have k37 : tm.getD 37 undef = u37 := hfr 37 (by decide)
              have k38 : tm.getD 38 undef = u38 := hfr 38 (by decide)
              have k39 : tm.getD 39 undef = u39 := hfr 39 (by decide)
              have k40 : tm.getD 40 undef = u40 := hfr 40 (by decide)
              have k41 : tm.getD 41 undef = u41 := hfr 41 (by decide)
              have k42 : tm.getD 42 undef = u42 := hfr 42 (by decide)
              have k43 : tm.getD 43 undef = u43 := hfr 43 (by decide)
              have k44 : tm.getD 44 undef = u44 := hfr 44 (by decide)
              have k45 : tm.getD 45 undef = u45 := hfr 45 (by decide)
              have k46 : tm.getD 46 undef = u46 := hfr 46 (by decide)
              have k47 : tm.getD 47 undef = u47 := hfr 47 (by decide)
              have k48 : tm.getD 48 undef = u48 := hfr 48 (by decide)
              have k49 : tm.getD 49 undef = u49 := hfr 49 (by decide)
              have k50 : tm.getD 50 undef = u50 := hfr 50 (by decide)
              have k51 : tm.getD 51 undef = u51 := hfr 51 (by decide)
              have k52 : tm.getD 52 undef = u52 := hfr 52 (by decide)
              have k53 : tm.getD 53 undef = u53 := hfr 53 (by decide)
              have k54 : tm.getD 54 undef = Value.int IntKind.i64 (k : Int) := hfr 54 (by decide)
              have k55 : tm.getD 55 undef = Value.bool (decide ((k : Int) < 40)) := hfr 55 (by decide)
              have k56 : tm.getD 56 undef = Value.pointer (some { block := p, off := 0 }) := hfr 56 (by decide)
              have k57 : tm.getD 57 undef = Value.pointer (some { block := p, off := 0 }) := hfr 57 (by decide)
              have k58 : tm.getD 58 undef = Value.pointer (some { block := p, off := 8 }) := hfr 58 (by decide)
              have k59 : tm.getD 59 undef = Value.int IntKind.i64 S.now := hfr 59 (by decide)
              have k60 : tm.getD 60 undef = Value.int IntKind.i64 (S.now + 2) := hfr 60 (by decide)
              have k61 : tm.getD 61 undef = Value.pointer (some { block := p, off := 0 }) := hfr 61 (by decide)
              have k62 : tm.getD 62 undef = Value.pointer (some { block := p, off := 8 }) := hfr 62 (by decide)
              have k63 : tm.getD 63 undef = u63 := hfr 63 (by decide)
              have k64 : tm.getD 64 undef = u64 := hfr 64 (by decide)
              have k65 : tm.getD 65 undef = u65 := hfr 65 (by decide)
              have k66 : tm.getD 66 undef = u66 := hfr 66 (by decide)
              have k67 : tm.getD 67 undef = u67 := hfr 67 (by decide)
              have k68 : tm.getD 68 undef = u68 := hfr 68 (by decide)
              have k69 : tm.getD 69 undef = u69 := hfr 69 (by decide)
              have k70 : tm.getD 70 undef = u70 := hfr 70 (by decide)
              have k71 : tm.getD 71 undef = u71 := hfr 71 (by decide)
              have k72 : tm.getD 72 undef = u72 := hfr 72 (by decide)
              have k73 : tm.getD 73 undef = u73 := hfr 73 (by decide)
              have k74 : tm.getD 74 undef = u74 := hfr 74 (by decide)
              have k75 : tm.getD 75 undef = u75 := hfr 75 (by decide)
              have k76 : tm.getD 76 undef = u76 := hfr 76 (by decide)
              have k77 : tm.getD 77 undef = u77 := hfr 77 (by decide)
              have k78 : tm.getD 78 undef = u78 := hfr 78 (by decide)
              have k79 : tm.getD 79 undef = u79 := hfr 79 (by decide)
              have k80 : tm.getD 80 undef = u80 := hfr 80 (by decide)
              have k81 : tm.getD 81 undef = u81 := hfr 81 (by decide)
              have k82 : tm.getD 82 undef = u82 := hfr 82 (by decide)
              have k83 : tm.getD 83 undef = u83 := hfr 83 (by decide)
              have k84 : tm.getD 84 undef = u84 := hfr 84 (by decide)
              have k85 : tm.getD 85 undef = u85 := hfr 85 (by decide)
              have k86 : tm.getD 86 undef = u86 := hfr 86 (by decide)
              have k87 : tm.getD 87 undef = u87 := hfr 87 (by decide)
              have k88 : tm.getD 88 undef = u88 := hfr 88 (by decide)
              have k89 : tm.getD 89 undef = u89 := hfr 89 (by decide)
              have k90 : tm.getD 90 undef = u90 := hfr 90 (by decide)
              have k91 : tm.getD 91 undef = u91 := hfr 91 (by decide)
              have k92 : tm.getD 92 undef = Value.int IntKind.i64 0 := hfr 92 (by decide)
              have k93 : tm.getD 93 undef = Value.bool true := hfr 93 (by decide)
              have k94 : tm.getD 94 undef = Value.int IntKind.i64 0 := hfr 94 (by decide)
              have k95 : tm.getD 95 undef = Value.pointer (some { block := p, off := 0 }) := hfr 95 (by decide)
              have k96 : tm.getD 96 undef = Value.int IntKind.i64 0 := hfr 96 (by decide)
              have k97 : tm.getD 97 undef = Value.pointer (some { block := p, off := 0 }) := hfr 97 (by decide)
              have k98 : tm.getD 98 undef = Value.pointer (some { block := p, off := 2 }) := hfr 98 (by decide)
              have k99 : tm.getD 99 undef = Value.pointer (some { block := p, off := 2 }) := hfr 99 (by decide)
              have k100 : tm.getD 100 undef = Value.slice (some { block := ga, off := 0 }) N ca := hfr 100 (by decide)
              have k101 : tm.getD 101 undef = Value.pointer (some { block := p, off := 0 }) := hfr 101 (by decide)
              have k102 : tm.getD 102 undef = Value.int IntKind.i64 0 := hfr 102 (by decide)
              have k103 : tm.getD 103 undef = Value.pointer (some { block := p, off := 0 }) := hfr 103 (by decide)
              have k104 : tm.getD 104 undef = Value.pointer (some { block := p, off := 2 }) := hfr 104 (by decide)
              have k105 : tm.getD 105 undef = Value.pointer (some { block := p, off := 2 }) := hfr 105 (by decide)
              have k106 : tm.getD 106 undef = Value.slice (some { block := ga, off := 0 }) N ca := hfr 106 (by decide)
              have k107 : tm.getD 107 undef = Value.int IntKind.i64 ↑N := hfr 107 (by decide)
              have k141 : tm.getD 141 undef = u141 := hfr 141 (by decide)
              have k142 : tm.getD 142 undef = u142 := hfr 142 (by decide)
              have k143 : tm.getD 143 undef = undef := hfr 143 (by decide)
              have k144 : tm.getD 144 undef = undef := hfr 144 (by decide)
              have k145 : tm.getD 145 undef = undef := hfr 145 (by decide)
              have k146 : tm.getD 146 undef = undef := hfr 146 (by decide)
              have k147 : tm.getD 147 undef = undef := hfr 147 (by decide)
              have k148 : tm.getD 148 undef = undef := hfr 148 (by decide)
              have k149 : tm.getD 149 undef = undef := hfr 149 (by decide)
              have k150 : tm.getD 150 undef = undef := hfr 150 (by decide)
              have k151 : tm.getD 151 undef = undef := hfr 151 (by decide)
              have k152 : tm.getD 152 undef = undef := hfr 152 (by decide)
              have k153 : tm.getD 153 undef = undef := hfr 153 (by decide)
              have k154 : tm.getD 154 undef = undef := hfr 154 (by decide)
              have k155 : tm.getD 155 undef = undef := hfr 155 (by decide)
              have k156 : tm.getD 156 undef = undef := hfr 156 (by decide)
              have k157 : tm.getD 157 undef = undef := hfr 157 (by decide)
              have k158 : tm.getD 158 undef = undef := hfr 158 (by decide)
              have k159 : tm.getD 159 undef = undef := hfr 159 (by decide)
              have k160 : tm.getD 160 undef = undef := hfr 160 (by decide)
              have k161 : tm.getD 161 undef = undef := hfr 161 (by decide)
              have k162 : tm.getD 162 undef = undef := hfr 162 (by decide)
              have k163 : tm.getD 163 undef = undef := hfr 163 (by decide)
              have k164 : tm.getD 164 undef = undef := hfr 164 (by decide)
              have k165 : tm.getD 165 undef = undef := hfr 165 (by decide)
              have k166 : tm.getD 166 undef = undef := hfr 166 (by decide)
              have k167 : tm.getD 167 undef = undef := hfr 167 (by decide)
              have k168 : tm.getD 168 undef = undef := hfr 168 (by decide)
              have k169 : tm.getD 169 undef = undef := hfr 169 (by decide)
              have k170 : tm.getD 170 undef = undef := hfr 170 (by decide)
              have k171 : tm.getD 171 undef = undef := hfr 171 (by decide)
              have k172 : tm.getD 172 undef = undef := hfr 172 (by decide)
              have k173 : tm.getD 173 undef = undef := hfr 173 (by decide)
              have k174 : tm.getD 174 undef = undef := hfr 174 (by decide)
              have k175 : tm.getD 175 undef = undef := hfr 175 (by decide)
              have k176 : tm.getD 176 undef = undef := hfr 176 (by decide)
              have k177 : tm.getD 177 undef = undef := hfr 177 (by decide)
              have k178 : tm.getD 178 undef = undef := hfr 178 (by decide)
              have k179 : tm.getD 179 undef = undef := hfr 179 (by decide)
              have k180 : tm.getD 180 undef = undef := hfr 180 (by decide)
              have k181 : tm.getD 181 undef = undef := hfr 181 (by decide)
              have k182 : tm.getD 182 undef = undef := hfr 182 (by decide)
              have k183 : tm.getD 183 undef = undef := hfr 183 (by decide)
              have k184 : tm.getD 184 undef = undef := hfr 184 (by decide)
              have k185 : tm.getD 185 undef = undef := hfr 185 (by decide)
              have k186 : tm.getD 186 undef = undef := hfr 186 (by decide)
              have k187 : tm.getD 187 undef = undef := hfr 187 (by decide)
              have k188 : tm.getD 188 undef = undef := hfr 188 (by decide)
              have k189 : tm.getD 189 undef = undef := hfr 189 (by decide)
              have k190 : tm.getD 190 undef = undef := hfr 190 (by decide)
              have k191 : tm.getD 191 undef = undef := hfr 191 (by decide)
              have k192 : tm.getD 192 undef = undef := hfr 192 (by decide)
              have k193 : tm.getD 193 undef = undef := hfr 193 (by decide)
              have k194 : tm.getD 194 undef = undef := hfr 194 (by decide)
              have k195 : tm.getD 195 undef = undef := hfr 195 (by decide)
              have k196 : tm.getD 196 undef = undef := hfr 196 (by decide)
              have k197 : tm.getD 197 undef = undef := hfr 197 (by decide)
              have k198 : tm.getD 198 undef = undef := hfr 198 (by decide)
              have k199 : tm.getD 199 undef = undef := hfr 199 (by decide)
              have k200 : tm.getD 200 undef = undef := hfr 200 (by decide)
              have k201 : tm.getD 201 undef = undef := hfr 201 (by decide)
              have k202 : tm.getD 202 undef = undef := hfr 202 (by decide)
              have k203 : tm.getD 203 undef = undef := hfr 203 (by decide)
              have k204 : tm.getD 204 undef = undef := hfr 204 (by decide)
              have k205 : tm.getD 205 undef = undef := hfr 205 (by decide)
              have k206 : tm.getD 206 undef = undef := hfr 206 (by decide)
              have k207 : tm.getD 207 undef = undef := hfr 207 (by decide)
              have k208 : tm.getD 208 undef = undef := hfr 208 (by decide)
              have k209 : tm.getD 209 undef = undef := hfr 209 (by decide)
              have k210 : tm.getD 210 undef = undef := hfr 210 (by decide)
              have k211 : tm.getD 211 undef = undef := hfr 211 (by decide)
              have k212 : tm.getD 212 undef = undef := hfr 212 (by decide)
              have k213 : tm.getD 213 undef = undef := hfr 213 (by decide)
              have k214 : tm.getD 214 undef = undef := hfr 214 (by decide)
              have k215 : tm.getD 215 undef = undef := hfr 215 (by decide)
              have k11 : tm.getD 11 undef = .string X := hfr 11 (by decide)
              have k108 : tm.getD 108 undef = .int .i64 (i : Int) := hfr 108 (by decide)
              obtain ⟨vt0, ct0, _, _, hpt, hkt⟩ : ∃ (v : Value) (c : Int), tm.getD 124 undef = .tuple #[v, .int .i64 c] ∧ w6.ownsRow B 9 1 v (took (Sp.s 0) X Sp.now).2.length ((took (Sp.s 0) X Sp.now).2.map Value.string) ∧ PAt W w6 6 p g mo me rvi { Sp with s := put Sp.s 0 (took (Sp.s 0) X Sp.now).1 } ∧ KeepT (.slice none 0 0) wr w6 := AllG.get hG 11 (by decide)
              obtain ⟨_, hrow⟩ : _ ∧ w6.ownsRow B 9 1 (tm.getD 12 undef) (took (Sp.s 0) X Sp.now).2.length ((took (Sp.s 0) X Sp.now).2.map Value.string) := AllG.get hG 15 (by decide)
              obtain ⟨ct, kct⟩ : ∃ c : Int, tm.getD 126 undef = .int .i64 c := AllG.get hG 14 (by decide)
              have he : tm = #[tm.getD 0 undef, tm.getD 1 undef, tm.getD 2 undef, tm.getD 3 undef, tm.getD 4 undef, tm.getD 5 undef, tm.getD 6 undef, tm.getD 7 undef, tm.getD 8 undef, tm.getD 9 undef, tm.getD 10 undef, tm.getD 11 undef, tm.getD 12 undef, tm.getD 13 undef, tm.getD 14 undef, tm.getD 15 undef, tm.getD 16 undef, tm.getD 17 undef, tm.getD 18 undef, tm.getD 19 undef, tm.getD 20 undef, tm.getD 21 undef, tm.getD 22 undef, tm.getD 23 undef, tm.getD 24 undef, tm.getD 25 undef, tm.getD 26 undef, tm.getD 27 undef, tm.getD 28 undef, tm.getD 29 undef, tm.getD 30 undef, tm.getD 31 undef, tm.getD 32 undef, tm.getD 33 undef, tm.getD 34 undef, tm.getD 35 undef, tm.getD 36 undef, tm.getD 37 undef, tm.getD 38 undef, tm.getD 39 undef, tm.getD 40 undef, tm.getD 41 undef, tm.getD 42 undef, tm.getD 43 undef, tm.getD 44 undef, tm.getD 45 undef, tm.getD 46 undef, tm.getD 47 undef, tm.getD 48 undef, tm.getD 49 undef, tm.getD 50 undef, tm.getD 51 undef, tm.getD 52 undef, tm.getD 53 undef, tm.getD 54 undef, tm.getD 55 undef, tm.getD 56 undef, tm.getD 57 undef, tm.getD 58 undef, tm.getD 59 undef, tm.getD 60 undef, tm.getD 61 undef, tm.getD 62 undef, tm.getD 63 undef, tm.getD 64 undef, tm.getD 65 undef, tm.getD 66 undef, tm.getD 67 undef, tm.getD 68 undef, tm.getD 69 undef, tm.getD 70 undef, tm.getD 71 undef, tm.getD 72 undef, tm.getD 73 undef, tm.getD 74 undef, tm.getD 75 undef, tm.getD 76 undef, tm.getD 77 undef, tm.getD 78 undef, tm.getD 79 undef, tm.getD 80 undef, tm.getD 81 undef, tm.getD 82 undef, tm.getD 83 undef, tm.getD 84 undef, tm.getD 85 undef, tm.getD 86 undef, tm.getD 87 undef, tm.getD 88 undef, tm.getD 89 undef, tm.getD 90 undef, tm.getD 91 undef, tm.getD 92 undef, tm.getD 93 undef, tm.getD 94 undef, tm.getD 95 undef, tm.getD 96 undef, tm.getD 97 undef, tm.getD 98 undef, tm.getD 99 undef, tm.getD 100 undef, tm.getD 101 undef, tm.getD 102 undef, tm.getD 103 undef, tm.getD 104 undef, tm.getD 105 undef, tm.getD 106 undef, tm.getD 107 undef, tm.getD 108 undef, tm.getD 109 undef, tm.getD 110 undef, tm.getD 111 undef, tm.getD 112 undef, tm.getD 113 undef, tm.getD 114 undef, tm.getD 115 undef, tm.getD 116 undef, tm.getD 117 undef, tm.getD 118 undef, tm.getD 119 undef, tm.getD 120 undef, tm.getD 121 undef, tm.getD 122 undef, tm.getD 123 undef, tm.getD 124 undef, tm.getD 125 undef, tm.getD 126 undef, tm.getD 127 undef, tm.getD 128 undef, tm.getD 129 undef, tm.getD 130 undef, tm.getD 131 undef, tm.getD 132 undef, tm.getD 133 undef, tm.getD 134 undef, tm.getD 135 undef, tm.getD 136 undef, tm.getD 137 undef, tm.getD 138 undef, tm.getD 139 undef, tm.getD 140 undef, tm.getD 141 undef, tm.getD 142 undef, tm.getD 143 undef, tm.getD 144 undef, tm.getD 145 undef, tm.getD 146 undef, tm.getD 147 undef, tm.getD 148 undef, tm.getD 149 undef, tm.getD 150 undef, tm.getD 151 undef, tm.getD 152 undef, tm.getD 153 undef, tm.getD 154 undef, tm.getD 155 undef, tm.getD 156 undef, tm.getD 157 undef, tm.getD 158 undef, tm.getD 159 undef, tm.getD 160 undef, tm.getD 161 undef, tm.getD 162 undef, tm.getD 163 undef, tm.getD 164 undef, tm.getD 165 undef, tm.getD 166 undef, tm.getD 167 undef, tm.getD 168 undef, tm.getD 169 undef, tm.getD 170 undef, tm.getD 171 undef, tm.getD 172 undef, tm.getD 173 undef, tm.getD 174 undef, tm.getD 175 undef, tm.getD 176 undef, tm.getD 177 undef, tm.getD 178 undef, tm.getD 179 undef, tm.getD 180 undef, tm.getD 181 undef, tm.getD 182 undef, tm.getD 183 undef, tm.getD 184 undef, tm.getD 185 undef, tm.getD 186 undef, tm.getD 187 undef, tm.getD 188 undef, tm.getD 189 undef, tm.getD 190 undef, tm.getD 191 undef, tm.getD 192 undef, tm.getD 193 undef, tm.getD 194 undef, tm.getD 195 undef, tm.getD 196 undef, tm.getD 197 undef, tm.getD 198 undef, tm.getD 199 undef, tm.getD 200 undef, tm.getD 201 undef, tm.getD 202 undef, tm.getD 203 undef, tm.getD 204 undef, tm.getD 205 undef, tm.getD 206 undef, tm.getD 207 undef, tm.getD 208 undef, tm.getD 209 undef, tm.getD 210 undef, tm.getD 211 undef, tm.getD 212 undef, tm.getD 213 undef, tm.getD 214 undef, tm.getD 215 undef] := arr_eta (n := 216) hsz
              replace hdf : df = [] := hdf
              subst hdf
              clear hsz hfr hG
              rw [he, kct, k0, k1, k2, k3, k4, k5, k6, k7, k8, k9, k10, k14, k15, k16, k17, k18, k19, k20, k21, k22, k23, k24, k25, k26, k27, k28, k29, k30, k31, k32, k33, k34, k35, k36, k37, k38, k39, k40, k41, k42, k43, k44, k45, k46, k47, k48, k49, k50, k51, k52, k53, k54, k55, k56, k57, k58, k59, k60, k61, k62, k63, k64, k65, k66, k67, k68, k69, k70, k71, k72, k73, k74, k75, k76, k77, k78, k79, k80, k81, k82, k83, k84, k85, k86, k87, k88, k89, k90, k91, k92, k93, k94, k95, k96, k97, k98, k99, k100, k101, k102, k103, k104, k105, k106, k107, k141, k142, k143, k144, k145, k146, k147, k148, k149, k150, k151, k152, k153, k154, k155, k156, k157, k158, k159, k160, k161, k162, k163, k164, k165, k166, k167, k168, k169, k170, k171, k172, k173, k174, k175, k176, k177, k178, k179, k180, k181, k182, k183, k184, k185, k186, k187, k188, k189, k190, k191, k192, k193, k194, k195, k196, k197, k198, k199, k200, k201, k202, k203, k204, k205, k206, k207, k208, k209, k210, k211, k212, k213, k214, k215, k11, k108]
              clear he kct k0 k1 k2 k3 k4 k5 k6 k7 k8 k9 k10 k14 k15 k16 k17 k18 k19 k20 k21 k22 k23 k24 k25 k26 k27 k28 k29 k30 k31 k32 k33 k34 k35 k36 k37 k38 k39 k40 k41 k42 k43 k44 k45 k46 k47 k48 k49 k50 k51 k52 k53 k54 k55 k56 k57 k58 k59 k60 k61 k62 k63 k64 k65 k66 k67 k68 k69 k70 k71 k72 k73 k74 k75 k76 k77 k78 k79 k80 k81 k82 k83 k84 k85 k86 k87 k88 k89 k90 k91 k92 k93 k94 k95 k96 k97 k98 k99 k100 k101 k102 k103 k104 k105 k106 k107 k141 k142 k143 k144 k145 k146 k147 k148 k149 k150 k151 k152 k153 k154 k155 k156 k157 k158 k159 k160 k161 k162 k163 k164 k165 k166 k167 k168 k169 k170 k171 k172 k173 k174 k175 k176 k177 k178 k179 k180 k181 k182 k183 k184 k185 k186 k187 k188 k189 k190 k191 k192 k193 k194 k195 k196 k197 k198 k199 k200 k201 k202 k203 k204 k205 k206 k207 k208 k209 k210 k211 k212 k213 k214 k215 k11 k108
              generalize tm.getD 12 undef = vv at hrow ⊢
              generalize tm.getD 13 undef = x13
              generalize tm.getD 109 undef = x109
              generalize tm.getD 110 undef = x110
              generalize tm.getD 111 undef = x111
              generalize tm.getD 112 undef = x112
              generalize tm.getD 113 undef = x113
              generalize tm.getD 114 undef = x114
              generalize tm.getD 115 undef = x115
              generalize tm.getD 116 undef = x116
              generalize tm.getD 117 undef = x117
              generalize tm.getD 118 undef = x118
              generalize tm.getD 119 undef = x119
              generalize tm.getD 120 undef = x120
              generalize tm.getD 121 undef = x121
              generalize tm.getD 122 undef = x122
              generalize tm.getD 123 undef = x123
              generalize tm.getD 124 undef = x124
              generalize tm.getD 125 undef = x125
              generalize tm.getD 127 undef = x127
              generalize tm.getD 128 undef = x128
              generalize tm.getD 129 undef = x129
              generalize tm.getD 130 undef = x130
              generalize tm.getD 131 undef = x131
              generalize tm.getD 132 undef = x132
              generalize tm.getD 133 undef = x133
              generalize tm.getD 134 undef = x134
              generalize tm.getD 135 undef = x135
              generalize tm.getD 136 undef = x136
              generalize tm.getD 137 undef = x137
              generalize tm.getD 138 undef = x138
              generalize tm.getD 139 undef = x139
              generalize tm.getD 140 undef = x140
              simp only [List.drop_succ_cons, List.drop_zero]
              clear hPE HT HPA HPI
              obtain ⟨M, hM⟩ : ∃ M, M = (took (Sp.s 0) X Sp.now).2 := ⟨_, rfl⟩
              obtain ⟨Sq, hSq⟩ : ∃ Sq : PS, Sq = { Sp with s := put Sp.s 0 (took (Sp.s 0) X Sp.now).1 } := ⟨_, rfl⟩
              rw [← hM] at hrow HML0
              rw [← hSq] at hpt
              have hnx : S3.part 0 (i + 1) = { Sq with L := put Sq.L 4 (Sq.L 4 ++ M) } := by rw [HNX.out, hSq, hM]
              have HNXQ := Lib.hid hnx
              have HML : Hid (M.length ≤ 20000) := Lib.hid (by have := HML0.out; omega)
              have HLN2 : Hid (∀ z, z < 6 → (Sq.L z).length ≤ 20000) := Lib.hid (by rw [hSq]; exact HLN.out)
              clear HLN hSq hM hnx
              have HLN := HLN2
              clear HLN2
              have HRI6 := Lib.hid (hkt.row HRI.out (fun b _ e => by cases e))
              have HVV := Lib.hid hrow
              have HPA := Lib.hid hpt
              have hp0 := hpt
              clear hrow hpt hkt HRI HBW
              go_upto_region 26 with fail
              generalize w6 = W7 at *
              have HT : Hid (p1Ph W7 false W7.drew) := Lib.hid (fun _ => (Only.refl _ W7).drew)
              obtain ⟨B, hB⟩ : ∃ B, B = W7.heap.size := ⟨_, rfl⟩
              have HBW : Hid (W7.heap.size = B) := Lib.hid hB.symm
              clear hB
              refine wp_region_phasedk_tail 13 b0sDs b0sNeed b0sGs b0sLate b0sEarly (fun L w' => p1Ph W7 (L 9) w') (fun i w w' => Only (p1St 9 i) w w') (b0sG W B p p g mo me rvi Sq 0 0 ⟨#[]⟩ false vv M W7) rfl rfl (by kernel_rfl) (by kernel_rfl) (by kernel_rfl) (by kernel_rfl) (by kernel_rfl) (by kernel_rfl) HT.out b0sG.keep b0sG.guard (fun _ _ => Only.refl _ _) ?_ ?_
              · refine And.intro ?op0 (And.intro ?op1 (And.intro ?op2 (And.intro ?op3 (And.intro ?op4 (And.intro ?op5 (And.intro ?op6 (And.intro ?op7 (And.intro ?op8 (And.intro ?op9 (And.intro ?op10 (And.intro ?op11 (And.intro ?op12 trivial))))))))))))
                case op0 =>
                  intro L ev w1 hLi hlate hearly hT1 hc hf hfr hG
                  rw [if_pos (by decide)]
                  have hP : p1Ph W7 (L 9) w1 := hT1
                  have h5 : ev (.tmp 5) = .pointer (some ⟨p, 0, none⟩) := hfr 5 (by decide)
                  clear hG hfr
                  refine OpSays.value (v := .pointer (some ⟨p, 0, none⟩)) (w' := w1) ?_ ⟨hT1, Only.refl _ _, rfl⟩
                  go_simp
                case op1 =>
                  intro L ev w1 hLi hlate hearly hT1 hc hf hfr hG
                  rw [if_pos (by decide)]
                  have hP : p1Ph W7 (L 9) w1 := hT1
                  have h8 : ev (.tmp 8) = .int .i64 0 := hfr 8 (by decide)
                  clear hG hfr
                  refine OpSays.value (v := .int .i64 0) (w' := w1) ?_ ⟨hT1, Only.refl _ _, rfl⟩
                  go_simp
                case op2 =>
                  intro L ev w1 hLi hlate hearly hT1 hc hf hfr hG
                  rw [if_pos (by decide)]
                  have hP : p1Ph W7 (L 9) w1 := hT1
                  obtain ⟨hl9, _⟩ := hlate
                  rw [hl9] at hP
                  have h5 : ev (.tmp 5) = .pointer (some ⟨p, 0, none⟩) := hfr 5 (by decide)
                  clear hG hfr
                  refine OpSays.value (v := .pointer (some ⟨p, 0, none⟩)) (w' := w1) ?_ ⟨hT1, Only.refl _ _, rfl⟩
                  go_simp
                case op3 =>
                  intro L ev w1 hLi hlate hearly hT1 hc hf hfr hG
                  rw [if_pos (by decide)]
                  have hP : p1Ph W7 (L 9) w1 := hT1
                  obtain ⟨hl9, _⟩ := hlate
                  rw [hl9] at hP
                  have h8 : ev (.tmp 8) = .int .i64 0 := hfr 8 (by decide)
                  clear hG hfr
                  refine OpSays.value (v := .int .i64 0) (w' := w1) ?_ ⟨hT1, Only.refl _ _, rfl⟩
                  go_simp
                case op4 =>
                  intro L ev w1 hLi hlate hearly hT1 hc hf hfr hG
                  rw [if_pos (by decide)]
                  have hP : p1Ph W7 (L 9) w1 := hT1
                  obtain ⟨hl9, _⟩ := hlate
                  rw [hl9] at hP
                  have hg : (ev (.tmp 129) = .pointer (some ⟨p, 0, none⟩)) ∧ True := hG
                  obtain ⟨g2, _⟩ := hg
                  clear hG hfr
                  refine OpSays.value (v := .pointer (some ⟨p, 0, none⟩)) (w' := w1) ?_ ⟨hT1, Only.refl _ _, rfl⟩
                  go_simp
                case op5 =>
                  intro L ev w1 hLi hlate hearly hT1 hc hf hfr hG
                  rw [if_pos (by decide)]
                  have hP : p1Ph W7 (L 9) w1 := hT1
                  obtain ⟨hl9, _⟩ := hlate
                  rw [hl9] at hP
                  have hg : (ev (.tmp 131) = .pointer (some ⟨p, 0, none⟩)) ∧ True := hG
                  obtain ⟨g4, _⟩ := hg
                  clear hG hfr
                  refine OpSays.value (v := .pointer (some ⟨p, 6, none⟩)) (w' := w1) ?_ ⟨hT1, Only.refl _ _, rfl⟩
                  go_simp
                case op6 =>
                  intro L ev w1 hLi hlate hearly hT1 hc hf hfr hG
                  rw [if_pos (by decide)]
                  have hP : p1Ph W7 (L 9) w1 := hT1
                  obtain ⟨hl9, _⟩ := hlate
                  rw [hl9] at hP
                  have hg : (ev (.tmp 130) = .int .i64 0) ∧ (ev (.tmp 132) = .pointer (some ⟨p, 6, none⟩)) ∧ True := hG
                  obtain ⟨g3, g5, _⟩ := hg
                  clear hG hfr
                  refine OpSays.value (v := .pointer (some ⟨p, 6, none⟩)) (w' := w1) ?_ ⟨hT1, Only.refl _ _, rfl⟩
                  go_simp
                case op7 =>
                  intro L ev w1 hLi hlate hearly hT1 hc hf hfr hG
                  rw [if_pos (by decide)]
                  have hP : p1Ph W7 (L 9) w1 := hT1
                  obtain ⟨hl9, _⟩ := hlate
                  rw [hl9] at hP
                  have hg : (ev (.tmp 133) = .pointer (some ⟨p, 6, none⟩)) ∧ True := hG
                  obtain ⟨g6, _⟩ := hg
                  clear hG hfr
                  have c : w1.cell? ⟨p, 6, none⟩ = some (rvi 4) := (HPA.out.keep (hP rfl)).cRow (i := 4) (by decide)
                  refine OpSays.value (v := rvi 4) (w' := w1) ?_ ⟨hT1, Only.refl _ _, rfl⟩
                  go_simp
                case op8 =>
                  intro L ev w1 hLi hlate hearly hT1 hc hf hfr hG
                  rw [if_pos (by decide)]
                  have hP : p1Ph W7 (L 9) w1 := hT1
                  obtain ⟨hl9, _⟩ := hlate
                  rw [hl9] at hP
                  have h12 : ev (.tmp 12) = vv := hfr 12 (by decide)
                  clear hG hfr
                  refine OpSays.value (v := vv) (w' := w1) ?_ ⟨hT1, Only.refl _ _, rfl⟩
                  go_simp
                case op9 =>
                  intro L ev w1 hLi hlate hearly hT1 hc hf hfr hG
                  rw [if_pos (by decide)]
                  have hP : p1Ph W7 (L 9) w1 := hT1
                  rw [hLi] at hP
                  change OpSays _ _ _ _ (fun v w' => p1Ph W7 (true) w' ∧ _ ∧ _)
                  have hg : (ev (.tmp 134) = rvi 4) ∧ (ev (.tmp 135) = vv) ∧ True := hG
                  obtain ⟨g7, g8, _⟩ := hg
                  clear hG hfr
                  have hpa := HPA.out.keep (hP rfl)
                  obtain ⟨v2, w2, hr, h1, h2, h3⟩ := append_texts w1 43 W.heap.size _ vv (Sq.L 4) M (hpa.rows 4 (by decide) (by decide)) (row_src (row_keepS HVV.out (hP rfl) (fun _ _ h => h))) hpa.only.size (by have := HLN.out 4 (by decide); have := HML.out; omega)
                  refine OpSays.value (v := v2) (w' := w2) ?_ ⟨fun e => (by cases e), (Only.of_grown h2).mono (fun _ _ _ => rfl), h1, fun b hb => (h3 b hb).imp id (fun h => by have := (hP rfl).size; have := HBW.out; omega), hpa.grown (by decide) h2, fun b o h1 hb => (Only.of_grown h2).at ((hP rfl).at hb (fun h => h)) (fun e => h1 e.symm)⟩
                  unfold execOp
                  simp only [resolve, invoke, builtin, Sem.run_bind, Sem.run_pure, Result.andThen_ok, List.map_toArray, List.map_cons, List.map_nil, g7, g8, hr]
                case op10 =>
                  intro L ev w1 hLi hlate hearly hT1 hc hf hfr hG
                  rw [if_pos (by decide)]
                  have hP : p1Ph W7 (L 9) w1 := hT1
                  have hg : (ev (.tmp 127) = .pointer (some ⟨p, 0, none⟩)) ∧ True := hG
                  obtain ⟨g0, _⟩ := hg
                  clear hG hfr
                  refine OpSays.value (v := .pointer (some ⟨p, 0, none⟩)) (w' := w1) ?_ ⟨hT1, Only.refl _ _, rfl⟩
                  go_simp
                case op11 =>
                  intro L ev w1 hLi hlate hearly hT1 hc hf hfr hG
                  rw [if_pos (by decide)]
                  have hP : p1Ph W7 (L 9) w1 := hT1
                  have hg : (ev (.tmp 137) = .pointer (some ⟨p, 0, none⟩)) ∧ True := hG
                  obtain ⟨g10, _⟩ := hg
                  clear hG hfr
                  refine OpSays.value (v := .pointer (some ⟨p, 6, none⟩)) (w' := w1) ?_ ⟨hT1, Only.refl _ _, rfl⟩
                  go_simp
                case op12 =>
                  intro L ev w1 hLi hlate hearly hT1 hc hf hfr hG
                  rw [if_pos (by decide)]
                  have hP : p1Ph W7 (L 9) w1 := hT1
                  have hg : (ev (.tmp 128) = .int .i64 0) ∧ (ev (.tmp 138) = .pointer (some ⟨p, 6, none⟩)) ∧ True := hG
                  obtain ⟨g1, g11, _⟩ := hg
                  clear hG hfr
                  refine OpSays.value (v := .pointer (some ⟨p, 6, none⟩)) (w' := w1) ?_ ⟨hT1, Only.refl _ _, rfl⟩
                  go_simp
              rintro L ⟨tm, df⟩ w8 hL hT1 hsz hdf hfr hG
              have hPE : p1Ph W7 (true) w8 := by
                have hP : p1Ph W7 (L 9) w8 := hT1
                have hm := fun k (hk : k ∈ List.range 13) => AllB.get hL k hk
                rw [hm 9 (by decide)] at hP
                exact hP
              clear hT1 hL
              have k0 : tm.getD 0 undef = Value.int IntKind.i64 ro := hfr 0 (by decide)
              have k1 : tm.getD 1 undef = Value.slice a n cap := hfr 1 (by decide)
              have k2 : tm.getD 2 undef = undef := hfr 2 (by decide)
              have k3 : tm.getD 3 undef = undef := hfr 3 (by decide)
              have k4 : tm.getD 4 undef = u4 := hfr 4 (by decide)
              have k5 : tm.getD 5 undef = .pointer (some ⟨p, 0, none⟩) := hfr 5 (by decide)
              have k6 : tm.getD 6 undef = u6 := hfr 6 (by decide)
              have k7 : tm.getD 7 undef = u7 := hfr 7 (by decide)
              have k8 : tm.getD 8 undef = .int .i64 0 := hfr 8 (by decide)
              have k9 : tm.getD 9 undef = Value.slice (some { block := ga, off := 0 }) N ca := hfr 9 (by decide)
              have k10 : tm.getD 10 undef = undef := hfr 10 (by decide)
              have k14 : tm.getD 14 undef = undef := hfr 14 (by decide)
              have k15 : tm.getD 15 undef = undef := hfr 15 (by decide)
              have k16 : tm.getD 16 undef = undef := hfr 16 (by decide)
              have k17 : tm.getD 17 undef = undef := hfr 17 (by decide)
              have k18 : tm.getD 18 undef = Value.int IntKind.i64 ro := hfr 18 (by decide)
              have k19 : tm.getD 19 undef = Value.int IntKind.i64 (ro % 8) := hfr 19 (by decide)
              have k20 : tm.getD 20 undef = Value.int IntKind.i64 R := hfr 20 (by decide)
              have k21 : tm.getD 21 undef = Value.pointer (some { block := p, off := 0 }) := hfr 21 (by decide)
              have k22 : tm.getD 22 undef = Value.pointer (some { block := p, off := 0 }) := hfr 22 (by decide)
              have k23 : tm.getD 23 undef = Value.bool false := hfr 23 (by decide)
              have k24 : tm.getD 24 undef = Value.bool false := hfr 24 (by decide)
              have k25 : tm.getD 25 undef = Value.bool true := hfr 25 (by decide)
              have k26 : tm.getD 26 undef = Value.bool false := hfr 26 (by decide)
              have k27 : tm.getD 27 undef = Value.bool false := hfr 27 (by decide)
              have k28 : tm.getD 28 undef = u28 := hfr 28 (by decide)
              have k29 : tm.getD 29 undef = u29 := hfr 29 (by decide)
              have k30 : tm.getD 30 undef = u30 := hfr 30 (by decide)
              have k31 : tm.getD 31 undef = u31 := hfr 31 (by decide)
              have k32 : tm.getD 32 undef = u32 := hfr 32 (by decide)
              have k33 : tm.getD 33 undef = u33 := hfr 33 (by decide)
              have k34 : tm.getD 34 undef = u34 := hfr 34 (by decide)
              have k35 : tm.getD 35 undef = u35 := hfr 35 (by decide)
              have k36 : tm.getD 36 undef = u36 := hfr 36 (by decide)
              have k37 : tm.getD 37 undef = u37 := hfr 37 (by decide)
              have k38 : tm.getD 38 undef = u38 := hfr 38 (by decide)
              have k39 : tm.getD 39 undef = u39 := hfr 39 (by decide)
              have k40 : tm.getD 40 undef = u40 := hfr 40 (by decide)
              have k41 : tm.getD 41 undef = u41 := hfr 41 (by decide)
              have k42 : tm.getD 42 undef = u42 := hfr 42 (by decide)
              have k43 : tm.getD 43 undef = u43 := hfr 43 (by decide)
              have k44 : tm.getD 44 undef = u44 := hfr 44 (by decide)
              have k45 : tm.getD 45 undef = u45 := hfr 45 (by decide)
              have k46 : tm.getD 46 undef = u46 := hfr 46 (by decide)
              have k47 : tm.getD 47 undef = u47 := hfr 47 (by decide)
              have k48 : tm.getD 48 undef = u48 := hfr 48 (by decide)
              have k49 : tm.getD 49 undef = u49 := hfr 49 (by decide)
              have k50 : tm.getD 50 undef = u50 := hfr 50 (by decide)
              have k51 : tm.getD 51 undef = u51 := hfr 51 (by decide)
              have k52 : tm.getD 52 undef = u52 := hfr 52 (by decide)
              have k53 : tm.getD 53 undef = u53 := hfr 53 (by decide)
              have k54 : tm.getD 54 undef = Value.int IntKind.i64 (k : Int) := hfr 54 (by decide)
              have k55 : tm.getD 55 undef = Value.bool (decide ((k : Int) < 40)) := hfr 55 (by decide)
              have k56 : tm.getD 56 undef = Value.pointer (some { block := p, off := 0 }) := hfr 56 (by decide)
              have k57 : tm.getD 57 undef = Value.pointer (some { block := p, off := 0 }) := hfr 57 (by decide)
              have k58 : tm.getD 58 undef = Value.pointer (some { block := p, off := 8 }) := hfr 58 (by decide)
              have k59 : tm.getD 59 undef = Value.int IntKind.i64 S.now := hfr 59 (by decide)
              have k60 : tm.getD 60 undef = Value.int IntKind.i64 (S.now + 2) := hfr 60 (by decide)
              have k61 : tm.getD 61 undef = Value.pointer (some { block := p, off := 0 }) := hfr 61 (by decide)
              have k62 : tm.getD 62 undef = Value.pointer (some { block := p, off := 8 }) := hfr 62 (by decide)
              have k63 : tm.getD 63 undef = u63 := hfr 63 (by decide)
              have k64 : tm.getD 64 undef = u64 := hfr 64 (by decide)
              have k65 : tm.getD 65 undef = u65 := hfr 65 (by decide)
              have k66 : tm.getD 66 undef = u66 := hfr 66 (by decide)
              have k67 : tm.getD 67 undef = u67 := hfr 67 (by decide)
              have k68 : tm.getD 68 undef = u68 := hfr 68 (by decide)
              have k69 : tm.getD 69 undef = u69 := hfr 69 (by decide)
              have k70 : tm.getD 70 undef = u70 := hfr 70 (by decide)
              have k71 : tm.getD 71 undef = u71 := hfr 71 (by decide)
              have k72 : tm.getD 72 undef = u72 := hfr 72 (by decide)
              have k73 : tm.getD 73 undef = u73 := hfr 73 (by decide)
              have k74 : tm.getD 74 undef = u74 := hfr 74 (by decide)
              have k75 : tm.getD 75 undef = u75 := hfr 75 (by decide)
              have k76 : tm.getD 76 undef = u76 := hfr 76 (by decide)
              have k77 : tm.getD 77 undef = u77 := hfr 77 (by decide)
              have k78 : tm.getD 78 undef = u78 := hfr 78 (by decide)
              have k79 : tm.getD 79 undef = u79 := hfr 79 (by decide)
              have k80 : tm.getD 80 undef = u80 := hfr 80 (by decide)
              have k81 : tm.getD 81 undef = u81 := hfr 81 (by decide)
              have k82 : tm.getD 82 undef = u82 := hfr 82 (by decide)
              have k83 : tm.getD 83 undef = u83 := hfr 83 (by decide)
              have k84 : tm.getD 84 undef = u84 := hfr 84 (by decide)
              have k85 : tm.getD 85 undef = u85 := hfr 85 (by decide)
              have k86 : tm.getD 86 undef = u86 := hfr 86 (by decide)
              have k87 : tm.getD 87 undef = u87 := hfr 87 (by decide)
              have k88 : tm.getD 88 undef = u88 := hfr 88 (by decide)
              have k89 : tm.getD 89 undef = u89 := hfr 89 (by decide)
              have k90 : tm.getD 90 undef = u90 := hfr 90 (by decide)
              have k91 : tm.getD 91 undef = u91 := hfr 91 (by decide)
              have k92 : tm.getD 92 undef = Value.int IntKind.i64 0 := hfr 92 (by decide)
              have k93 : tm.getD 93 undef = Value.bool true := hfr 93 (by decide)
              have k94 : tm.getD 94 undef = Value.int IntKind.i64 0 := hfr 94 (by decide)
              have k95 : tm.getD 95 undef = Value.pointer (some { block := p, off := 0 }) := hfr 95 (by decide)
              have k96 : tm.getD 96 undef = Value.int IntKind.i64 0 := hfr 96 (by decide)
              have k97 : tm.getD 97 undef = Value.pointer (some { block := p, off := 0 }) := hfr 97 (by decide)
              have k98 : tm.getD 98 undef = Value.pointer (some { block := p, off := 2 }) := hfr 98 (by decide)
              have k99 : tm.getD 99 undef = Value.pointer (some { block := p, off := 2 }) := hfr 99 (by decide)
              have k100 : tm.getD 100 undef = Value.slice (some { block := ga, off := 0 }) N ca := hfr 100 (by decide)
              have k101 : tm.getD 101 undef = Value.pointer (some { block := p, off := 0 }) := hfr 101 (by decide)
              have k102 : tm.getD 102 undef = Value.int IntKind.i64 0 := hfr 102 (by decide)
              have k103 : tm.getD 103 undef = Value.pointer (some { block := p, off := 0 }) := hfr 103 (by decide)
              have k104 : tm.getD 104 undef = Value.pointer (some { block := p, off := 2 }) := hfr 104 (by decide)
              have k105 : tm.getD 105 undef = Value.pointer (some { block := p, off := 2 }) := hfr 105 (by decide)
              have k106 : tm.getD 106 undef = Value.slice (some { block := ga, off := 0 }) N ca := hfr 106 (by decide)
              have k107 : tm.getD 107 undef = Value.int IntKind.i64 ↑N := hfr 107 (by decide)
              have k141 : tm.getD 141 undef = u141 := hfr 141 (by decide)
              have k142 : tm.getD 142 undef = u142 := hfr 142 (by decide)
              have k143 : tm.getD 143 undef = undef := hfr 143 (by decide)
              have k144 : tm.getD 144 undef = undef := hfr 144 (by decide)
              have k145 : tm.getD 145 undef = undef := hfr 145 (by decide)
              have k146 : tm.getD 146 undef = undef := hfr 146 (by decide)
              have k147 : tm.getD 147 undef = undef := hfr 147 (by decide)
              have k148 : tm.getD 148 undef = undef := hfr 148 (by decide)
              have k149 : tm.getD 149 undef = undef := hfr 149 (by decide)
              have k150 : tm.getD 150 undef = undef := hfr 150 (by decide)
              have k151 : tm.getD 151 undef = undef := hfr 151 (by decide)
              have k152 : tm.getD 152 undef = undef := hfr 152 (by decide)
              have k153 : tm.getD 153 undef = undef := hfr 153 (by decide)
              have k154 : tm.getD 154 undef = undef := hfr 154 (by decide)
              have k155 : tm.getD 155 undef = undef := hfr 155 (by decide)
              have k156 : tm.getD 156 undef = undef := hfr 156 (by decide)
              have k157 : tm.getD 157 undef = undef := hfr 157 (by decide)
              have k158 : tm.getD 158 undef = undef := hfr 158 (by decide)
              have k159 : tm.getD 159 undef = undef := hfr 159 (by decide)
              have k160 : tm.getD 160 undef = undef := hfr 160 (by decide)
              have k161 : tm.getD 161 undef = undef := hfr 161 (by decide)
              have k162 : tm.getD 162 undef = undef := hfr 162 (by decide)
              have k163 : tm.getD 163 undef = undef := hfr 163 (by decide)
              have k164 : tm.getD 164 undef = undef := hfr 164 (by decide)
              have k165 : tm.getD 165 undef = undef := hfr 165 (by decide)
              have k166 : tm.getD 166 undef = undef := hfr 166 (by decide)
              have k167 : tm.getD 167 undef = undef := hfr 167 (by decide)
              have k168 : tm.getD 168 undef = undef := hfr 168 (by decide)
              have k169 : tm.getD 169 undef = undef := hfr 169 (by decide)
              have k170 : tm.getD 170 undef = undef := hfr 170 (by decide)
              have k171 : tm.getD 171 undef = undef := hfr 171 (by decide)
              have k172 : tm.getD 172 undef = undef := hfr 172 (by decide)
              have k173 : tm.getD 173 undef = undef := hfr 173 (by decide)
              have k174 : tm.getD 174 undef = undef := hfr 174 (by decide)
              have k175 : tm.getD 175 undef = undef := hfr 175 (by decide)
              have k176 : tm.getD 176 undef = undef := hfr 176 (by decide)
              have k177 : tm.getD 177 undef = undef := hfr 177 (by decide)
              have k178 : tm.getD 178 undef = undef := hfr 178 (by decide)
              have k179 : tm.getD 179 undef = undef := hfr 179 (by decide)
              have k180 : tm.getD 180 undef = undef := hfr 180 (by decide)
              have k181 : tm.getD 181 undef = undef := hfr 181 (by decide)
              have k182 : tm.getD 182 undef = undef := hfr 182 (by decide)
              have k183 : tm.getD 183 undef = undef := hfr 183 (by decide)
              have k184 : tm.getD 184 undef = undef := hfr 184 (by decide)
              have k185 : tm.getD 185 undef = undef := hfr 185 (by decide)
              have k186 : tm.getD 186 undef = undef := hfr 186 (by decide)
              have k187 : tm.getD 187 undef = undef := hfr 187 (by decide)
              have k188 : tm.getD 188 undef = undef := hfr 188 (by decide)
              have k189 : tm.getD 189 undef = undef := hfr 189 (by decide)
              have k190 : tm.getD 190 undef = undef := hfr 190 (by decide)
              have k191 : tm.getD 191 undef = undef := hfr 191 (by decide)
              have k192 : tm.getD 192 undef = undef := hfr 192 (by decide)
              have k193 : tm.getD 193 undef = undef := hfr 193 (by decide)
              have k194 : tm.getD 194 undef = undef := hfr 194 (by decide)
              have k195 : tm.getD 195 undef = undef := hfr 195 (by decide)
              have k196 : tm.getD 196 undef = undef := hfr 196 (by decide)
              have k197 : tm.getD 197 undef = undef := hfr 197 (by decide)
              have k198 : tm.getD 198 undef = undef := hfr 198 (by decide)
              have k199 : tm.getD 199 undef = undef := hfr 199 (by decide)
              have k200 : tm.getD 200 undef = undef := hfr 200 (by decide)
              have k201 : tm.getD 201 undef = undef := hfr 201 (by decide)
              have k202 : tm.getD 202 undef = undef := hfr 202 (by decide)
              have k203 : tm.getD 203 undef = undef := hfr 203 (by decide)
              have k204 : tm.getD 204 undef = undef := hfr 204 (by decide)
              have k205 : tm.getD 205 undef = undef := hfr 205 (by decide)
              have k206 : tm.getD 206 undef = undef := hfr 206 (by decide)
              have k207 : tm.getD 207 undef = undef := hfr 207 (by decide)
              have k208 : tm.getD 208 undef = undef := hfr 208 (by decide)
              have k209 : tm.getD 209 undef = undef := hfr 209 (by decide)
              have k210 : tm.getD 210 undef = undef := hfr 210 (by decide)
              have k211 : tm.getD 211 undef = undef := hfr 211 (by decide)
              have k212 : tm.getD 212 undef = undef := hfr 212 (by decide)
              have k213 : tm.getD 213 undef = undef := hfr 213 (by decide)
              have k214 : tm.getD 214 undef = undef := hfr 214 (by decide)
              have k215 : tm.getD 215 undef = undef := hfr 215 (by decide)
              have k108 : tm.getD 108 undef = .int .i64 (i : Int) := hfr 108 (by decide)
              have k139 : tm.getD 139 undef = .pointer (some ⟨p, 6, none⟩) := AllG.get hG 12 (by decide)
              obtain ⟨hrow, hob, hpx, hkt⟩ : w8.ownsRow W.heap.size 9 1 (tm.getD 136 undef) (Sq.L 4 ++ M).length ((Sq.L 4 ++ M).map Value.string) ∧ (∀ b, (tm.getD 136 undef).ownBlock = some b → (rvi 4).ownBlock = some b ∨ B ≤ b) ∧ PAt W w8 4 p g mo me rvi Sq ∧ KeepT (rvi 4) W7 w8 := AllG.get hG 9 (by decide)
              have he : tm = #[tm.getD 0 undef, tm.getD 1 undef, tm.getD 2 undef, tm.getD 3 undef, tm.getD 4 undef, tm.getD 5 undef, tm.getD 6 undef, tm.getD 7 undef, tm.getD 8 undef, tm.getD 9 undef, tm.getD 10 undef, tm.getD 11 undef, tm.getD 12 undef, tm.getD 13 undef, tm.getD 14 undef, tm.getD 15 undef, tm.getD 16 undef, tm.getD 17 undef, tm.getD 18 undef, tm.getD 19 undef, tm.getD 20 undef, tm.getD 21 undef, tm.getD 22 undef, tm.getD 23 undef, tm.getD 24 undef, tm.getD 25 undef, tm.getD 26 undef, tm.getD 27 undef, tm.getD 28 undef, tm.getD 29 undef, tm.getD 30 undef, tm.getD 31 undef, tm.getD 32 undef, tm.getD 33 undef, tm.getD 34 undef, tm.getD 35 undef, tm.getD 36 undef, tm.getD 37 undef, tm.getD 38 undef, tm.getD 39 undef, tm.getD 40 undef, tm.getD 41 undef, tm.getD 42 undef, tm.getD 43 undef, tm.getD 44 undef, tm.getD 45 undef, tm.getD 46 undef, tm.getD 47 undef, tm.getD 48 undef, tm.getD 49 undef, tm.getD 50 undef, tm.getD 51 undef, tm.getD 52 undef, tm.getD 53 undef, tm.getD 54 undef, tm.getD 55 undef, tm.getD 56 undef, tm.getD 57 undef, tm.getD 58 undef, tm.getD 59 undef, tm.getD 60 undef, tm.getD 61 undef, tm.getD 62 undef, tm.getD 63 undef, tm.getD 64 undef, tm.getD 65 undef, tm.getD 66 undef, tm.getD 67 undef, tm.getD 68 undef, tm.getD 69 undef, tm.getD 70 undef, tm.getD 71 undef, tm.getD 72 undef, tm.getD 73 undef, tm.getD 74 undef, tm.getD 75 undef, tm.getD 76 undef, tm.getD 77 undef, tm.getD 78 undef, tm.getD 79 undef, tm.getD 80 undef, tm.getD 81 undef, tm.getD 82 undef, tm.getD 83 undef, tm.getD 84 undef, tm.getD 85 undef, tm.getD 86 undef, tm.getD 87 undef, tm.getD 88 undef, tm.getD 89 undef, tm.getD 90 undef, tm.getD 91 undef, tm.getD 92 undef, tm.getD 93 undef, tm.getD 94 undef, tm.getD 95 undef, tm.getD 96 undef, tm.getD 97 undef, tm.getD 98 undef, tm.getD 99 undef, tm.getD 100 undef, tm.getD 101 undef, tm.getD 102 undef, tm.getD 103 undef, tm.getD 104 undef, tm.getD 105 undef, tm.getD 106 undef, tm.getD 107 undef, tm.getD 108 undef, tm.getD 109 undef, tm.getD 110 undef, tm.getD 111 undef, tm.getD 112 undef, tm.getD 113 undef, tm.getD 114 undef, tm.getD 115 undef, tm.getD 116 undef, tm.getD 117 undef, tm.getD 118 undef, tm.getD 119 undef, tm.getD 120 undef, tm.getD 121 undef, tm.getD 122 undef, tm.getD 123 undef, tm.getD 124 undef, tm.getD 125 undef, tm.getD 126 undef, tm.getD 127 undef, tm.getD 128 undef, tm.getD 129 undef, tm.getD 130 undef, tm.getD 131 undef, tm.getD 132 undef, tm.getD 133 undef, tm.getD 134 undef, tm.getD 135 undef, tm.getD 136 undef, tm.getD 137 undef, tm.getD 138 undef, tm.getD 139 undef, tm.getD 140 undef, tm.getD 141 undef, tm.getD 142 undef, tm.getD 143 undef, tm.getD 144 undef, tm.getD 145 undef, tm.getD 146 undef, tm.getD 147 undef, tm.getD 148 undef, tm.getD 149 undef, tm.getD 150 undef, tm.getD 151 undef, tm.getD 152 undef, tm.getD 153 undef, tm.getD 154 undef, tm.getD 155 undef, tm.getD 156 undef, tm.getD 157 undef, tm.getD 158 undef, tm.getD 159 undef, tm.getD 160 undef, tm.getD 161 undef, tm.getD 162 undef, tm.getD 163 undef, tm.getD 164 undef, tm.getD 165 undef, tm.getD 166 undef, tm.getD 167 undef, tm.getD 168 undef, tm.getD 169 undef, tm.getD 170 undef, tm.getD 171 undef, tm.getD 172 undef, tm.getD 173 undef, tm.getD 174 undef, tm.getD 175 undef, tm.getD 176 undef, tm.getD 177 undef, tm.getD 178 undef, tm.getD 179 undef, tm.getD 180 undef, tm.getD 181 undef, tm.getD 182 undef, tm.getD 183 undef, tm.getD 184 undef, tm.getD 185 undef, tm.getD 186 undef, tm.getD 187 undef, tm.getD 188 undef, tm.getD 189 undef, tm.getD 190 undef, tm.getD 191 undef, tm.getD 192 undef, tm.getD 193 undef, tm.getD 194 undef, tm.getD 195 undef, tm.getD 196 undef, tm.getD 197 undef, tm.getD 198 undef, tm.getD 199 undef, tm.getD 200 undef, tm.getD 201 undef, tm.getD 202 undef, tm.getD 203 undef, tm.getD 204 undef, tm.getD 205 undef, tm.getD 206 undef, tm.getD 207 undef, tm.getD 208 undef, tm.getD 209 undef, tm.getD 210 undef, tm.getD 211 undef, tm.getD 212 undef, tm.getD 213 undef, tm.getD 214 undef, tm.getD 215 undef] := arr_eta (n := 216) hsz
              replace hdf : df = [] := hdf
              subst hdf
              clear hsz hfr hG
              rw [he, k0, k1, k2, k3, k4, k5, k6, k7, k8, k9, k10, k14, k15, k16, k17, k18, k19, k20, k21, k22, k23, k24, k25, k26, k27, k28, k29, k30, k31, k32, k33, k34, k35, k36, k37, k38, k39, k40, k41, k42, k43, k44, k45, k46, k47, k48, k49, k50, k51, k52, k53, k54, k55, k56, k57, k58, k59, k60, k61, k62, k63, k64, k65, k66, k67, k68, k69, k70, k71, k72, k73, k74, k75, k76, k77, k78, k79, k80, k81, k82, k83, k84, k85, k86, k87, k88, k89, k90, k91, k92, k93, k94, k95, k96, k97, k98, k99, k100, k101, k102, k103, k104, k105, k106, k107, k141, k142, k143, k144, k145, k146, k147, k148, k149, k150, k151, k152, k153, k154, k155, k156, k157, k158, k159, k160, k161, k162, k163, k164, k165, k166, k167, k168, k169, k170, k171, k172, k173, k174, k175, k176, k177, k178, k179, k180, k181, k182, k183, k184, k185, k186, k187, k188, k189, k190, k191, k192, k193, k194, k195, k196, k197, k198, k199, k200, k201, k202, k203, k204, k205, k206, k207, k208, k209, k210, k211, k212, k213, k214, k215, k108, k139]
              clear he k0 k1 k2 k3 k4 k5 k6 k7 k8 k9 k10 k14 k15 k16 k17 k18 k19 k20 k21 k22 k23 k24 k25 k26 k27 k28 k29 k30 k31 k32 k33 k34 k35 k36 k37 k38 k39 k40 k41 k42 k43 k44 k45 k46 k47 k48 k49 k50 k51 k52 k53 k54 k55 k56 k57 k58 k59 k60 k61 k62 k63 k64 k65 k66 k67 k68 k69 k70 k71 k72 k73 k74 k75 k76 k77 k78 k79 k80 k81 k82 k83 k84 k85 k86 k87 k88 k89 k90 k91 k92 k93 k94 k95 k96 k97 k98 k99 k100 k101 k102 k103 k104 k105 k106 k107 k141 k142 k143 k144 k145 k146 k147 k148 k149 k150 k151 k152 k153 k154 k155 k156 k157 k158 k159 k160 k161 k162 k163 k164 k165 k166 k167 k168 k169 k170 k171 k172 k173 k174 k175 k176 k177 k178 k179 k180 k181 k182 k183 k184 k185 k186 k187 k188 k189 k190 k191 k192 k193 k194 k195 k196 k197 k198 k199 k200 k201 k202 k203 k204 k205 k206 k207 k208 k209 k210 k211 k212 k213 k214 k215 k108 k139
              generalize tm.getD 11 undef = x11
              generalize tm.getD 12 undef = x12
              generalize tm.getD 13 undef = x13
              generalize tm.getD 109 undef = x109
              generalize tm.getD 110 undef = x110
              generalize tm.getD 111 undef = x111
              generalize tm.getD 112 undef = x112
              generalize tm.getD 113 undef = x113
              generalize tm.getD 114 undef = x114
              generalize tm.getD 115 undef = x115
              generalize tm.getD 116 undef = x116
              generalize tm.getD 117 undef = x117
              generalize tm.getD 118 undef = x118
              generalize tm.getD 119 undef = x119
              generalize tm.getD 120 undef = x120
              generalize tm.getD 121 undef = x121
              generalize tm.getD 122 undef = x122
              generalize tm.getD 123 undef = x123
              generalize tm.getD 124 undef = x124
              generalize tm.getD 125 undef = x125
              generalize tm.getD 126 undef = x126
              generalize tm.getD 127 undef = x127
              generalize tm.getD 128 undef = x128
              generalize tm.getD 129 undef = x129
              generalize tm.getD 130 undef = x130
              generalize tm.getD 131 undef = x131
              generalize tm.getD 132 undef = x132
              generalize tm.getD 133 undef = x133
              generalize tm.getD 134 undef = x134
              generalize tm.getD 135 undef = x135
              generalize tm.getD 136 undef = vb at hrow hob ⊢
              generalize tm.getD 137 undef = x137
              generalize tm.getD 138 undef = x138
              generalize tm.getD 140 undef = x140
              simp only [List.drop_succ_cons, List.drop_zero]
              clear hPE HT HPA
              obtain ⟨ab, cb, eb, _, _⟩ := row_texts hrow
              have x2 := (blk_cell hpx.blk 6).trans (show (pcells g rvi Sq.now)[6]? = some (rvi 4) from rfl)
              have f2 := blk_free hpx.blk 6
              have hst := hp0.app HBW.out hpx (by decide) hrow hob
              have hri8 := hkt.row HRI6.out HSI.out
              have hrk := row_keepS hri8 ((Only.refl (fun z => z = p) w8).setCell ⟨p, 6, none⟩ vb (fun _ => rfl)) (fun b hb e => by
                obtain ⟨cur, hc⟩ := row_block hri8 hb
                exact pair_texts hpx.blk hc e)
              have hsn : ∀ b, (Value.slice (some ⟨ga, 0, none⟩) N ca).ownBlock = some b → (put rvi 4 vb 4).ownBlock ≠ some b := by
                intro b hb e
                rw [put_at] at e
                rcases hob b e with h1 | h1
                · exact HSI.out b hb h1
                · have := (HRI6.out.lt b hb).2
                  have := HBW.out
                  omega
              rw [← HNXQ.out] at hst
              clear hrow hob hpx hp0 HBW hri8 hkt
              obtain ⟨nb, hnb⟩ : ∃ n, n = (Sq.L 4 ++ M).length := ⟨_, rfl⟩
              rw [← hnb] at eb
              clear hnb
              subst eb
              simp only [Nat.reduceAdd] at hst
              have HST := Lib.hid hst
              have HRK := Lib.hid hrk
              have HSN := Lib.hid hsn
              clear hst hrk hsn
              go_wp2_with fail
              generalize w8.setCell ⟨p, 6, none⟩ (.slice ab nb cb) = W9 at HST HRK ⊢
              clear x2 f2
              go_roundw
              case rel => exact ⟨i + 1, _, by go_num, by omega, HST.out, HRK.out, HSN.out⟩
              case measure => simp [intOf]; omega
            · have hiN2 : i = (S3.L 0).length := by rw [← HN.out]; omega
              have HPF : Hid (PAt W wr 6 p g mo me rvi (S3.recv 0)) := Lib.hid (by rw [← PS.part_all, ← hiN2]; exact hPi)
              clear hPi hri hsi hiN2
              obtain ⟨rv4, hrv4⟩ : ∃ r, r = rvi := ⟨_, rfl⟩
              obtain ⟨S4, hS4⟩ : ∃ S4 : PS, S4 = S3.recv 0 := ⟨_, rfl⟩
              have HP4 : Hid (PAt W wr 6 p g mo me rv4 S4) := Lib.hid (by rw [hS4, hrv4]; exact HPF.out)
              have HS4 := Lib.hid hS4
              clear hS4 hrv4 HPF HN HST0 HOLD HSEP
              generalize wr = w4 at HP4 ⊢
              have HPT4 : Hid (Pt S4 1 0) := Lib.hid (by
                rw [HS4.out]
                obtain ⟨h1, h2⟩ := HPT3.out.begun (S3.L 0).length
                rw [List.take_length] at h1 h2
                exact ⟨h1, fun X hX => (HPT3.out.wk' X hX).mono ⟨[], (List.append_nil _).symm⟩ h2.up, fun X hX => (by cases hX)⟩)
              have HLN4 : Hid (∀ z, z < 6 → (S4.L z).length ≤ 20000) := Lib.hid (by
                intro z hz
                have l4 := (two_right HPT4.out.two.swap.swap).2
                rw [HS4.out]
                show (put (put S3.L 0 []) 4 _ z).length ≤ _
                unfold put
                split
                · have : (S4.L 4).length ≤ 200 := by
                    have := (two_right HPT4.out.two).2
                    exact this
                  rw [HS4.out] at this
                  exact Nat.le_trans this (by decide)
                · split
                  · exact Nat.zero_le _
                  · exact HLN3.out z hz)
              go_wp2_with fail
              rw [rounds_succ]
              -- the end 1
              obtain ⟨ra, ca, hra, hNc, htx⟩ := row_texts (HP4.out.rows 1 (by decide) (by decide))
              have y2 := HP4.out.cRow (i := 1) (by decide)
              have f2 := blk_free HP4.out.blk 3
              rw [hra] at y2
              simp only [Nat.reduceAdd] at y2
              have hlen := HLN4.out 1 (by decide)
              have hst0 := (HP4.out.drop 1).store (i := 1) (v := .slice none 0 0) (M := []) (by decide) (World.ownsRow_nil _ _ _ _) (fun _ _ _ b hb => by cases hb)
              rw [← PS.part_zero S4 1 (by decide)] at hst0
              simp only [Nat.reduceAdd] at hst0
              have hks := (Only.refl (fun z => z = p) w4).setCell ⟨p, 3, none⟩ (.slice none 0 0) (fun _ => rfl)
              have hold : (w4.setCell ⟨p, 3, none⟩ (.slice none 0 0)).ownsRow W.heap.size 9 1 (.slice ra (S4.L 1).length ca) (S4.L 1).length ((S4.L 1).map Value.string) := by
                rw [← hra]
                refine row_keepS (HP4.out.rows 1 (by decide) (by decide)) hks (fun b hb e => ?_)
                obtain ⟨cur, hc⟩ := row_block (HP4.out.rows 1 (by decide) (by decide)) hb
                exact pair_texts HP4.out.blk hc e
              have hsep : ∀ b, (Value.slice ra (S4.L 1).length ca).ownBlock = some b → (put rv4 1 (.slice none 0 0) 5).ownBlock ≠ some b := by
                intro b hb
                rw [← hra] at hb
                exact HP4.out.sep 1 5 (by decide) (by decide) (by decide) (by decide) (by decide) b hb
              obtain ⟨N, hN⟩ : ∃ N, N = (S4.L 1).length := ⟨_, rfl⟩
              rw [← hN] at y2 hold hsep hlen
              have HN := Lib.hid hN
              have HST0 := Lib.hid hst0
              have HOLD := Lib.hid hold
              have HSEP := Lib.hid hsep
              clear hN hst0 hold hsep hra hNc htx hks
              go_upto_block 8 with fail
              generalize w4.setCell ⟨p, 3, none⟩ (.slice none 0 0) = wL1 at HST0 HOLD ⊢
              clear y2 f2
              go_wp2_with fail
              go_loopw [108] (fun iv wr => ∃ (i : Nat) (rv' : Nat → Value), iv = .int .i64 i ∧ i ≤ N ∧ PAt W wr 6 p g mo me rv' (S4.part 1 i) ∧ wr.ownsRow W.heap.size 9 1 (.slice ra N ca) N ((S4.L 1).map Value.string) ∧ (∀ b, (Value.slice ra N ca).ownBlock = some b → (rv' 5).ownBlock ≠ some b)) (fun iv _ => N - (intOf iv).toNat)
              case atStart => exact ⟨0, _, rfl, by omega, HST0.out, HOLD.out, HSEP.out⟩
              case round =>
                obtain ⟨i, rvi, rfl, hiN, hPi, hri, hsi⟩ := hrel
                by_cases hi : i < N
                · have hri2 : wr.ownsRow W.heap.size 9 1 (.slice ra N ca) (S4.L 1).length ((S4.L 1).map Value.string) := by rw [← HN.out]; exact hri
                  obtain ⟨a2, c2, e2, _, ht2⟩ := row_texts hri2
                  injection e2 with e2a e2b e2c
                  subst e2a
                  obtain ⟨ga, rfl, hgl, hcX⟩ := ht2 i (by rw [← HN.out]; exact hi)
                  obtain ⟨tl1, tl2, tpi⟩ := took_len HPT4.out (k := 1) (by decide) (show i < (S4.L 1).length by rw [← HN.out]; exact hi)
                  have hXm : LetIn (S4.L (2 + 0)) (S4.s 0).taken 7 ((S4.L 1).getD i ⟨#[]⟩) := HPT4.out.wk _ (by
                    rw [List.getD_eq_getElem?_getD, List.getElem?_eq_getElem (show i < (S4.L 1).length by rw [← HN.out]; exact hi)]
                    exact List.getElem_mem _)
                  have HNX := Lib.hid (PS.part_succ S4 1 i (by decide) (show i < (S4.L 1).length by rw [← HN.out]; exact hi))
                  generalize (S4.L 1).getD i ⟨#[]⟩ = X at hcX tl1 hXm HNX
                  obtain ⟨Sp, hSp⟩ : ∃ Sp, Sp = S4.part 1 i := ⟨_, rfl⟩
                  have hnow : S4.now = Sp.now := by rw [hSp]; rfl
                  have hlnp : ∀ z, z < 6 → (Sp.L z).length ≤ 20000 := by
                    intro z hz
                    rw [hSp]
                    show (put (put S4.L 1 []) 5 _ z).length ≤ _
                    unfold put
                    split
                    · exact Nat.le_trans tl2 (by decide)
                    · split
                      · exact Nat.zero_le _
                      · exact HLN4.out z hz
                  rw [← hSp] at hPi tl1 tpi HNX
                  rw [hnow] at tl1 HNX
                  have HXS : Hid (X.size ≤ 140737488355328) := Lib.hid (by have := hXm.size.1; omega)
                  have HPA := Lib.hid hPi
                  have HPI := Lib.hid tpi
                  have HLN := Lib.hid hlnp
                  have HML0 := Lib.hid tl1
                  have HRI := Lib.hid hri
                  have HSI := Lib.hid hsi
                  clear hPi tpi hlnp tl1 tl2 hri hri2 hsi ht2 hXm hnow hSp
                  go_upto_region 25 with fail
                  have HT : Hid (p1Ph wr false wr.drew) := Lib.hid (fun _ => (Only.refl _ wr).drew)
                  obtain ⟨B, hB⟩ : ∃ B, B = wr.heap.size := ⟨_, rfl⟩
                  have HBW : Hid (wr.heap.size = B) := Lib.hid hB.symm
                  clear hB hcX hgl
                  refine wp_region_phasedk_tail 16 b1kDs b1kNeed b1kGs b1kLate b1kEarly (fun L w' => p1Ph wr (L 11) w') (fun i w w' => Only (p1St 11 i) w w') (b1kG W B p p g mo me rvi Sp 0 0 ⟨#[]⟩ false X wr) rfl rfl (by kernel_rfl) (by kernel_rfl) (by kernel_rfl) (by kernel_rfl) (by kernel_rfl) (by kernel_rfl) HT.out b1kG.keep b1kG.guard (fun _ _ => Only.refl _ _) ?_ ?_
                  · refine And.intro ?op0 (And.intro ?op1 (And.intro ?op2 (And.intro ?op3 (And.intro ?op4 (And.intro ?op5 (And.intro ?op6 (And.intro ?op7 (And.intro ?op8 (And.intro ?op9 (And.intro ?op10 (And.intro ?op11 (And.intro ?op12 (And.intro ?op13 (And.intro ?op14 (And.intro ?op15 trivial)))))))))))))))
                    case op0 =>
                      intro L ev w1 hLi hlate hearly hT1 hc hf hfr hG
                      rw [if_pos (by decide)]
                      have hP : p1Ph wr (L 11) w1 := hT1
                      obtain ⟨hl11, _⟩ := hlate
                      rw [hl11] at hP
                      have h5 : ev (.tmp 5) = .pointer (some ⟨p, 0, none⟩) := hfr 5 (by decide)
                      clear hG hfr
                      refine OpSays.value (v := .pointer (some ⟨p, 0, none⟩)) (w' := w1) ?_ ⟨hT1, Only.refl _ _, rfl⟩
                      go_simp
                    case op1 =>
                      intro L ev w1 hLi hlate hearly hT1 hc hf hfr hG
                      rw [if_pos (by decide)]
                      have hP : p1Ph wr (L 11) w1 := hT1
                      obtain ⟨hl11, _⟩ := hlate
                      rw [hl11] at hP
                      have h8 : ev (.tmp 8) = .int .i64 1 := hfr 8 (by decide)
                      clear hG hfr
                      refine OpSays.value (v := .int .i64 1) (w' := w1) ?_ ⟨hT1, Only.refl _ _, rfl⟩
                      go_simp
                    case op2 =>
                      intro L ev w1 hLi hlate hearly hT1 hc hf hfr hG
                      rw [if_pos (by decide)]
                      have hP : p1Ph wr (L 11) w1 := hT1
                      obtain ⟨hl11, _⟩ := hlate
                      rw [hl11] at hP
                      have hg : (ev (.tmp 113) = .pointer (some ⟨p, 0, none⟩)) ∧ True := hG
                      obtain ⟨g0, _⟩ := hg
                      clear hG hfr
                      refine OpSays.value (v := .pointer (some ⟨p, 0, none⟩)) (w' := w1) ?_ ⟨hT1, Only.refl _ _, rfl⟩
                      go_simp
                    case op3 =>
                      intro L ev w1 hLi hlate hearly hT1 hc hf hfr hG
                      rw [if_pos (by decide)]
                      have hP : p1Ph wr (L 11) w1 := hT1
                      obtain ⟨hl11, _⟩ := hlate
                      rw [hl11] at hP
                      have hg : (ev (.tmp 115) = .pointer (some ⟨p, 0, none⟩)) ∧ True := hG
                      obtain ⟨g2, _⟩ := hg
                      clear hG hfr
                      refine OpSays.value (v := .pointer (some ⟨p, 0, none⟩)) (w' := w1) ?_ ⟨hT1, Only.refl _ _, rfl⟩
                      go_simp
                    case op4 =>
                      intro L ev w1 hLi hlate hearly hT1 hc hf hfr hG
                      rw [if_pos (by decide)]
                      have hP : p1Ph wr (L 11) w1 := hT1
                      obtain ⟨hl11, _⟩ := hlate
                      rw [hl11] at hP
                      have hg : (ev (.tmp 114) = .int .i64 1) ∧ (ev (.tmp 116) = .pointer (some ⟨p, 0, none⟩)) ∧ True := hG
                      obtain ⟨g1, g3, _⟩ := hg
                      clear hG hfr
                      refine OpSays.value (v := .pointer (some ⟨p, 1, none⟩)) (w' := w1) ?_ ⟨hT1, Only.refl _ _, rfl⟩
                      go_simp
                    case op5 =>
                      intro L ev w1 hLi hlate hearly hT1 hc hf hfr hG
                      rw [if_pos (by decide)]
                      have hP : p1Ph wr (L 11) w1 := hT1
                      obtain ⟨hl11, _⟩ := hlate
                      rw [hl11] at hP
                      have hg : (ev (.tmp 117) = .pointer (some ⟨p, 1, none⟩)) ∧ True := hG
                      obtain ⟨g4, _⟩ := hg
                      clear hG hfr
                      have c : w1.cell? ⟨p, 1, none⟩ = some (.pointer (some ⟨g 1, 0, none⟩)) := (HPA.out.keep (hP rfl)).cEnd (k := 1) (by decide)
                      refine OpSays.value (v := .pointer (some ⟨g 1, 0, none⟩)) (w' := w1) ?_ ⟨hT1, Only.refl _ _, rfl⟩
                      go_simp
                    case op6 =>
                      intro L ev w1 hLi hlate hearly hT1 hc hf hfr hG
                      rw [if_pos (by decide)]
                      have hP : p1Ph wr (L 11) w1 := hT1
                      obtain ⟨hl11, _⟩ := hlate
                      rw [hl11] at hP
                      have h11 : ev (.tmp 11) = .string X := hfr 11 (by decide)
                      clear hG hfr
                      refine OpSays.value (v := .string X) (w' := w1) ?_ ⟨hT1, Only.refl _ _, rfl⟩
                      go_simp
                    case op7 =>
                      intro L ev w1 hLi hlate hearly hT1 hc hf hfr hG
                      rw [if_pos (by decide)]
                      have hP : p1Ph wr (L 11) w1 := hT1
                      obtain ⟨hl11, _⟩ := hlate
                      rw [hl11] at hP
                      have h5 : ev (.tmp 5) = .pointer (some ⟨p, 0, none⟩) := hfr 5 (by decide)
                      clear hG hfr
                      refine OpSays.value (v := .pointer (some ⟨p, 0, none⟩)) (w' := w1) ?_ ⟨hT1, Only.refl _ _, rfl⟩
                      go_simp
                    case op8 =>
                      intro L ev w1 hLi hlate hearly hT1 hc hf hfr hG
                      rw [if_pos (by decide)]
                      have hP : p1Ph wr (L 11) w1 := hT1
                      obtain ⟨hl11, _⟩ := hlate
                      rw [hl11] at hP
                      have hg : (ev (.tmp 120) = .pointer (some ⟨p, 0, none⟩)) ∧ True := hG
                      obtain ⟨g7, _⟩ := hg
                      clear hG hfr
                      refine OpSays.value (v := .pointer (some ⟨p, 0, none⟩)) (w' := w1) ?_ ⟨hT1, Only.refl _ _, rfl⟩
                      go_simp
                    case op9 =>
                      intro L ev w1 hLi hlate hearly hT1 hc hf hfr hG
                      rw [if_pos (by decide)]
                      have hP : p1Ph wr (L 11) w1 := hT1
                      obtain ⟨hl11, _⟩ := hlate
                      rw [hl11] at hP
                      have hg : (ev (.tmp 121) = .pointer (some ⟨p, 0, none⟩)) ∧ True := hG
                      obtain ⟨g8, _⟩ := hg
                      clear hG hfr
                      refine OpSays.value (v := .pointer (some ⟨p, 8, none⟩)) (w' := w1) ?_ ⟨hT1, Only.refl _ _, rfl⟩
                      go_simp
                    case op10 =>
                      intro L ev w1 hLi hlate hearly hT1 hc hf hfr hG
                      rw [if_pos (by decide)]
                      have hP : p1Ph wr (L 11) w1 := hT1
                      obtain ⟨hl11, _⟩ := hlate
                      rw [hl11] at hP
                      have hg : (ev (.tmp 122) = .pointer (some ⟨p, 8, none⟩)) ∧ True := hG
                      obtain ⟨g9, _⟩ := hg
                      clear hG hfr
                      have c := (HPA.out.keep (hP rfl)).cNow
                      refine OpSays.value (v := .int .i64 Sp.now) (w' := w1) ?_ ⟨hT1, Only.refl _ _, rfl⟩
                      go_simp
                    case op11 =>
                      intro L ev w1 hLi hlate hearly hT1 hc hf hfr hG
                      rw [if_pos (by decide)]
                      have hP : p1Ph wr (L 11) w1 := hT1
                      rw [hLi] at hP
                      change OpSays _ _ _ _ (fun v w' => p1Ph wr (true) w' ∧ _ ∧ _)
                      have hg : (ev (.tmp 118) = .pointer (some ⟨g 1, 0, none⟩)) ∧ (ev (.tmp 119) = .string X) ∧ (ev (.tmp 123) = .int .i64 Sp.now) ∧ True := hG
                      obtain ⟨g5, g6, g10, _⟩ := hg
                      clear hG hfr
                      have hpa := HPA.out.keep (hP rfl)
                      refine OpSays.enter (f := 25) (args := #[.pointer (some ⟨g 1, 0, none⟩), .string X, .int .i64 Sp.now]) (w' := w1) ?_ ?_
                      · go_simp
                      · refine (pair_take hpa (by decide) HPI.out X HXS.out).mono ?_
                        rintro e' w2 ⟨v, c, rfl, hrow, hpa2, hk⟩
                        exact ⟨_, rfl, fun e => (by cases e), hk.mono (fun _ _ _ => rfl), v, c, rfl, World.ownsRow.mono hrow (by have := (hP rfl).size; have := HBW.out; omega), hpa2, fun b o _ hb => hk.at ((hP rfl).at hb (fun h => h)) (foot_texts (hpa.e 1 (by decide)) ((hP rfl).at hb (fun h => h)))⟩
                    case op12 =>
                      intro L ev w1 hLi hlate hearly hT1 hc hf hfr hG
                      rw [if_pos (by decide)]
                      have hP : p1Ph wr (L 11) w1 := hT1
                      obtain ⟨he11, _⟩ := hearly
                      rw [he11] at hP
                      change OpSays _ _ _ _ (fun v w' => p1Ph wr (L 11) w' ∧ _ ∧ _)
                      rw [he11]
                      have hg : (∃ (u : Value) (c : Int), ev (.tmp 124) = .tuple #[u, .int .i64 c] ∧ w1.ownsRow B 9 1 u (took (Sp.s 1) X Sp.now).2.length ((took (Sp.s 1) X Sp.now).2.map Value.string) ∧ PAt W w1 6 p g mo me rvi { Sp with s := put Sp.s 1 (took (Sp.s 1) X Sp.now).1 } ∧ KeepT (.slice none 0 0) wr w1) ∧ True := hG
                      obtain ⟨g11, _⟩ := hg
                      clear hG hfr
                      obtain ⟨v, c, g11, h1, _⟩ := g11
                      refine OpSays.value (v := .tuple #[v, .int .i64 c]) (w' := w1) ?_ ⟨fun e => (by cases e), Only.refl _ _, (by first | rfl | exact he11 | simp [upd, he11]), v, c, rfl, h1⟩
                      go_simp
                    case op13 =>
                      intro L ev w1 hLi hlate hearly hT1 hc hf hfr hG
                      rw [if_pos (by decide)]
                      have hP : p1Ph wr (L 11) w1 := hT1
                      obtain ⟨he11, _⟩ := hearly
                      rw [he11] at hP
                      change OpSays _ _ _ _ (fun v w' => p1Ph wr (L 11) w' ∧ _ ∧ _)
                      rw [he11]
                      have hg : (L 11 = true ∧ ∃ (u : Value) (c : Int), ev (.tmp 112) = .tuple #[u, .int .i64 c] ∧ w1.ownsRow B 9 1 u (took (Sp.s 1) X Sp.now).2.length ((took (Sp.s 1) X Sp.now).2.map Value.string)) ∧ True := hG
                      obtain ⟨g12, _⟩ := hg
                      clear hG hfr
                      obtain ⟨_, v, c, g12, h1⟩ := g12
                      refine OpSays.value (v := v) (w' := w1) ?_ ⟨fun e => (by cases e), Only.refl _ _, (by first | rfl | exact he11 | simp [upd, he11]), h1⟩
                      go_simp
                    case op14 =>
                      intro L ev w1 hLi hlate hearly hT1 hc hf hfr hG
                      rw [if_pos (by decide)]
                      have hP : p1Ph wr (L 11) w1 := hT1
                      obtain ⟨he11, _⟩ := hearly
                      rw [he11] at hP
                      change OpSays _ _ _ _ (fun v w' => p1Ph wr (L 11) w' ∧ _ ∧ _)
                      rw [he11]
                      have hg : (L 11 = true ∧ ∃ (u : Value) (c : Int), ev (.tmp 112) = .tuple #[u, .int .i64 c] ∧ w1.ownsRow B 9 1 u (took (Sp.s 1) X Sp.now).2.length ((took (Sp.s 1) X Sp.now).2.map Value.string)) ∧ True := hG
                      obtain ⟨g12, _⟩ := hg
                      clear hG hfr
                      obtain ⟨_, v, c, g12, h1⟩ := g12
                      refine OpSays.value (v := .int .i64 c) (w' := w1) ?_ ⟨fun e => (by cases e), Only.refl _ _, c, rfl⟩
                      go_simp
                    case op15 =>
                      intro L ev w1 hLi hlate hearly hT1 hc hf hfr hG
                      rw [if_pos (by decide)]
                      have hP : p1Ph wr (L 11) w1 := hT1
                      obtain ⟨he11, _⟩ := hearly
                      rw [he11] at hP
                      change OpSays _ _ _ _ (fun v w' => p1Ph wr (L 11) w' ∧ _ ∧ _)
                      rw [he11]
                      have hg : (L 11 = true ∧ w1.ownsRow B 9 1 (ev (.tmp 125)) (took (Sp.s 1) X Sp.now).2.length ((took (Sp.s 1) X Sp.now).2.map Value.string)) ∧ True := hG
                      obtain ⟨g13, _⟩ := hg
                      clear hG hfr
                      obtain ⟨_, h1⟩ := g13
                      refine OpSays.value (v := ev (.tmp 125)) (w' := w1) ?_ ⟨fun e => (by cases e), Only.refl _ _, (by first | rfl | exact he11 | simp [upd, he11]), h1⟩
                      go_simp
                  rintro L ⟨tm, df⟩ w6 hL hT1 hsz hdf hfr hG
                  have hPE : p1Ph wr (true) w6 := by
                    have hP : p1Ph wr (L 11) w6 := hT1
                    have hm := fun k (hk : k ∈ List.range 16) => AllB.get hL k hk
                    rw [hm 11 (by decide)] at hP
                    exact hP
                  clear hT1 hL
                  have k0 : tm.getD 0 undef = Value.int IntKind.i64 ro := hfr 0 (by decide)
                  have k1 : tm.getD 1 undef = Value.slice a n cap := hfr 1 (by decide)
                  have k2 : tm.getD 2 undef = undef := hfr 2 (by decide)
                  have k3 : tm.getD 3 undef = undef := hfr 3 (by decide)
                  have k4 : tm.getD 4 undef = u4 := hfr 4 (by decide)
                  have k5 : tm.getD 5 undef = .pointer (some ⟨p, 0, none⟩) := hfr 5 (by decide)
                  have k6 : tm.getD 6 undef = u6 := hfr 6 (by decide)
                  have k7 : tm.getD 7 undef = u7 := hfr 7 (by decide)
                  have k8 : tm.getD 8 undef = .int .i64 1 := hfr 8 (by decide)
                  have k9 : tm.getD 9 undef = Value.slice (some { block := ga, off := 0 }) N ca := hfr 9 (by decide)
                  have k10 : tm.getD 10 undef = undef := hfr 10 (by decide)
                  have k14 : tm.getD 14 undef = undef := hfr 14 (by decide)
                  have k15 : tm.getD 15 undef = undef := hfr 15 (by decide)
                  have k16 : tm.getD 16 undef = undef := hfr 16 (by decide)
                  have k17 : tm.getD 17 undef = undef := hfr 17 (by decide)
                  have k18 : tm.getD 18 undef = Value.int IntKind.i64 ro := hfr 18 (by decide)
                  have k19 : tm.getD 19 undef = Value.int IntKind.i64 (ro % 8) := hfr 19 (by decide)
                  have k20 : tm.getD 20 undef = Value.int IntKind.i64 R := hfr 20 (by decide)
                  have k21 : tm.getD 21 undef = Value.pointer (some { block := p, off := 0 }) := hfr 21 (by decide)
                  have k22 : tm.getD 22 undef = Value.pointer (some { block := p, off := 0 }) := hfr 22 (by decide)
                  have k23 : tm.getD 23 undef = Value.bool false := hfr 23 (by decide)
                  have k24 : tm.getD 24 undef = Value.bool false := hfr 24 (by decide)
                  have k25 : tm.getD 25 undef = Value.bool true := hfr 25 (by decide)
                  have k26 : tm.getD 26 undef = Value.bool false := hfr 26 (by decide)
                  have k27 : tm.getD 27 undef = Value.bool false := hfr 27 (by decide)
                  have k28 : tm.getD 28 undef = u28 := hfr 28 (by decide)
                  have k29 : tm.getD 29 undef = u29 := hfr 29 (by decide)
                  have k30 : tm.getD 30 undef = u30 := hfr 30 (by decide)
                  have k31 : tm.getD 31 undef = u31 := hfr 31 (by decide)
                  have k32 : tm.getD 32 undef = u32 := hfr 32 (by decide)
                  have k33 : tm.getD 33 undef = u33 := hfr 33 (by decide)
                  have k34 : tm.getD 34 undef = u34 := hfr 34 (by decide)
                  have k35 : tm.getD 35 undef = u35 := hfr 35 (by decide)
                  have k36 : tm.getD 36 undef = u36 := hfr 36 (by decide)
                  have k37 : tm.getD 37 undef = u37 := hfr 37 (by decide)
                  have k38 : tm.getD 38 undef = u38 := hfr 38 (by decide)
                  have k39 : tm.getD 39 undef = u39 := hfr 39 (by decide)
                  have k40 : tm.getD 40 undef = u40 := hfr 40 (by decide)
                  have k41 : tm.getD 41 undef = u41 := hfr 41 (by decide)
                  have k42 : tm.getD 42 undef = u42 := hfr 42 (by decide)
                  have k43 : tm.getD 43 undef = u43 := hfr 43 (by decide)
                  have k44 : tm.getD 44 undef = u44 := hfr 44 (by decide)
                  have k45 : tm.getD 45 undef = u45 := hfr 45 (by decide)
                  have k46 : tm.getD 46 undef = u46 := hfr 46 (by decide)
                  have k47 : tm.getD 47 undef = u47 := hfr 47 (by decide)
                  have k48 : tm.getD 48 undef = u48 := hfr 48 (by decide)
                  have k49 : tm.getD 49 undef = u49 := hfr 49 (by decide)
                  have k50 : tm.getD 50 undef = u50 := hfr 50 (by decide)
                  have k51 : tm.getD 51 undef = u51 := hfr 51 (by decide)
                  have k52 : tm.getD 52 undef = u52 := hfr 52 (by decide)
                  have k53 : tm.getD 53 undef = u53 := hfr 53 (by decide)
                  have k54 : tm.getD 54 undef = Value.int IntKind.i64 (k : Int) := hfr 54 (by decide)
                  have k55 : tm.getD 55 undef = Value.bool (decide ((k : Int) < 40)) := hfr 55 (by decide)
                  have k56 : tm.getD 56 undef = Value.pointer (some { block := p, off := 0 }) := hfr 56 (by decide)
                  have k57 : tm.getD 57 undef = Value.pointer (some { block := p, off := 0 }) := hfr 57 (by decide)
                  have k58 : tm.getD 58 undef = Value.pointer (some { block := p, off := 8 }) := hfr 58 (by decide)
                  have k59 : tm.getD 59 undef = Value.int IntKind.i64 S.now := hfr 59 (by decide)
                  have k60 : tm.getD 60 undef = Value.int IntKind.i64 (S.now + 2) := hfr 60 (by decide)
                  have k61 : tm.getD 61 undef = Value.pointer (some { block := p, off := 0 }) := hfr 61 (by decide)
                  have k62 : tm.getD 62 undef = Value.pointer (some { block := p, off := 8 }) := hfr 62 (by decide)
                  have k63 : tm.getD 63 undef = u63 := hfr 63 (by decide)
                  have k64 : tm.getD 64 undef = u64 := hfr 64 (by decide)
                  have k65 : tm.getD 65 undef = u65 := hfr 65 (by decide)
                  have k66 : tm.getD 66 undef = u66 := hfr 66 (by decide)
                  have k67 : tm.getD 67 undef = u67 := hfr 67 (by decide)
                  have k68 : tm.getD 68 undef = u68 := hfr 68 (by decide)
                  have k69 : tm.getD 69 undef = u69 := hfr 69 (by decide)
                  have k70 : tm.getD 70 undef = u70 := hfr 70 (by decide)
                  have k71 : tm.getD 71 undef = u71 := hfr 71 (by decide)
                  have k72 : tm.getD 72 undef = u72 := hfr 72 (by decide)
                  have k73 : tm.getD 73 undef = u73 := hfr 73 (by decide)
                  have k74 : tm.getD 74 undef = u74 := hfr 74 (by decide)
                  have k75 : tm.getD 75 undef = u75 := hfr 75 (by decide)
                  have k76 : tm.getD 76 undef = u76 := hfr 76 (by decide)
                  have k77 : tm.getD 77 undef = u77 := hfr 77 (by decide)
                  have k78 : tm.getD 78 undef = u78 := hfr 78 (by decide)
                  have k79 : tm.getD 79 undef = u79 := hfr 79 (by decide)
                  have k80 : tm.getD 80 undef = u80 := hfr 80 (by decide)
                  have k81 : tm.getD 81 undef = u81 := hfr 81 (by decide)
                  have k82 : tm.getD 82 undef = u82 := hfr 82 (by decide)
                  have k83 : tm.getD 83 undef = u83 := hfr 83 (by decide)
                  have k84 : tm.getD 84 undef = u84 := hfr 84 (by decide)
                  have k85 : tm.getD 85 undef = u85 := hfr 85 (by decide)
                  have k86 : tm.getD 86 undef = u86 := hfr 86 (by decide)
                  have k87 : tm.getD 87 undef = u87 := hfr 87 (by decide)
                  have k88 : tm.getD 88 undef = u88 := hfr 88 (by decide)
                  have k89 : tm.getD 89 undef = u89 := hfr 89 (by decide)
                  have k90 : tm.getD 90 undef = u90 := hfr 90 (by decide)
                  have k91 : tm.getD 91 undef = u91 := hfr 91 (by decide)
                  have k92 : tm.getD 92 undef = Value.int IntKind.i64 1 := hfr 92 (by decide)
                  have k93 : tm.getD 93 undef = Value.bool true := hfr 93 (by decide)
                  have k94 : tm.getD 94 undef = Value.int IntKind.i64 1 := hfr 94 (by decide)
                  have k95 : tm.getD 95 undef = Value.pointer (some { block := p, off := 0 }) := hfr 95 (by decide)
                  have k96 : tm.getD 96 undef = Value.int IntKind.i64 1 := hfr 96 (by decide)
                  have k97 : tm.getD 97 undef = Value.pointer (some { block := p, off := 0 }) := hfr 97 (by decide)
                  have k98 : tm.getD 98 undef = Value.pointer (some { block := p, off := 2 }) := hfr 98 (by decide)
                  have k99 : tm.getD 99 undef = Value.pointer (some { block := p, off := 3 }) := hfr 99 (by decide)
                  have k100 : tm.getD 100 undef = Value.slice (some { block := ga, off := 0 }) N ca := hfr 100 (by decide)
                  have k101 : tm.getD 101 undef = Value.pointer (some { block := p, off := 0 }) := hfr 101 (by decide)
                  have k102 : tm.getD 102 undef = Value.int IntKind.i64 1 := hfr 102 (by decide)
                  have k103 : tm.getD 103 undef = Value.pointer (some { block := p, off := 0 }) := hfr 103 (by decide)
                  have k104 : tm.getD 104 undef = Value.pointer (some { block := p, off := 2 }) := hfr 104 (by decide)
                  have k105 : tm.getD 105 undef = Value.pointer (some { block := p, off := 3 }) := hfr 105 (by decide)
                  have k106 : tm.getD 106 undef = Value.slice (some { block := ga, off := 0 }) N ca := hfr 106 (by decide)
                  have k107 : tm.getD 107 undef = Value.int IntKind.i64 ↑N := hfr 107 (by decide)
                  have k141 : tm.getD 141 undef = Value.int IntKind.i64 1 := hfr 141 (by decide)
                  have k142 : tm.getD 142 undef = u142 := hfr 142 (by decide)
                  have k143 : tm.getD 143 undef = undef := hfr 143 (by decide)
                  have k144 : tm.getD 144 undef = undef := hfr 144 (by decide)
                  have k145 : tm.getD 145 undef = undef := hfr 145 (by decide)
                  have k146 : tm.getD 146 undef = undef := hfr 146 (by decide)
                  have k147 : tm.getD 147 undef = undef := hfr 147 (by decide)
                  have k148 : tm.getD 148 undef = undef := hfr 148 (by decide)
                  have k149 : tm.getD 149 undef = undef := hfr 149 (by decide)
                  have k150 : tm.getD 150 undef = undef := hfr 150 (by decide)
                  have k151 : tm.getD 151 undef = undef := hfr 151 (by decide)
                  have k152 : tm.getD 152 undef = undef := hfr 152 (by decide)
                  have k153 : tm.getD 153 undef = undef := hfr 153 (by decide)
                  have k154 : tm.getD 154 undef = undef := hfr 154 (by decide)
                  have k155 : tm.getD 155 undef = undef := hfr 155 (by decide)
                  have k156 : tm.getD 156 undef = undef := hfr 156 (by decide)
                  have k157 : tm.getD 157 undef = undef := hfr 157 (by decide)
                  have k158 : tm.getD 158 undef = undef := hfr 158 (by decide)
                  have k159 : tm.getD 159 undef = undef := hfr 159 (by decide)
                  have k160 : tm.getD 160 undef = undef := hfr 160 (by decide)
                  have k161 : tm.getD 161 undef = undef := hfr 161 (by decide)
                  have k162 : tm.getD 162 undef = undef := hfr 162 (by decide)
                  have k163 : tm.getD 163 undef = undef := hfr 163 (by decide)
                  have k164 : tm.getD 164 undef = undef := hfr 164 (by decide)
                  have k165 : tm.getD 165 undef = undef := hfr 165 (by decide)
                  have k166 : tm.getD 166 undef = undef := hfr 166 (by decide)
                  have k167 : tm.getD 167 undef = undef := hfr 167 (by decide)
                  have k168 : tm.getD 168 undef = undef := hfr 168 (by decide)
                  have k169 : tm.getD 169 undef = undef := hfr 169 (by decide)
                  have k170 : tm.getD 170 undef = undef := hfr 170 (by decide)
                  have k171 : tm.getD 171 undef = undef := hfr 171 (by decide)
                  have k172 : tm.getD 172 undef = undef := hfr 172 (by decide)
                  have k173 : tm.getD 173 undef = undef := hfr 173 (by decide)
                  have k174 : tm.getD 174 undef = undef := hfr 174 (by decide)
                  have k175 : tm.getD 175 undef = undef := hfr 175 (by decide)
                  have k176 : tm.getD 176 undef = undef := hfr 176 (by decide)
                  have k177 : tm.getD 177 undef = undef := hfr 177 (by decide)
                  have k178 : tm.getD 178 undef = undef := hfr 178 (by decide)
                  have k179 : tm.getD 179 undef = undef := hfr 179 (by decide)
                  have k180 : tm.getD 180 undef = undef := hfr 180 (by decide)
                  have k181 : tm.getD 181 undef = undef := hfr 181 (by decide)
                  have k182 : tm.getD 182 undef = undef := hfr 182 (by decide)
                  have k183 : tm.getD 183 undef = undef := hfr 183 (by decide)
                  have k184 : tm.getD 184 undef = undef := hfr 184 (by decide)
                  have k185 : tm.getD 185 undef = undef := hfr 185 (by decide)
                  have k186 : tm.getD 186 undef = undef := hfr 186 (by decide)
                  have k187 : tm.getD 187 undef = undef := hfr 187 (by decide)
                  have k188 : tm.getD 188 undef = undef := hfr 188 (by decide)
                  have k189 : tm.getD 189 undef = undef := hfr 189 (by decide)
                  have k190 : tm.getD 190 undef = undef := hfr 190 (by decide)
                  have k191 : tm.getD 191 undef = undef := hfr 191 (by decide)
                  have k192 : tm.getD 192 undef = undef := hfr 192 (by decide)
                  have k193 : tm.getD 193 undef = undef := hfr 193 (by decide)
                  have k194 : tm.getD 194 undef = undef := hfr 194 (by decide)
                  have k195 : tm.getD 195 undef = undef := hfr 195 (by decide)
                  have k196 : tm.getD 196 undef = undef := hfr 196 (by decide)
                  have k197 : tm.getD 197 undef = undef := hfr 197 (by decide)
                  have k198 : tm.getD 198 undef = undef := hfr 198 (by decide)
                  have k199 : tm.getD 199 undef = undef := hfr 199 (by decide)
                  have k200 : tm.getD 200 undef = undef := hfr 200 (by decide)
                  have k201 : tm.getD 201 undef = undef := hfr 201 (by decide)
                  have k202 : tm.getD 202 undef = undef := hfr 202 (by decide)
                  have k203 : tm.getD 203 undef = undef := hfr 203 (by decide)
                  have k204 : tm.getD 204 undef = undef := hfr 204 (by decide)
                  have k205 : tm.getD 205 undef = undef := hfr 205 (by decide)
                  have k206 : tm.getD 206 undef = undef := hfr 206 (by decide)
                  have k207 : tm.getD 207 undef = undef := hfr 207 (by decide)
                  have k208 : tm.getD 208 undef = undef := hfr 208 (by decide)
                  have k209 : tm.getD 209 undef = undef := hfr 209 (by decide)
                  have k210 : tm.getD 210 undef = undef := hfr 210 (by decide)
                  have k211 : tm.getD 211 undef = undef := hfr 211 (by decide)
                  have k212 : tm.getD 212 undef = undef := hfr 212 (by decide)
                  have k213 : tm.getD 213 undef = undef := hfr 213 (by decide)
                  have k214 : tm.getD 214 undef = undef := hfr 214 (by decide)
                  have k215 : tm.getD 215 undef = undef := hfr 215 (by decide)
                  have k11 : tm.getD 11 undef = .string X := hfr 11 (by decide)
                  have k108 : tm.getD 108 undef = .int .i64 (i : Int) := hfr 108 (by decide)
                  obtain ⟨vt0, ct0, _, _, hpt, hkt⟩ : ∃ (v : Value) (c : Int), tm.getD 124 undef = .tuple #[v, .int .i64 c] ∧ w6.ownsRow B 9 1 v (took (Sp.s 1) X Sp.now).2.length ((took (Sp.s 1) X Sp.now).2.map Value.string) ∧ PAt W w6 6 p g mo me rvi { Sp with s := put Sp.s 1 (took (Sp.s 1) X Sp.now).1 } ∧ KeepT (.slice none 0 0) wr w6 := AllG.get hG 11 (by decide)
                  obtain ⟨_, hrow⟩ : _ ∧ w6.ownsRow B 9 1 (tm.getD 12 undef) (took (Sp.s 1) X Sp.now).2.length ((took (Sp.s 1) X Sp.now).2.map Value.string) := AllG.get hG 15 (by decide)
                  obtain ⟨ct, kct⟩ : ∃ c : Int, tm.getD 126 undef = .int .i64 c := AllG.get hG 14 (by decide)
                  have he : tm = #[tm.getD 0 undef, tm.getD 1 undef, tm.getD 2 undef, tm.getD 3 undef, tm.getD 4 undef, tm.getD 5 undef, tm.getD 6 undef, tm.getD 7 undef, tm.getD 8 undef, tm.getD 9 undef, tm.getD 10 undef, tm.getD 11 undef, tm.getD 12 undef, tm.getD 13 undef, tm.getD 14 undef, tm.getD 15 undef, tm.getD 16 undef, tm.getD 17 undef, tm.getD 18 undef, tm.getD 19 undef, tm.getD 20 undef, tm.getD 21 undef, tm.getD 22 undef, tm.getD 23 undef, tm.getD 24 undef, tm.getD 25 undef, tm.getD 26 undef, tm.getD 27 undef, tm.getD 28 undef, tm.getD 29 undef, tm.getD 30 undef, tm.getD 31 undef, tm.getD 32 undef, tm.getD 33 undef, tm.getD 34 undef, tm.getD 35 undef, tm.getD 36 undef, tm.getD 37 undef, tm.getD 38 undef, tm.getD 39 undef, tm.getD 40 undef, tm.getD 41 undef, tm.getD 42 undef, tm.getD 43 undef, tm.getD 44 undef, tm.getD 45 undef, tm.getD 46 undef, tm.getD 47 undef, tm.getD 48 undef, tm.getD 49 undef, tm.getD 50 undef, tm.getD 51 undef, tm.getD 52 undef, tm.getD 53 undef, tm.getD 54 undef, tm.getD 55 undef, tm.getD 56 undef, tm.getD 57 undef, tm.getD 58 undef, tm.getD 59 undef, tm.getD 60 undef, tm.getD 61 undef, tm.getD 62 undef, tm.getD 63 undef, tm.getD 64 undef, tm.getD 65 undef, tm.getD 66 undef, tm.getD 67 undef, tm.getD 68 undef, tm.getD 69 undef, tm.getD 70 undef, tm.getD 71 undef, tm.getD 72 undef, tm.getD 73 undef, tm.getD 74 undef, tm.getD 75 undef, tm.getD 76 undef, tm.getD 77 undef, tm.getD 78 undef, tm.getD 79 undef, tm.getD 80 undef, tm.getD 81 undef, tm.getD 82 undef, tm.getD 83 undef, tm.getD 84 undef, tm.getD 85 undef, tm.getD 86 undef, tm.getD 87 undef, tm.getD 88 undef, tm.getD 89 undef, tm.getD 90 undef, tm.getD 91 undef, tm.getD 92 undef, tm.getD 93 undef, tm.getD 94 undef, tm.getD 95 undef, tm.getD 96 undef, tm.getD 97 undef, tm.getD 98 undef, tm.getD 99 undef, tm.getD 100 undef, tm.getD 101 undef, tm.getD 102 undef, tm.getD 103 undef, tm.getD 104 undef, tm.getD 105 undef, tm.getD 106 undef, tm.getD 107 undef, tm.getD 108 undef, tm.getD 109 undef, tm.getD 110 undef, tm.getD 111 undef, tm.getD 112 undef, tm.getD 113 undef, tm.getD 114 undef, tm.getD 115 undef, tm.getD 116 undef, tm.getD 117 undef, tm.getD 118 undef, tm.getD 119 undef, tm.getD 120 undef, tm.getD 121 undef, tm.getD 122 undef, tm.getD 123 undef, tm.getD 124 undef, tm.getD 125 undef, tm.getD 126 undef, tm.getD 127 undef, tm.getD 128 undef, tm.getD 129 undef, tm.getD 130 undef, tm.getD 131 undef, tm.getD 132 undef, tm.getD 133 undef, tm.getD 134 undef, tm.getD 135 undef, tm.getD 136 undef, tm.getD 137 undef, tm.getD 138 undef, tm.getD 139 undef, tm.getD 140 undef, tm.getD 141 undef, tm.getD 142 undef, tm.getD 143 undef, tm.getD 144 undef, tm.getD 145 undef, tm.getD 146 undef, tm.getD 147 undef, tm.getD 148 undef, tm.getD 149 undef, tm.getD 150 undef, tm.getD 151 undef, tm.getD 152 undef, tm.getD 153 undef, tm.getD 154 undef, tm.getD 155 undef, tm.getD 156 undef, tm.getD 157 undef, tm.getD 158 undef, tm.getD 159 undef, tm.getD 160 undef, tm.getD 161 undef, tm.getD 162 undef, tm.getD 163 undef, tm.getD 164 undef, tm.getD 165 undef, tm.getD 166 undef, tm.getD 167 undef, tm.getD 168 undef, tm.getD 169 undef, tm.getD 170 undef, tm.getD 171 undef, tm.getD 172 undef, tm.getD 173 undef, tm.getD 174 undef, tm.getD 175 undef, tm.getD 176 undef, tm.getD 177 undef, tm.getD 178 undef, tm.getD 179 undef, tm.getD 180 undef, tm.getD 181 undef, tm.getD 182 undef, tm.getD 183 undef, tm.getD 184 undef, tm.getD 185 undef, tm.getD 186 undef, tm.getD 187 undef, tm.getD 188 undef, tm.getD 189 undef, tm.getD 190 undef, tm.getD 191 undef, tm.getD 192 undef, tm.getD 193 undef, tm.getD 194 undef, tm.getD 195 undef, tm.getD 196 undef, tm.getD 197 undef, tm.getD 198 undef, tm.getD 199 undef, tm.getD 200 undef, tm.getD 201 undef, tm.getD 202 undef, tm.getD 203 undef, tm.getD 204 undef, tm.getD 205 undef, tm.getD 206 undef, tm.getD 207 undef, tm.getD 208 undef, tm.getD 209 undef, tm.getD 210 undef, tm.getD 211 undef, tm.getD 212 undef, tm.getD 213 undef, tm.getD 214 undef, tm.getD 215 undef] := arr_eta (n := 216) hsz
                  replace hdf : df = [] := hdf
                  subst hdf
                  clear hsz hfr hG
                  rw [he, kct, k0, k1, k2, k3, k4, k5, k6, k7, k8, k9, k10, k14, k15, k16, k17, k18, k19, k20, k21, k22, k23, k24, k25, k26, k27, k28, k29, k30, k31, k32, k33, k34, k35, k36, k37, k38, k39, k40, k41, k42, k43, k44, k45, k46, k47, k48, k49, k50, k51, k52, k53, k54, k55, k56, k57, k58, k59, k60, k61, k62, k63, k64, k65, k66, k67, k68, k69, k70, k71, k72, k73, k74, k75, k76, k77, k78, k79, k80, k81, k82, k83, k84, k85, k86, k87, k88, k89, k90, k91, k92, k93, k94, k95, k96, k97, k98, k99, k100, k101, k102, k103, k104, k105, k106, k107, k141, k142, k143, k144, k145, k146, k147, k148, k149, k150, k151, k152, k153, k154, k155, k156, k157, k158, k159, k160, k161, k162, k163, k164, k165, k166, k167, k168, k169, k170, k171, k172, k173, k174, k175, k176, k177, k178, k179, k180, k181, k182, k183, k184, k185, k186, k187, k188, k189, k190, k191, k192, k193, k194, k195, k196, k197, k198, k199, k200, k201, k202, k203, k204, k205, k206, k207, k208, k209, k210, k211, k212, k213, k214, k215, k11, k108]
                  clear he kct k0 k1 k2 k3 k4 k5 k6 k7 k8 k9 k10 k14 k15 k16 k17 k18 k19 k20 k21 k22 k23 k24 k25 k26 k27 k28 k29 k30 k31 k32 k33 k34 k35 k36 k37 k38 k39 k40 k41 k42 k43 k44 k45 k46 k47 k48 k49 k50 k51 k52 k53 k54 k55 k56 k57 k58 k59 k60 k61 k62 k63 k64 k65 k66 k67 k68 k69 k70 k71 k72 k73 k74 k75 k76 k77 k78 k79 k80 k81 k82 k83 k84 k85 k86 k87 k88 k89 k90 k91 k92 k93 k94 k95 k96 k97 k98 k99 k100 k101 k102 k103 k104 k105 k106 k107 k141 k142 k143 k144 k145 k146 k147 k148 k149 k150 k151 k152 k153 k154 k155 k156 k157 k158 k159 k160 k161 k162 k163 k164 k165 k166 k167 k168 k169 k170 k171 k172 k173 k174 k175 k176 k177 k178 k179 k180 k181 k182 k183 k184 k185 k186 k187 k188 k189 k190 k191 k192 k193 k194 k195 k196 k197 k198 k199 k200 k201 k202 k203 k204 k205 k206 k207 k208 k209 k210 k211 k212 k213 k214 k215 k11 k108
                  generalize tm.getD 12 undef = vv at hrow ⊢
                  generalize tm.getD 13 undef = x13
                  generalize tm.getD 109 undef = x109
                  generalize tm.getD 110 undef = x110
                  generalize tm.getD 111 undef = x111
                  generalize tm.getD 112 undef = x112
                  generalize tm.getD 113 undef = x113
                  generalize tm.getD 114 undef = x114
                  generalize tm.getD 115 undef = x115
                  generalize tm.getD 116 undef = x116
                  generalize tm.getD 117 undef = x117
                  generalize tm.getD 118 undef = x118
                  generalize tm.getD 119 undef = x119
                  generalize tm.getD 120 undef = x120
                  generalize tm.getD 121 undef = x121
                  generalize tm.getD 122 undef = x122
                  generalize tm.getD 123 undef = x123
                  generalize tm.getD 124 undef = x124
                  generalize tm.getD 125 undef = x125
                  generalize tm.getD 127 undef = x127
                  generalize tm.getD 128 undef = x128
                  generalize tm.getD 129 undef = x129
                  generalize tm.getD 130 undef = x130
                  generalize tm.getD 131 undef = x131
                  generalize tm.getD 132 undef = x132
                  generalize tm.getD 133 undef = x133
                  generalize tm.getD 134 undef = x134
                  generalize tm.getD 135 undef = x135
                  generalize tm.getD 136 undef = x136
                  generalize tm.getD 137 undef = x137
                  generalize tm.getD 138 undef = x138
                  generalize tm.getD 139 undef = x139
                  generalize tm.getD 140 undef = x140
                  simp only [List.drop_succ_cons, List.drop_zero]
                  clear hPE HT HPA HPI
                  obtain ⟨M, hM⟩ : ∃ M, M = (took (Sp.s 1) X Sp.now).2 := ⟨_, rfl⟩
                  obtain ⟨Sq, hSq⟩ : ∃ Sq : PS, Sq = { Sp with s := put Sp.s 1 (took (Sp.s 1) X Sp.now).1 } := ⟨_, rfl⟩
                  rw [← hM] at hrow HML0
                  rw [← hSq] at hpt
                  have hnx : S4.part 1 (i + 1) = { Sq with L := put Sq.L 5 (Sq.L 5 ++ M) } := by rw [HNX.out, hSq, hM]
                  have HNXQ := Lib.hid hnx
                  have HML : Hid (M.length ≤ 20000) := Lib.hid (by have := HML0.out; omega)
                  have HLN2 : Hid (∀ z, z < 6 → (Sq.L z).length ≤ 20000) := Lib.hid (by rw [hSq]; exact HLN.out)
                  clear HLN hSq hM hnx
                  have HLN := HLN2
                  clear HLN2
                  have HRI6 := Lib.hid (hkt.row HRI.out (fun b _ e => by cases e))
                  have HVV := Lib.hid hrow
                  have HPA := Lib.hid hpt
                  have hp0 := hpt
                  clear hrow hpt hkt HRI HBW
                  go_upto_region 26 with fail
                  generalize w6 = W7 at *
                  have HT : Hid (p1Ph W7 false W7.drew) := Lib.hid (fun _ => (Only.refl _ W7).drew)
                  obtain ⟨B, hB⟩ : ∃ B, B = W7.heap.size := ⟨_, rfl⟩
                  have HBW : Hid (W7.heap.size = B) := Lib.hid hB.symm
                  clear hB
                  refine wp_region_phasedk_tail 13 b1sDs b1sNeed b1sGs b1sLate b1sEarly (fun L w' => p1Ph W7 (L 9) w') (fun i w w' => Only (p1St 9 i) w w') (b1sG W B p p g mo me rvi Sq 0 0 ⟨#[]⟩ false vv M W7) rfl rfl (by kernel_rfl) (by kernel_rfl) (by kernel_rfl) (by kernel_rfl) (by kernel_rfl) (by kernel_rfl) HT.out b1sG.keep b1sG.guard (fun _ _ => Only.refl _ _) ?_ ?_
                  · refine And.intro ?op0 (And.intro ?op1 (And.intro ?op2 (And.intro ?op3 (And.intro ?op4 (And.intro ?op5 (And.intro ?op6 (And.intro ?op7 (And.intro ?op8 (And.intro ?op9 (And.intro ?op10 (And.intro ?op11 (And.intro ?op12 trivial))))))))))))
                    case op0 =>
                      intro L ev w1 hLi hlate hearly hT1 hc hf hfr hG
                      rw [if_pos (by decide)]
                      have hP : p1Ph W7 (L 9) w1 := hT1
                      have h5 : ev (.tmp 5) = .pointer (some ⟨p, 0, none⟩) := hfr 5 (by decide)
                      clear hG hfr
                      refine OpSays.value (v := .pointer (some ⟨p, 0, none⟩)) (w' := w1) ?_ ⟨hT1, Only.refl _ _, rfl⟩
                      go_simp
                    case op1 =>
                      intro L ev w1 hLi hlate hearly hT1 hc hf hfr hG
                      rw [if_pos (by decide)]
                      have hP : p1Ph W7 (L 9) w1 := hT1
                      have h8 : ev (.tmp 8) = .int .i64 1 := hfr 8 (by decide)
                      clear hG hfr
                      refine OpSays.value (v := .int .i64 1) (w' := w1) ?_ ⟨hT1, Only.refl _ _, rfl⟩
                      go_simp
                    case op2 =>
                      intro L ev w1 hLi hlate hearly hT1 hc hf hfr hG
                      rw [if_pos (by decide)]
                      have hP : p1Ph W7 (L 9) w1 := hT1
                      obtain ⟨hl9, _⟩ := hlate
                      rw [hl9] at hP
                      have h5 : ev (.tmp 5) = .pointer (some ⟨p, 0, none⟩) := hfr 5 (by decide)
                      clear hG hfr
                      refine OpSays.value (v := .pointer (some ⟨p, 0, none⟩)) (w' := w1) ?_ ⟨hT1, Only.refl _ _, rfl⟩
                      go_simp
                    case op3 =>
                      intro L ev w1 hLi hlate hearly hT1 hc hf hfr hG
                      rw [if_pos (by decide)]
                      have hP : p1Ph W7 (L 9) w1 := hT1
                      obtain ⟨hl9, _⟩ := hlate
                      rw [hl9] at hP
                      have h8 : ev (.tmp 8) = .int .i64 1 := hfr 8 (by decide)
                      clear hG hfr
                      refine OpSays.value (v := .int .i64 1) (w' := w1) ?_ ⟨hT1, Only.refl _ _, rfl⟩
                      go_simp
                    case op4 =>
                      intro L ev w1 hLi hlate hearly hT1 hc hf hfr hG
                      rw [if_pos (by decide)]
                      have hP : p1Ph W7 (L 9) w1 := hT1
                      obtain ⟨hl9, _⟩ := hlate
                      rw [hl9] at hP
                      have hg : (ev (.tmp 129) = .pointer (some ⟨p, 0, none⟩)) ∧ True := hG
                      obtain ⟨g2, _⟩ := hg
                      clear hG hfr
                      refine OpSays.value (v := .pointer (some ⟨p, 0, none⟩)) (w' := w1) ?_ ⟨hT1, Only.refl _ _, rfl⟩
                      go_simp
                    case op5 =>
                      intro L ev w1 hLi hlate hearly hT1 hc hf hfr hG
                      rw [if_pos (by decide)]
                      have hP : p1Ph W7 (L 9) w1 := hT1
                      obtain ⟨hl9, _⟩ := hlate
                      rw [hl9] at hP
                      have hg : (ev (.tmp 131) = .pointer (some ⟨p, 0, none⟩)) ∧ True := hG
                      obtain ⟨g4, _⟩ := hg
                      clear hG hfr
                      refine OpSays.value (v := .pointer (some ⟨p, 6, none⟩)) (w' := w1) ?_ ⟨hT1, Only.refl _ _, rfl⟩
                      go_simp
                    case op6 =>
                      intro L ev w1 hLi hlate hearly hT1 hc hf hfr hG
                      rw [if_pos (by decide)]
                      have hP : p1Ph W7 (L 9) w1 := hT1
                      obtain ⟨hl9, _⟩ := hlate
                      rw [hl9] at hP
                      have hg : (ev (.tmp 130) = .int .i64 1) ∧ (ev (.tmp 132) = .pointer (some ⟨p, 6, none⟩)) ∧ True := hG
                      obtain ⟨g3, g5, _⟩ := hg
                      clear hG hfr
                      refine OpSays.value (v := .pointer (some ⟨p, 7, none⟩)) (w' := w1) ?_ ⟨hT1, Only.refl _ _, rfl⟩
                      go_simp
                    case op7 =>
                      intro L ev w1 hLi hlate hearly hT1 hc hf hfr hG
                      rw [if_pos (by decide)]
                      have hP : p1Ph W7 (L 9) w1 := hT1
                      obtain ⟨hl9, _⟩ := hlate
                      rw [hl9] at hP
                      have hg : (ev (.tmp 133) = .pointer (some ⟨p, 7, none⟩)) ∧ True := hG
                      obtain ⟨g6, _⟩ := hg
                      clear hG hfr
                      have c : w1.cell? ⟨p, 7, none⟩ = some (rvi 5) := (HPA.out.keep (hP rfl)).cRow (i := 5) (by decide)
                      refine OpSays.value (v := rvi 5) (w' := w1) ?_ ⟨hT1, Only.refl _ _, rfl⟩
                      go_simp
                    case op8 =>
                      intro L ev w1 hLi hlate hearly hT1 hc hf hfr hG
                      rw [if_pos (by decide)]
                      have hP : p1Ph W7 (L 9) w1 := hT1
                      obtain ⟨hl9, _⟩ := hlate
                      rw [hl9] at hP
                      have h12 : ev (.tmp 12) = vv := hfr 12 (by decide)
                      clear hG hfr
                      refine OpSays.value (v := vv) (w' := w1) ?_ ⟨hT1, Only.refl _ _, rfl⟩
                      go_simp
                    case op9 =>
                      intro L ev w1 hLi hlate hearly hT1 hc hf hfr hG
                      rw [if_pos (by decide)]
                      have hP : p1Ph W7 (L 9) w1 := hT1
                      rw [hLi] at hP
                      change OpSays _ _ _ _ (fun v w' => p1Ph W7 (true) w' ∧ _ ∧ _)
                      have hg : (ev (.tmp 134) = rvi 5) ∧ (ev (.tmp 135) = vv) ∧ True := hG
                      obtain ⟨g7, g8, _⟩ := hg
                      clear hG hfr
                      have hpa := HPA.out.keep (hP rfl)
                      obtain ⟨v2, w2, hr, h1, h2, h3⟩ := append_texts w1 43 W.heap.size _ vv (Sq.L 5) M (hpa.rows 5 (by decide) (by decide)) (row_src (row_keepS HVV.out (hP rfl) (fun _ _ h => h))) hpa.only.size (by have := HLN.out 5 (by decide); have := HML.out; omega)
                      refine OpSays.value (v := v2) (w' := w2) ?_ ⟨fun e => (by cases e), (Only.of_grown h2).mono (fun _ _ _ => rfl), h1, fun b hb => (h3 b hb).imp id (fun h => by have := (hP rfl).size; have := HBW.out; omega), hpa.grown (by decide) h2, fun b o h1 hb => (Only.of_grown h2).at ((hP rfl).at hb (fun h => h)) (fun e => h1 e.symm)⟩
                      unfold execOp
                      simp only [resolve, invoke, builtin, Sem.run_bind, Sem.run_pure, Result.andThen_ok, List.map_toArray, List.map_cons, List.map_nil, g7, g8, hr]
                    case op10 =>
                      intro L ev w1 hLi hlate hearly hT1 hc hf hfr hG
                      rw [if_pos (by decide)]
                      have hP : p1Ph W7 (L 9) w1 := hT1
                      have hg : (ev (.tmp 127) = .pointer (some ⟨p, 0, none⟩)) ∧ True := hG
                      obtain ⟨g0, _⟩ := hg
                      clear hG hfr
                      refine OpSays.value (v := .pointer (some ⟨p, 0, none⟩)) (w' := w1) ?_ ⟨hT1, Only.refl _ _, rfl⟩
                      go_simp
                    case op11 =>
                      intro L ev w1 hLi hlate hearly hT1 hc hf hfr hG
                      rw [if_pos (by decide)]
                      have hP : p1Ph W7 (L 9) w1 := hT1
                      have hg : (ev (.tmp 137) = .pointer (some ⟨p, 0, none⟩)) ∧ True := hG
                      obtain ⟨g10, _⟩ := hg
                      clear hG hfr
                      refine OpSays.value (v := .pointer (some ⟨p, 6, none⟩)) (w' := w1) ?_ ⟨hT1, Only.refl _ _, rfl⟩
                      go_simp
                    case op12 =>
                      intro L ev w1 hLi hlate hearly hT1 hc hf hfr hG
                      rw [if_pos (by decide)]
                      have hP : p1Ph W7 (L 9) w1 := hT1
                      have hg : (ev (.tmp 128) = .int .i64 1) ∧ (ev (.tmp 138) = .pointer (some ⟨p, 6, none⟩)) ∧ True := hG
                      obtain ⟨g1, g11, _⟩ := hg
                      clear hG hfr
                      refine OpSays.value (v := .pointer (some ⟨p, 7, none⟩)) (w' := w1) ?_ ⟨hT1, Only.refl _ _, rfl⟩
                      go_simp
                  rintro L ⟨tm, df⟩ w8 hL hT1 hsz hdf hfr hG
                  have hPE : p1Ph W7 (true) w8 := by
                    have hP : p1Ph W7 (L 9) w8 := hT1
                    have hm := fun k (hk : k ∈ List.range 13) => AllB.get hL k hk
                    rw [hm 9 (by decide)] at hP
                    exact hP
                  clear hT1 hL
                  have k0 : tm.getD 0 undef = Value.int IntKind.i64 ro := hfr 0 (by decide)
                  have k1 : tm.getD 1 undef = Value.slice a n cap := hfr 1 (by decide)
                  have k2 : tm.getD 2 undef = undef := hfr 2 (by decide)
                  have k3 : tm.getD 3 undef = undef := hfr 3 (by decide)
                  have k4 : tm.getD 4 undef = u4 := hfr 4 (by decide)
                  have k5 : tm.getD 5 undef = .pointer (some ⟨p, 0, none⟩) := hfr 5 (by decide)
                  have k6 : tm.getD 6 undef = u6 := hfr 6 (by decide)
                  have k7 : tm.getD 7 undef = u7 := hfr 7 (by decide)
                  have k8 : tm.getD 8 undef = .int .i64 1 := hfr 8 (by decide)
                  have k9 : tm.getD 9 undef = Value.slice (some { block := ga, off := 0 }) N ca := hfr 9 (by decide)
                  have k10 : tm.getD 10 undef = undef := hfr 10 (by decide)
                  have k14 : tm.getD 14 undef = undef := hfr 14 (by decide)
                  have k15 : tm.getD 15 undef = undef := hfr 15 (by decide)
                  have k16 : tm.getD 16 undef = undef := hfr 16 (by decide)
                  have k17 : tm.getD 17 undef = undef := hfr 17 (by decide)
                  have k18 : tm.getD 18 undef = Value.int IntKind.i64 ro := hfr 18 (by decide)
                  have k19 : tm.getD 19 undef = Value.int IntKind.i64 (ro % 8) := hfr 19 (by decide)
                  have k20 : tm.getD 20 undef = Value.int IntKind.i64 R := hfr 20 (by decide)
                  have k21 : tm.getD 21 undef = Value.pointer (some { block := p, off := 0 }) := hfr 21 (by decide)
                  have k22 : tm.getD 22 undef = Value.pointer (some { block := p, off := 0 }) := hfr 22 (by decide)
                  have k23 : tm.getD 23 undef = Value.bool false := hfr 23 (by decide)
                  have k24 : tm.getD 24 undef = Value.bool false := hfr 24 (by decide)
                  have k25 : tm.getD 25 undef = Value.bool true := hfr 25 (by decide)
                  have k26 : tm.getD 26 undef = Value.bool false := hfr 26 (by decide)
                  have k27 : tm.getD 27 undef = Value.bool false := hfr 27 (by decide)
                  have k28 : tm.getD 28 undef = u28 := hfr 28 (by decide)
                  have k29 : tm.getD 29 undef = u29 := hfr 29 (by decide)
                  have k30 : tm.getD 30 undef = u30 := hfr 30 (by decide)
                  have k31 : tm.getD 31 undef = u31 := hfr 31 (by decide)
                  have k32 : tm.getD 32 undef = u32 := hfr 32 (by decide)
                  have k33 : tm.getD 33 undef = u33 := hfr 33 (by decide)
                  have k34 : tm.getD 34 undef = u34 := hfr 34 (by decide)
                  have k35 : tm.getD 35 undef = u35 := hfr 35 (by decide)
                  have k36 : tm.getD 36 undef = u36 := hfr 36 (by decide)
                  have k37 : tm.getD 37 undef = u37 := hfr 37 (by decide)
                  have k38 : tm.getD 38 undef = u38 := hfr 38 (by decide)
                  have k39 : tm.getD 39 undef = u39 := hfr 39 (by decide)
                  have k40 : tm.getD 40 undef = u40 := hfr 40 (by decide)
                  have k41 : tm.getD 41 undef = u41 := hfr 41 (by decide)
                  have k42 : tm.getD 42 undef = u42 := hfr 42 (by decide)
                  have k43 : tm.getD 43 undef = u43 := hfr 43 (by decide)
                  have k44 : tm.getD 44 undef = u44 := hfr 44 (by decide)
                  have k45 : tm.getD 45 undef = u45 := hfr 45 (by decide)
                  have k46 : tm.getD 46 undef = u46 := hfr 46 (by decide)
                  have k47 : tm.getD 47 undef = u47 := hfr 47 (by decide)
                  have k48 : tm.getD 48 undef = u48 := hfr 48 (by decide)
                  have k49 : tm.getD 49 undef = u49 := hfr 49 (by decide)
                  have k50 : tm.getD 50 undef = u50 := hfr 50 (by decide)
                  have k51 : tm.getD 51 undef = u51 := hfr 51 (by decide)
                  have k52 : tm.getD 52 undef = u52 := hfr 52 (by decide)
                  have k53 : tm.getD 53 undef = u53 := hfr 53 (by decide)
                  have k54 : tm.getD 54 undef = Value.int IntKind.i64 (k : Int) := hfr 54 (by decide)
                  have k55 : tm.getD 55 undef = Value.bool (decide ((k : Int) < 40)) := hfr 55 (by decide)
                  have k56 : tm.getD 56 undef = Value.pointer (some { block := p, off := 0 }) := hfr 56 (by decide)
                  have k57 : tm.getD 57 undef = Value.pointer (some { block := p, off := 0 }) := hfr 57 (by decide)
                  have k58 : tm.getD 58 undef = Value.pointer (some { block := p, off := 8 }) := hfr 58 (by decide)
                  have k59 : tm.getD 59 undef = Value.int IntKind.i64 S.now := hfr 59 (by decide)
                  have k60 : tm.getD 60 undef = Value.int IntKind.i64 (S.now + 2) := hfr 60 (by decide)
                  have k61 : tm.getD 61 undef = Value.pointer (some { block := p, off := 0 }) := hfr 61 (by decide)
                  have k62 : tm.getD 62 undef = Value.pointer (some { block := p, off := 8 }) := hfr 62 (by decide)
                  have k63 : tm.getD 63 undef = u63 := hfr 63 (by decide)
                  have k64 : tm.getD 64 undef = u64 := hfr 64 (by decide)
                  have k65 : tm.getD 65 undef = u65 := hfr 65 (by decide)
                  have k66 : tm.getD 66 undef = u66 := hfr 66 (by decide)
                  have k67 : tm.getD 67 undef = u67 := hfr 67 (by decide)
                  have k68 : tm.getD 68 undef = u68 := hfr 68 (by decide)
                  have k69 : tm.getD 69 undef = u69 := hfr 69 (by decide)
                  have k70 : tm.getD 70 undef = u70 := hfr 70 (by decide)
                  have k71 : tm.getD 71 undef = u71 := hfr 71 (by decide)
                  have k72 : tm.getD 72 undef = u72 := hfr 72 (by decide)
                  have k73 : tm.getD 73 undef = u73 := hfr 73 (by decide)
                  have k74 : tm.getD 74 undef = u74 := hfr 74 (by decide)
                  have k75 : tm.getD 75 undef = u75 := hfr 75 (by decide)
                  have k76 : tm.getD 76 undef = u76 := hfr 76 (by decide)
                  have k77 : tm.getD 77 undef = u77 := hfr 77 (by decide)
                  have k78 : tm.getD 78 undef = u78 := hfr 78 (by decide)
                  have k79 : tm.getD 79 undef = u79 := hfr 79 (by decide)
                  have k80 : tm.getD 80 undef = u80 := hfr 80 (by decide)
                  have k81 : tm.getD 81 undef = u81 := hfr 81 (by decide)
                  have k82 : tm.getD 82 undef = u82 := hfr 82 (by decide)
                  have k83 : tm.getD 83 undef = u83 := hfr 83 (by decide)
                  have k84 : tm.getD 84 undef = u84 := hfr 84 (by decide)
                  have k85 : tm.getD 85 undef = u85 := hfr 85 (by decide)
                  have k86 : tm.getD 86 undef = u86 := hfr 86 (by decide)
                  have k87 : tm.getD 87 undef = u87 := hfr 87 (by decide)
                  have k88 : tm.getD 88 undef = u88 := hfr 88 (by decide)
                  have k89 : tm.getD 89 undef = u89 := hfr 89 (by decide)
                  have k90 : tm.getD 90 undef = u90 := hfr 90 (by decide)
                  have k91 : tm.getD 91 undef = u91 := hfr 91 (by decide)
                  have k92 : tm.getD 92 undef = Value.int IntKind.i64 1 := hfr 92 (by decide)
                  have k93 : tm.getD 93 undef = Value.bool true := hfr 93 (by decide)
                  have k94 : tm.getD 94 undef = Value.int IntKind.i64 1 := hfr 94 (by decide)
                  have k95 : tm.getD 95 undef = Value.pointer (some { block := p, off := 0 }) := hfr 95 (by decide)
                  have k96 : tm.getD 96 undef = Value.int IntKind.i64 1 := hfr 96 (by decide)
                  have k97 : tm.getD 97 undef = Value.pointer (some { block := p, off := 0 }) := hfr 97 (by decide)
                  have k98 : tm.getD 98 undef = Value.pointer (some { block := p, off := 2 }) := hfr 98 (by decide)
                  have k99 : tm.getD 99 undef = Value.pointer (some { block := p, off := 3 }) := hfr 99 (by decide)
                  have k100 : tm.getD 100 undef = Value.slice (some { block := ga, off := 0 }) N ca := hfr 100 (by decide)
                  have k101 : tm.getD 101 undef = Value.pointer (some { block := p, off := 0 }) := hfr 101 (by decide)
                  have k102 : tm.getD 102 undef = Value.int IntKind.i64 1 := hfr 102 (by decide)
                  have k103 : tm.getD 103 undef = Value.pointer (some { block := p, off := 0 }) := hfr 103 (by decide)
                  have k104 : tm.getD 104 undef = Value.pointer (some { block := p, off := 2 }) := hfr 104 (by decide)
                  have k105 : tm.getD 105 undef = Value.pointer (some { block := p, off := 3 }) := hfr 105 (by decide)
                  have k106 : tm.getD 106 undef = Value.slice (some { block := ga, off := 0 }) N ca := hfr 106 (by decide)
                  have k107 : tm.getD 107 undef = Value.int IntKind.i64 ↑N := hfr 107 (by decide)
                  have k141 : tm.getD 141 undef = Value.int IntKind.i64 1 := hfr 141 (by decide)
                  have k142 : tm.getD 142 undef = u142 := hfr 142 (by decide)
                  have k143 : tm.getD 143 undef = undef := hfr 143 (by decide)
                  have k144 : tm.getD 144 undef = undef := hfr 144 (by decide)
                  have k145 : tm.getD 145 undef = undef := hfr 145 (by decide)
                  have k146 : tm.getD 146 undef = undef := hfr 146 (by decide)
                  have k147 : tm.getD 147 undef = undef := hfr 147 (by decide)
                  have k148 : tm.getD 148 undef = undef := hfr 148 (by decide)
                  have k149 : tm.getD 149 undef = undef := hfr 149 (by decide)
                  have k150 : tm.getD 150 undef = undef := hfr 150 (by decide)
                  have k151 : tm.getD 151 undef = undef := hfr 151 (by decide)
                  have k152 : tm.getD 152 undef = undef := hfr 152 (by decide)
                  have k153 : tm.getD 153 undef = undef := hfr 153 (by decide)
                  have k154 : tm.getD 154 undef = undef := hfr 154 (by decide)
                  have k155 : tm.getD 155 undef = undef := hfr 155 (by decide)
                  have k156 : tm.getD 156 undef = undef := hfr 156 (by decide)
                  have k157 : tm.getD 157 undef = undef := hfr 157 (by decide)
                  have k158 : tm.getD 158 undef = undef := hfr 158 (by decide)
                  have k159 : tm.getD 159 undef = undef := hfr 159 (by decide)
                  have k160 : tm.getD 160 undef = undef := hfr 160 (by decide)
                  have k161 : tm.getD 161 undef = undef := hfr 161 (by decide)
                  have k162 : tm.getD 162 undef = undef := hfr 162 (by decide)
                  have k163 : tm.getD 163 undef = undef := hfr 163 (by decide)
                  have k164 : tm.getD 164 undef = undef := hfr 164 (by decide)
                  have k165 : tm.getD 165 undef = undef := hfr 165 (by decide)
                  have k166 : tm.getD 166 undef = undef := hfr 166 (by decide)
                  have k167 : tm.getD 167 undef = undef := hfr 167 (by decide)
                  have k168 : tm.getD 168 undef = undef := hfr 168 (by decide)
                  have k169 : tm.getD 169 undef = undef := hfr 169 (by decide)
                  have k170 : tm.getD 170 undef = undef := hfr 170 (by decide)
                  have k171 : tm.getD 171 undef = undef := hfr 171 (by decide)
                  have k172 : tm.getD 172 undef = undef := hfr 172 (by decide)
                  have k173 : tm.getD 173 undef = undef := hfr 173 (by decide)
                  have k174 : tm.getD 174 undef = undef := hfr 174 (by decide)
                  have k175 : tm.getD 175 undef = undef := hfr 175 (by decide)
                  have k176 : tm.getD 176 undef = undef := hfr 176 (by decide)
                  have k177 : tm.getD 177 undef = undef := hfr 177 (by decide)
                  have k178 : tm.getD 178 undef = undef := hfr 178 (by decide)
                  have k179 : tm.getD 179 undef = undef := hfr 179 (by decide)
                  have k180 : tm.getD 180 undef = undef := hfr 180 (by decide)
                  have k181 : tm.getD 181 undef = undef := hfr 181 (by decide)
                  have k182 : tm.getD 182 undef = undef := hfr 182 (by decide)
                  have k183 : tm.getD 183 undef = undef := hfr 183 (by decide)
                  have k184 : tm.getD 184 undef = undef := hfr 184 (by decide)
                  have k185 : tm.getD 185 undef = undef := hfr 185 (by decide)
                  have k186 : tm.getD 186 undef = undef := hfr 186 (by decide)
                  have k187 : tm.getD 187 undef = undef := hfr 187 (by decide)
                  have k188 : tm.getD 188 undef = undef := hfr 188 (by decide)
                  have k189 : tm.getD 189 undef = undef := hfr 189 (by decide)
                  have k190 : tm.getD 190 undef = undef := hfr 190 (by decide)
                  have k191 : tm.getD 191 undef = undef := hfr 191 (by decide)
                  have k192 : tm.getD 192 undef = undef := hfr 192 (by decide)
                  have k193 : tm.getD 193 undef = undef := hfr 193 (by decide)
                  have k194 : tm.getD 194 undef = undef := hfr 194 (by decide)
                  have k195 : tm.getD 195 undef = undef := hfr 195 (by decide)
                  have k196 : tm.getD 196 undef = undef := hfr 196 (by decide)
                  have k197 : tm.getD 197 undef = undef := hfr 197 (by decide)
                  have k198 : tm.getD 198 undef = undef := hfr 198 (by decide)
                  have k199 : tm.getD 199 undef = undef := hfr 199 (by decide)
                  have k200 : tm.getD 200 undef = undef := hfr 200 (by decide)
                  have k201 : tm.getD 201 undef = undef := hfr 201 (by decide)
                  have k202 : tm.getD 202 undef = undef := hfr 202 (by decide)
                  have k203 : tm.getD 203 undef = undef := hfr 203 (by decide)
                  have k204 : tm.getD 204 undef = undef := hfr 204 (by decide)
                  have k205 : tm.getD 205 undef = undef := hfr 205 (by decide)
                  have k206 : tm.getD 206 undef = undef := hfr 206 (by decide)
                  have k207 : tm.getD 207 undef = undef := hfr 207 (by decide)
                  have k208 : tm.getD 208 undef = undef := hfr 208 (by decide)
                  have k209 : tm.getD 209 undef = undef := hfr 209 (by decide)
                  have k210 : tm.getD 210 undef = undef := hfr 210 (by decide)
                  have k211 : tm.getD 211 undef = undef := hfr 211 (by decide)
                  have k212 : tm.getD 212 undef = undef := hfr 212 (by decide)
                  have k213 : tm.getD 213 undef = undef := hfr 213 (by decide)
                  have k214 : tm.getD 214 undef = undef := hfr 214 (by decide)
                  have k215 : tm.getD 215 undef = undef := hfr 215 (by decide)
                  have k108 : tm.getD 108 undef = .int .i64 (i : Int) := hfr 108 (by decide)
                  have k139 : tm.getD 139 undef = .pointer (some ⟨p, 7, none⟩) := AllG.get hG 12 (by decide)
                  obtain ⟨hrow, hob, hpx, hkt⟩ : w8.ownsRow W.heap.size 9 1 (tm.getD 136 undef) (Sq.L 5 ++ M).length ((Sq.L 5 ++ M).map Value.string) ∧ (∀ b, (tm.getD 136 undef).ownBlock = some b → (rvi 5).ownBlock = some b ∨ B ≤ b) ∧ PAt W w8 5 p g mo me rvi Sq ∧ KeepT (rvi 5) W7 w8 := AllG.get hG 9 (by decide)
                  have he : tm = #[tm.getD 0 undef, tm.getD 1 undef, tm.getD 2 undef, tm.getD 3 undef, tm.getD 4 undef, tm.getD 5 undef, tm.getD 6 undef, tm.getD 7 undef, tm.getD 8 undef, tm.getD 9 undef, tm.getD 10 undef, tm.getD 11 undef, tm.getD 12 undef, tm.getD 13 undef, tm.getD 14 undef, tm.getD 15 undef, tm.getD 16 undef, tm.getD 17 undef, tm.getD 18 undef, tm.getD 19 undef, tm.getD 20 undef, tm.getD 21 undef, tm.getD 22 undef, tm.getD 23 undef, tm.getD 24 undef, tm.getD 25 undef, tm.getD 26 undef, tm.getD 27 undef, tm.getD 28 undef, tm.getD 29 undef, tm.getD 30 undef, tm.getD 31 undef, tm.getD 32 undef, tm.getD 33 undef, tm.getD 34 undef, tm.getD 35 undef, tm.getD 36 undef, tm.getD 37 undef, tm.getD 38 undef, tm.getD 39 undef, tm.getD 40 undef, tm.getD 41 undef, tm.getD 42 undef, tm.getD 43 undef, tm.getD 44 undef, tm.getD 45 undef, tm.getD 46 undef, tm.getD 47 undef, tm.getD 48 undef, tm.getD 49 undef, tm.getD 50 undef, tm.getD 51 undef, tm.getD 52 undef, tm.getD 53 undef, tm.getD 54 undef, tm.getD 55 undef, tm.getD 56 undef, tm.getD 57 undef, tm.getD 58 undef, tm.getD 59 undef, tm.getD 60 undef, tm.getD 61 undef, tm.getD 62 undef, tm.getD 63 undef, tm.getD 64 undef, tm.getD 65 undef, tm.getD 66 undef, tm.getD 67 undef, tm.getD 68 undef, tm.getD 69 undef, tm.getD 70 undef, tm.getD 71 undef, tm.getD 72 undef, tm.getD 73 undef, tm.getD 74 undef, tm.getD 75 undef, tm.getD 76 undef, tm.getD 77 undef, tm.getD 78 undef, tm.getD 79 undef, tm.getD 80 undef, tm.getD 81 undef, tm.getD 82 undef, tm.getD 83 undef, tm.getD 84 undef, tm.getD 85 undef, tm.getD 86 undef, tm.getD 87 undef, tm.getD 88 undef, tm.getD 89 undef, tm.getD 90 undef, tm.getD 91 undef, tm.getD 92 undef, tm.getD 93 undef, tm.getD 94 undef, tm.getD 95 undef, tm.getD 96 undef, tm.getD 97 undef, tm.getD 98 undef, tm.getD 99 undef, tm.getD 100 undef, tm.getD 101 undef, tm.getD 102 undef, tm.getD 103 undef, tm.getD 104 undef, tm.getD 105 undef, tm.getD 106 undef, tm.getD 107 undef, tm.getD 108 undef, tm.getD 109 undef, tm.getD 110 undef, tm.getD 111 undef, tm.getD 112 undef, tm.getD 113 undef, tm.getD 114 undef, tm.getD 115 undef, tm.getD 116 undef, tm.getD 117 undef, tm.getD 118 undef, tm.getD 119 undef, tm.getD 120 undef, tm.getD 121 undef, tm.getD 122 undef, tm.getD 123 undef, tm.getD 124 undef, tm.getD 125 undef, tm.getD 126 undef, tm.getD 127 undef, tm.getD 128 undef, tm.getD 129 undef, tm.getD 130 undef, tm.getD 131 undef, tm.getD 132 undef, tm.getD 133 undef, tm.getD 134 undef, tm.getD 135 undef, tm.getD 136 undef, tm.getD 137 undef, tm.getD 138 undef, tm.getD 139 undef, tm.getD 140 undef, tm.getD 141 undef, tm.getD 142 undef, tm.getD 143 undef, tm.getD 144 undef, tm.getD 145 undef, tm.getD 146 undef, tm.getD 147 undef, tm.getD 148 undef, tm.getD 149 undef, tm.getD 150 undef, tm.getD 151 undef, tm.getD 152 undef, tm.getD 153 undef, tm.getD 154 undef, tm.getD 155 undef, tm.getD 156 undef, tm.getD 157 undef, tm.getD 158 undef, tm.getD 159 undef, tm.getD 160 undef, tm.getD 161 undef, tm.getD 162 undef, tm.getD 163 undef, tm.getD 164 undef, tm.getD 165 undef, tm.getD 166 undef, tm.getD 167 undef, tm.getD 168 undef, tm.getD 169 undef, tm.getD 170 undef, tm.getD 171 undef, tm.getD 172 undef, tm.getD 173 undef, tm.getD 174 undef, tm.getD 175 undef, tm.getD 176 undef, tm.getD 177 undef, tm.getD 178 undef, tm.getD 179 undef, tm.getD 180 undef, tm.getD 181 undef, tm.getD 182 undef, tm.getD 183 undef, tm.getD 184 undef, tm.getD 185 undef, tm.getD 186 undef, tm.getD 187 undef, tm.getD 188 undef, tm.getD 189 undef, tm.getD 190 undef, tm.getD 191 undef, tm.getD 192 undef, tm.getD 193 undef, tm.getD 194 undef, tm.getD 195 undef, tm.getD 196 undef, tm.getD 197 undef, tm.getD 198 undef, tm.getD 199 undef, tm.getD 200 undef, tm.getD 201 undef, tm.getD 202 undef, tm.getD 203 undef, tm.getD 204 undef, tm.getD 205 undef, tm.getD 206 undef, tm.getD 207 undef, tm.getD 208 undef, tm.getD 209 undef, tm.getD 210 undef, tm.getD 211 undef, tm.getD 212 undef, tm.getD 213 undef, tm.getD 214 undef, tm.getD 215 undef] := arr_eta (n := 216) hsz
                  replace hdf : df = [] := hdf
                  subst hdf
                  clear hsz hfr hG
                  rw [he, k0, k1, k2, k3, k4, k5, k6, k7, k8, k9, k10, k14, k15, k16, k17, k18, k19, k20, k21, k22, k23, k24, k25, k26, k27, k28, k29, k30, k31, k32, k33, k34, k35, k36, k37, k38, k39, k40, k41, k42, k43, k44, k45, k46, k47, k48, k49, k50, k51, k52, k53, k54, k55, k56, k57, k58, k59, k60, k61, k62, k63, k64, k65, k66, k67, k68, k69, k70, k71, k72, k73, k74, k75, k76, k77, k78, k79, k80, k81, k82, k83, k84, k85, k86, k87, k88, k89, k90, k91, k92, k93, k94, k95, k96, k97, k98, k99, k100, k101, k102, k103, k104, k105, k106, k107, k141, k142, k143, k144, k145, k146, k147, k148, k149, k150, k151, k152, k153, k154, k155, k156, k157, k158, k159, k160, k161, k162, k163, k164, k165, k166, k167, k168, k169, k170, k171, k172, k173, k174, k175, k176, k177, k178, k179, k180, k181, k182, k183, k184, k185, k186, k187, k188, k189, k190, k191, k192, k193, k194, k195, k196, k197, k198, k199, k200, k201, k202, k203, k204, k205, k206, k207, k208, k209, k210, k211, k212, k213, k214, k215, k108, k139]
                  clear he k0 k1 k2 k3 k4 k5 k6 k7 k8 k9 k10 k14 k15 k16 k17 k18 k19 k20 k21 k22 k23 k24 k25 k26 k27 k28 k29 k30 k31 k32 k33 k34 k35 k36 k37 k38 k39 k40 k41 k42 k43 k44 k45 k46 k47 k48 k49 k50 k51 k52 k53 k54 k55 k56 k57 k58 k59 k60 k61 k62 k63 k64 k65 k66 k67 k68 k69 k70 k71 k72 k73 k74 k75 k76 k77 k78 k79 k80 k81 k82 k83 k84 k85 k86 k87 k88 k89 k90 k91 k92 k93 k94 k95 k96 k97 k98 k99 k100 k101 k102 k103 k104 k105 k106 k107 k141 k142 k143 k144 k145 k146 k147 k148 k149 k150 k151 k152 k153 k154 k155 k156 k157 k158 k159 k160 k161 k162 k163 k164 k165 k166 k167 k168 k169 k170 k171 k172 k173 k174 k175 k176 k177 k178 k179 k180 k181 k182 k183 k184 k185 k186 k187 k188 k189 k190 k191 k192 k193 k194 k195 k196 k197 k198 k199 k200 k201 k202 k203 k204 k205 k206 k207 k208 k209 k210 k211 k212 k213 k214 k215 k108 k139
                  generalize tm.getD 11 undef = x11
                  generalize tm.getD 12 undef = x12
                  generalize tm.getD 13 undef = x13
                  generalize tm.getD 109 undef = x109
                  generalize tm.getD 110 undef = x110
                  generalize tm.getD 111 undef = x111
                  generalize tm.getD 112 undef = x112
                  generalize tm.getD 113 undef = x113
                  generalize tm.getD 114 undef = x114
                  generalize tm.getD 115 undef = x115
                  generalize tm.getD 116 undef = x116
                  generalize tm.getD 117 undef = x117
                  generalize tm.getD 118 undef = x118
                  generalize tm.getD 119 undef = x119
                  generalize tm.getD 120 undef = x120
                  generalize tm.getD 121 undef = x121
                  generalize tm.getD 122 undef = x122
                  generalize tm.getD 123 undef = x123
                  generalize tm.getD 124 undef = x124
                  generalize tm.getD 125 undef = x125
                  generalize tm.getD 126 undef = x126
                  generalize tm.getD 127 undef = x127
                  generalize tm.getD 128 undef = x128
                  generalize tm.getD 129 undef = x129
                  generalize tm.getD 130 undef = x130
                  generalize tm.getD 131 undef = x131
                  generalize tm.getD 132 undef = x132
                  generalize tm.getD 133 undef = x133
                  generalize tm.getD 134 undef = x134
                  generalize tm.getD 135 undef = x135
                  generalize tm.getD 136 undef = vb at hrow hob ⊢
                  generalize tm.getD 137 undef = x137
                  generalize tm.getD 138 undef = x138
                  generalize tm.getD 140 undef = x140
                  simp only [List.drop_succ_cons, List.drop_zero]
                  clear hPE HT HPA
                  obtain ⟨ab, cb, eb, _, _⟩ := row_texts hrow
                  have x2 := (blk_cell hpx.blk 7).trans (show (pcells g rvi Sq.now)[7]? = some (rvi 5) from rfl)
                  have f2 := blk_free hpx.blk 7
                  have hst := hp0.app HBW.out hpx (by decide) hrow hob
                  have hri8 := hkt.row HRI6.out HSI.out
                  have hrk := row_keepS hri8 ((Only.refl (fun z => z = p) w8).setCell ⟨p, 7, none⟩ vb (fun _ => rfl)) (fun b hb e => by
                    obtain ⟨cur, hc⟩ := row_block hri8 hb
                    exact pair_texts hpx.blk hc e)
                  have hsn : ∀ b, (Value.slice (some ⟨ga, 0, none⟩) N ca).ownBlock = some b → (put rvi 5 vb 5).ownBlock ≠ some b := by
                    intro b hb e
                    rw [put_at] at e
                    rcases hob b e with h1 | h1
                    · exact HSI.out b hb h1
                    · have := (HRI6.out.lt b hb).2
                      have := HBW.out
                      omega
                  rw [← HNXQ.out] at hst
                  clear hrow hob hpx hp0 HBW hri8 hkt
                  obtain ⟨nb, hnb⟩ : ∃ n, n = (Sq.L 5 ++ M).length := ⟨_, rfl⟩
                  rw [← hnb] at eb
                  clear hnb
                  subst eb
                  simp only [Nat.reduceAdd] at hst
                  have HST := Lib.hid hst
                  have HRK := Lib.hid hrk
                  have HSN := Lib.hid hsn
                  clear hst hrk hsn
                  go_wp2_with fail
                  generalize w8.setCell ⟨p, 7, none⟩ (.slice ab nb cb) = W9 at HST HRK ⊢
                  clear x2 f2
                  go_roundw
                  case rel => exact ⟨i + 1, _, by go_num, by omega, HST.out, HRK.out, HSN.out⟩
                  case measure => simp [intOf]; omega
                · have hiN2 : i = (S4.L 1).length := by rw [← HN.out]; omega
                  have HPF : Hid (PAt W wr 6 p g mo me rvi (S4.recv 1)) := Lib.hid (by rw [← PS.part_all, ← hiN2]; exact hPi)
                  clear hPi hri hsi hiN2
                  have hfin : S.round = (S3.recv 0).recv 1 := by rw [HS3.out, HS1.out]; rfl
                  have HP5 : Hid (PAt W wr 6 p g mo me rvi S.round) := Lib.hid (by rw [hfin, ← HS4.out]; exact HPF.out)
                  clear hfin HPF HN HST0 HOLD HSEP
                  generalize wr = w5 at HP5 ⊢
                  go_wp2_with fail
                  rw [rounds_succ]
                  go_wp2_with fail
                  go_roundw
                  case rel => exact ⟨k + 1, rvi, S.round, by go_num, by omega, HP5.out, HRN.out⟩
                  case measure => simp [intOf]; omega
      · have hk4 : k = 40 := by omega
        subst hk4
        obtain ⟨ol0, oa0, ot0, ol1, oa1, ot1, et4, et5⟩ := HR.out.over
        have hRO := HR.out.right
        have hLE : ∀ i, i < 6 → (S.L i).length ≤ 1000000 := fun i hi => by have := HR.out.len i hi; omega
        obtain ⟨a2, c2, hr2, _, _⟩ := row_texts (HP.out.rows 2 (by decide) (by decide))
        obtain ⟨a3, c3, hr3, _, _⟩ := row_texts (HP.out.rows 3 (by decide) (by decide))
        obtain ⟨a4, c4, hr4, _, _⟩ := row_texts (HP.out.rows 4 (by decide) (by decide))
        obtain ⟨a5, c5, hr5, _, _⟩ := row_texts (HP.out.rows 5 (by decide) (by decide))
        rw [et4] at hr4
        rw [et5] at hr5
        replace oa0 := oa0.trans ol0
        replace oa1 := oa1.trans ol1
        have HRO := Lib.hid hRO
        have HLE := Lib.hid hLE
        generalize hN2 : (S.L 2).length = N2 at ol0 ol1 ot0 ot1 oa0 oa1 hr2 hr5
        generalize hN3 : (S.L 3).length = N3 at ol0 ol1 ot0 ot1 oa0 oa1 hr3 hr4
        have HR2 := Lib.hid hr2
        have HR3 := Lib.hid hr3
        have HR4 := Lib.hid hr4
        have HR5 := Lib.hid hr5
        have z0 := HP.out.cEnd (k := 0) (by decide)
        have z1 := HP.out.cEnd (k := 1) (by decide)
        have z2 := HP.out.cRow (i := 2) (by decide)
        have z3 := HP.out.cRow (i := 3) (by decide)
        rw [hr2] at z2
        rw [hr3] at z3
        simp only [Nat.reduceAdd] at z2 z3
        have HO := Lib.hid (And.intro ol0 (And.intro oa0 (And.intro ot0 (And.intro ol1 (And.intro oa1 ot1)))))
        clear hr2 hr3 hr4 hr5 hN2 hN3 et4 et5 hRO hLE ol0 oa0 ot0 ol1 oa1 ot1 hk hk40
        go_wp2_with fail
        refine wp_loop_rounds 3 ?_
        rw [rounds_succ]
        go_wp2_with fail
        refine (numbers_any wr (g 0) (mo 0) (me 0) (S.s 0) (HP.out.e 0 (by decide))).mono ?_
        rintro e w4 ⟨rfl, hk4⟩
        rw [HO.out.1, HO.out.2.1, HO.out.2.2.1]
        have HP4 := Lib.hid (HP.out.keep hk4)
        have y1 := cell_only hk4 (fun h => h) z1
        have y2 := cell_only hk4 (fun h => h) z2
        have y3 := cell_only hk4 (fun h => h) z3
        clear z0 z1 z2 z3 hk4
        go_wp2_with fail
        rw [rounds_succ]
        go_wp2_with fail
        refine (numbers_any w4 (g 1) (mo 1) (me 1) (S.s 1) (HP4.out.e 1 (by decide))).mono ?_
        rintro e w5 ⟨rfl, hk5⟩
        rw [HO.out.2.2.2.1, HO.out.2.2.2.2.1, HO.out.2.2.2.2.2]
        have HP5 := Lib.hid (HP4.out.keep hk5)
        have x2 := cell_only hk5 (fun h => h) y2
        have x3 := cell_only hk5 (fun h => h) y3
        clear y1 y2 y3 hk5
        go_wp2_with fail
        rw [rounds_succ]
        have HT37 := Lib.hid (HP5.out.keep (Only.refl (fun _ => False) w5).drew)
        clear x2 x3
        go_upto_region 37 with fail
        refine wp_region_facts_tail 32 bfDs bfNeed bfGs (fun w' => PAt W w' 6 p g mo me rv S ∧ True) (Only (fun _ => False)) (bfG W p g mo me rv S a2 a3 a4 a5 c2 c3 c4 c5 N2 N3) rfl rfl (by kernel_rfl) (by kernel_rfl) (by kernel_rfl) (by kernel_rfl) (by kernel_rfl) ⟨HT37.out, trivial⟩ bfG.keep bfG.guard ?_ ?_
        · refine And.intro ?op0 (And.intro ?op1 (And.intro ?op2 (And.intro ?op3 (And.intro ?op4 (And.intro ?op5 (And.intro ?op6 (And.intro ?op7 (And.intro ?op8 (And.intro ?op9 (And.intro ?op10 (And.intro ?op11 (And.intro ?op12 (And.intro ?op13 (And.intro ?op14 (And.intro ?op15 (And.intro ?op16 (And.intro ?op17 (And.intro ?op18 (And.intro ?op19 (And.intro ?op20 (And.intro ?op21 (And.intro ?op22 (And.intro ?op23 (And.intro ?op24 (And.intro ?op25 (And.intro ?op26 (And.intro ?op27 (And.intro ?op28 (And.intro ?op29 (And.intro ?op30 (And.intro ?op31 trivial)))))))))))))))))))))))))))))))
          case op0 =>
            intro ev w1 hT1 hc hf hfr hG
            rw [if_pos (by decide)]
            obtain ⟨hT, _⟩ := hT1
            have h5 : ev (.tmp 5) = .pointer (some ⟨p, 0, none⟩) := hfr 5 (by decide)
            clear hG hfr
            refine OpSays.value (v := .pointer (some ⟨p, 0, none⟩)) (w' := w1) ?_ ⟨⟨hT, trivial⟩, Only.refl _ _, rfl⟩
            go_simp
          case op1 =>
            intro ev w1 hT1 hc hf hfr hG
            rw [if_pos (by decide)]
            obtain ⟨hT, _⟩ := hT1
            have hg : (ev (.tmp 184) = .pointer (some ⟨p, 0, none⟩)) ∧ True := hG
            obtain ⟨g0, _⟩ := hg
            clear hG hfr
            refine OpSays.enter (f := 27) (args := #[.pointer (some ⟨p, 0, none⟩)]) (w' := w1) ?_ ?_
            · go_simp
            · refine (right_true W w1 p g mo me rv S hT HRO.out HLE.out).mono ?_
              rintro e' w2 ⟨rfl, hk⟩
              exact ⟨_, rfl, ⟨hT.keep hk, trivial⟩, hk, rfl⟩
          case op2 =>
            intro ev w1 hT1 hc hf hfr hG
            rw [if_pos (by decide)]
            obtain ⟨hT, _⟩ := hT1
            have hg : (ev (.tmp 185) = .bool true) ∧ True := hG
            obtain ⟨g1, _⟩ := hg
            clear hG hfr
            refine OpSays.value (v := .bool true) (w' := w1) ?_ ⟨⟨hT, trivial⟩, Only.refl _ _, rfl⟩
            go_simp
          case op3 =>
            intro ev w1 hT1 hc hf hfr hG
            rw [if_pos (by decide)]
            obtain ⟨hT, _⟩ := hT1
            have h5 : ev (.tmp 5) = .pointer (some ⟨p, 0, none⟩) := hfr 5 (by decide)
            clear hG hfr
            refine OpSays.value (v := .pointer (some ⟨p, 0, none⟩)) (w' := w1) ?_ ⟨⟨hT, trivial⟩, Only.refl _ _, rfl⟩
            go_simp
          case op4 =>
            intro ev w1 hT1 hc hf hfr hG
            rw [if_pos (by decide)]
            obtain ⟨hT, _⟩ := hT1
            have hg : (ev (.tmp 187) = .pointer (some ⟨p, 0, none⟩)) ∧ True := hG
            obtain ⟨g3, _⟩ := hg
            clear hG hfr
            refine OpSays.value (v := .pointer (some ⟨p, 0, none⟩)) (w' := w1) ?_ ⟨⟨hT, trivial⟩, Only.refl _ _, rfl⟩
            go_simp
          case op5 =>
            intro ev w1 hT1 hc hf hfr hG
            rw [if_pos (by decide)]
            obtain ⟨hT, _⟩ := hT1
            have hg : (ev (.tmp 188) = .pointer (some ⟨p, 0, none⟩)) ∧ True := hG
            obtain ⟨g4, _⟩ := hg
            clear hG hfr
            refine OpSays.value (v := .pointer (some ⟨p, 6, none⟩)) (w' := w1) ?_ ⟨⟨hT, trivial⟩, Only.refl _ _, rfl⟩
            go_simp
          case op6 =>
            intro ev w1 hT1 hc hf hfr hG
            rw [if_pos (by decide)]
            obtain ⟨hT, _⟩ := hT1
            have hg : (ev (.tmp 189) = .pointer (some ⟨p, 6, none⟩)) ∧ True := hG
            obtain ⟨g5, _⟩ := hg
            clear hG hfr
            refine OpSays.value (v := .pointer (some ⟨p, 6, none⟩)) (w' := w1) ?_ ⟨⟨hT, trivial⟩, Only.refl _ _, rfl⟩
            go_simp
          case op7 =>
            intro ev w1 hT1 hc hf hfr hG
            rw [if_pos (by decide)]
            obtain ⟨hT, _⟩ := hT1
            have hg : (ev (.tmp 190) = .pointer (some ⟨p, 6, none⟩)) ∧ True := hG
            obtain ⟨g6, _⟩ := hg
            clear hG hfr
            have c : w1.cell? ⟨p, 6, none⟩ = some (.slice a4 N3 c4) := by rw [← HR4.out]; exact hT.cRow (i := 4) (by decide)
            refine OpSays.value (v := .slice a4 N3 c4) (w' := w1) ?_ ⟨⟨hT, trivial⟩, Only.refl _ _, rfl⟩
            go_simp
          case op8 =>
            intro ev w1 hT1 hc hf hfr hG
            rw [if_pos (by decide)]
            obtain ⟨hT, _⟩ := hT1
            have hg : (ev (.tmp 191) = .slice a4 N3 c4) ∧ True := hG
            obtain ⟨g7, _⟩ := hg
            clear hG hfr
            refine OpSays.value (v := .int .i64 (N3 : Int)) (w' := w1) ?_ ⟨⟨hT, trivial⟩, Only.refl _ _, rfl⟩
            go_simp
          case op9 =>
            intro ev w1 hT1 hc hf hfr hG
            rw [if_pos (by decide)]
            obtain ⟨hT, _⟩ := hT1
            have h5 : ev (.tmp 5) = .pointer (some ⟨p, 0, none⟩) := hfr 5 (by decide)
            clear hG hfr
            refine OpSays.value (v := .pointer (some ⟨p, 0, none⟩)) (w' := w1) ?_ ⟨⟨hT, trivial⟩, Only.refl _ _, rfl⟩
            go_simp
          case op10 =>
            intro ev w1 hT1 hc hf hfr hG
            rw [if_pos (by decide)]
            obtain ⟨hT, _⟩ := hT1
            have hg : (ev (.tmp 193) = .pointer (some ⟨p, 0, none⟩)) ∧ True := hG
            obtain ⟨g9, _⟩ := hg
            clear hG hfr
            refine OpSays.value (v := .pointer (some ⟨p, 0, none⟩)) (w' := w1) ?_ ⟨⟨hT, trivial⟩, Only.refl _ _, rfl⟩
            go_simp
          case op11 =>
            intro ev w1 hT1 hc hf hfr hG
            rw [if_pos (by decide)]
            obtain ⟨hT, _⟩ := hT1
            have hg : (ev (.tmp 194) = .pointer (some ⟨p, 0, none⟩)) ∧ True := hG
            obtain ⟨g10, _⟩ := hg
            clear hG hfr
            refine OpSays.value (v := .pointer (some ⟨p, 4, none⟩)) (w' := w1) ?_ ⟨⟨hT, trivial⟩, Only.refl _ _, rfl⟩
            go_simp
          case op12 =>
            intro ev w1 hT1 hc hf hfr hG
            rw [if_pos (by decide)]
            obtain ⟨hT, _⟩ := hT1
            have hg : (ev (.tmp 195) = .pointer (some ⟨p, 4, none⟩)) ∧ True := hG
            obtain ⟨g11, _⟩ := hg
            clear hG hfr
            refine OpSays.value (v := .pointer (some ⟨p, 5, none⟩)) (w' := w1) ?_ ⟨⟨hT, trivial⟩, Only.refl _ _, rfl⟩
            go_simp
          case op13 =>
            intro ev w1 hT1 hc hf hfr hG
            rw [if_pos (by decide)]
            obtain ⟨hT, _⟩ := hT1
            have hg : (ev (.tmp 196) = .pointer (some ⟨p, 5, none⟩)) ∧ True := hG
            obtain ⟨g12, _⟩ := hg
            clear hG hfr
            have c : w1.cell? ⟨p, 5, none⟩ = some (.slice a3 N3 c3) := by rw [← HR3.out]; exact hT.cRow (i := 3) (by decide)
            refine OpSays.value (v := .slice a3 N3 c3) (w' := w1) ?_ ⟨⟨hT, trivial⟩, Only.refl _ _, rfl⟩
            go_simp
          case op14 =>
            intro ev w1 hT1 hc hf hfr hG
            rw [if_pos (by decide)]
            obtain ⟨hT, _⟩ := hT1
            have hg : (ev (.tmp 197) = .slice a3 N3 c3) ∧ True := hG
            obtain ⟨g13, _⟩ := hg
            clear hG hfr
            refine OpSays.value (v := .int .i64 (N3 : Int)) (w' := w1) ?_ ⟨⟨hT, trivial⟩, Only.refl _ _, rfl⟩
            go_simp
          case op15 =>
            intro ev w1 hT1 hc hf hfr hG
            rw [if_pos (by decide)]
            obtain ⟨hT, _⟩ := hT1
            have hg : (ev (.tmp 192) = .int .i64 (N3 : Int)) ∧ (ev (.tmp 198) = .int .i64 (N3 : Int)) ∧ True := hG
            obtain ⟨g8, g14, _⟩ := hg
            clear hG hfr
            refine OpSays.value (v := .bool true) (w' := w1) ?_ ⟨⟨hT, trivial⟩, Only.refl _ _, rfl⟩
            go_simp
          case op16 =>
            intro ev w1 hT1 hc hf hfr hG
            rw [if_pos (by decide)]
            obtain ⟨hT, _⟩ := hT1
            have hg : (ev (.tmp 186) = .bool true) ∧ (ev (.tmp 199) = .bool true) ∧ True := hG
            obtain ⟨g2, g15, _⟩ := hg
            clear hG hfr
            refine OpSays.value (v := .bool true) (w' := w1) ?_ ⟨⟨hT, trivial⟩, Only.refl _ _, rfl⟩
            go_simp
          case op17 =>
            intro ev w1 hT1 hc hf hfr hG
            rw [if_pos (by decide)]
            obtain ⟨hT, _⟩ := hT1
            have hg : (ev (.tmp 200) = .bool true) ∧ True := hG
            obtain ⟨g16, _⟩ := hg
            clear hG hfr
            refine OpSays.value (v := .bool true) (w' := w1) ?_ ⟨⟨hT, trivial⟩, Only.refl _ _, rfl⟩
            go_simp
          case op18 =>
            intro ev w1 hT1 hc hf hfr hG
            rw [if_pos (by decide)]
            obtain ⟨hT, _⟩ := hT1
            have h5 : ev (.tmp 5) = .pointer (some ⟨p, 0, none⟩) := hfr 5 (by decide)
            clear hG hfr
            refine OpSays.value (v := .pointer (some ⟨p, 0, none⟩)) (w' := w1) ?_ ⟨⟨hT, trivial⟩, Only.refl _ _, rfl⟩
            go_simp
          case op19 =>
            intro ev w1 hT1 hc hf hfr hG
            rw [if_pos (by decide)]
            obtain ⟨hT, _⟩ := hT1
            have hg : (ev (.tmp 202) = .pointer (some ⟨p, 0, none⟩)) ∧ True := hG
            obtain ⟨g18, _⟩ := hg
            clear hG hfr
            refine OpSays.value (v := .pointer (some ⟨p, 0, none⟩)) (w' := w1) ?_ ⟨⟨hT, trivial⟩, Only.refl _ _, rfl⟩
            go_simp
          case op20 =>
            intro ev w1 hT1 hc hf hfr hG
            rw [if_pos (by decide)]
            obtain ⟨hT, _⟩ := hT1
            have hg : (ev (.tmp 203) = .pointer (some ⟨p, 0, none⟩)) ∧ True := hG
            obtain ⟨g19, _⟩ := hg
            clear hG hfr
            refine OpSays.value (v := .pointer (some ⟨p, 6, none⟩)) (w' := w1) ?_ ⟨⟨hT, trivial⟩, Only.refl _ _, rfl⟩
            go_simp
          case op21 =>
            intro ev w1 hT1 hc hf hfr hG
            rw [if_pos (by decide)]
            obtain ⟨hT, _⟩ := hT1
            have hg : (ev (.tmp 204) = .pointer (some ⟨p, 6, none⟩)) ∧ True := hG
            obtain ⟨g20, _⟩ := hg
            clear hG hfr
            refine OpSays.value (v := .pointer (some ⟨p, 7, none⟩)) (w' := w1) ?_ ⟨⟨hT, trivial⟩, Only.refl _ _, rfl⟩
            go_simp
          case op22 =>
            intro ev w1 hT1 hc hf hfr hG
            rw [if_pos (by decide)]
            obtain ⟨hT, _⟩ := hT1
            have hg : (ev (.tmp 205) = .pointer (some ⟨p, 7, none⟩)) ∧ True := hG
            obtain ⟨g21, _⟩ := hg
            clear hG hfr
            have c : w1.cell? ⟨p, 7, none⟩ = some (.slice a5 N2 c5) := by rw [← HR5.out]; exact hT.cRow (i := 5) (by decide)
            refine OpSays.value (v := .slice a5 N2 c5) (w' := w1) ?_ ⟨⟨hT, trivial⟩, Only.refl _ _, rfl⟩
            go_simp
          case op23 =>
            intro ev w1 hT1 hc hf hfr hG
            rw [if_pos (by decide)]
            obtain ⟨hT, _⟩ := hT1
            have hg : (ev (.tmp 206) = .slice a5 N2 c5) ∧ True := hG
            obtain ⟨g22, _⟩ := hg
            clear hG hfr
            refine OpSays.value (v := .int .i64 (N2 : Int)) (w' := w1) ?_ ⟨⟨hT, trivial⟩, Only.refl _ _, rfl⟩
            go_simp
          case op24 =>
            intro ev w1 hT1 hc hf hfr hG
            rw [if_pos (by decide)]
            obtain ⟨hT, _⟩ := hT1
            have h5 : ev (.tmp 5) = .pointer (some ⟨p, 0, none⟩) := hfr 5 (by decide)
            clear hG hfr
            refine OpSays.value (v := .pointer (some ⟨p, 0, none⟩)) (w' := w1) ?_ ⟨⟨hT, trivial⟩, Only.refl _ _, rfl⟩
            go_simp
          case op25 =>
            intro ev w1 hT1 hc hf hfr hG
            rw [if_pos (by decide)]
            obtain ⟨hT, _⟩ := hT1
            have hg : (ev (.tmp 208) = .pointer (some ⟨p, 0, none⟩)) ∧ True := hG
            obtain ⟨g24, _⟩ := hg
            clear hG hfr
            refine OpSays.value (v := .pointer (some ⟨p, 0, none⟩)) (w' := w1) ?_ ⟨⟨hT, trivial⟩, Only.refl _ _, rfl⟩
            go_simp
          case op26 =>
            intro ev w1 hT1 hc hf hfr hG
            rw [if_pos (by decide)]
            obtain ⟨hT, _⟩ := hT1
            have hg : (ev (.tmp 209) = .pointer (some ⟨p, 0, none⟩)) ∧ True := hG
            obtain ⟨g25, _⟩ := hg
            clear hG hfr
            refine OpSays.value (v := .pointer (some ⟨p, 4, none⟩)) (w' := w1) ?_ ⟨⟨hT, trivial⟩, Only.refl _ _, rfl⟩
            go_simp
          case op27 =>
            intro ev w1 hT1 hc hf hfr hG
            rw [if_pos (by decide)]
            obtain ⟨hT, _⟩ := hT1
            have hg : (ev (.tmp 210) = .pointer (some ⟨p, 4, none⟩)) ∧ True := hG
            obtain ⟨g26, _⟩ := hg
            clear hG hfr
            refine OpSays.value (v := .pointer (some ⟨p, 4, none⟩)) (w' := w1) ?_ ⟨⟨hT, trivial⟩, Only.refl _ _, rfl⟩
            go_simp
          case op28 =>
            intro ev w1 hT1 hc hf hfr hG
            rw [if_pos (by decide)]
            obtain ⟨hT, _⟩ := hT1
            have hg : (ev (.tmp 211) = .pointer (some ⟨p, 4, none⟩)) ∧ True := hG
            obtain ⟨g27, _⟩ := hg
            clear hG hfr
            have c : w1.cell? ⟨p, 4, none⟩ = some (.slice a2 N2 c2) := by rw [← HR2.out]; exact hT.cRow (i := 2) (by decide)
            refine OpSays.value (v := .slice a2 N2 c2) (w' := w1) ?_ ⟨⟨hT, trivial⟩, Only.refl _ _, rfl⟩
            go_simp
          case op29 =>
            intro ev w1 hT1 hc hf hfr hG
            rw [if_pos (by decide)]
            obtain ⟨hT, _⟩ := hT1
            have hg : (ev (.tmp 212) = .slice a2 N2 c2) ∧ True := hG
            obtain ⟨g28, _⟩ := hg
            clear hG hfr
            refine OpSays.value (v := .int .i64 (N2 : Int)) (w' := w1) ?_ ⟨⟨hT, trivial⟩, Only.refl _ _, rfl⟩
            go_simp
          case op30 =>
            intro ev w1 hT1 hc hf hfr hG
            rw [if_pos (by decide)]
            obtain ⟨hT, _⟩ := hT1
            have hg : (ev (.tmp 207) = .int .i64 (N2 : Int)) ∧ (ev (.tmp 213) = .int .i64 (N2 : Int)) ∧ True := hG
            obtain ⟨g23, g29, _⟩ := hg
            clear hG hfr
            refine OpSays.value (v := .bool true) (w' := w1) ?_ ⟨⟨hT, trivial⟩, Only.refl _ _, rfl⟩
            go_simp
          case op31 =>
            intro ev w1 hT1 hc hf hfr hG
            rw [if_pos (by decide)]
            obtain ⟨hT, _⟩ := hT1
            have hg : (ev (.tmp 201) = .bool true) ∧ (ev (.tmp 214) = .bool true) ∧ True := hG
            obtain ⟨g17, g30, _⟩ := hg
            clear hG hfr
            refine OpSays.value (v := .bool true) (w' := w1) ?_ ⟨⟨hT, trivial⟩, Only.refl _ _, rfl⟩
            go_simp
        rintro ⟨tm, df⟩ w9 ⟨hT9, _⟩ hsz hdf hfr hG
        have k215 : tm.getD 215 undef = .bool true := AllG.get hG 31 (by decide)
        have he : tm = #[tm.getD 0 undef, tm.getD 1 undef, tm.getD 2 undef, tm.getD 3 undef, tm.getD 4 undef, tm.getD 5 undef, tm.getD 6 undef, tm.getD 7 undef, tm.getD 8 undef, tm.getD 9 undef, tm.getD 10 undef, tm.getD 11 undef, tm.getD 12 undef, tm.getD 13 undef, tm.getD 14 undef, tm.getD 15 undef, tm.getD 16 undef, tm.getD 17 undef, tm.getD 18 undef, tm.getD 19 undef, tm.getD 20 undef, tm.getD 21 undef, tm.getD 22 undef, tm.getD 23 undef, tm.getD 24 undef, tm.getD 25 undef, tm.getD 26 undef, tm.getD 27 undef, tm.getD 28 undef, tm.getD 29 undef, tm.getD 30 undef, tm.getD 31 undef, tm.getD 32 undef, tm.getD 33 undef, tm.getD 34 undef, tm.getD 35 undef, tm.getD 36 undef, tm.getD 37 undef, tm.getD 38 undef, tm.getD 39 undef, tm.getD 40 undef, tm.getD 41 undef, tm.getD 42 undef, tm.getD 43 undef, tm.getD 44 undef, tm.getD 45 undef, tm.getD 46 undef, tm.getD 47 undef, tm.getD 48 undef, tm.getD 49 undef, tm.getD 50 undef, tm.getD 51 undef, tm.getD 52 undef, tm.getD 53 undef, tm.getD 54 undef, tm.getD 55 undef, tm.getD 56 undef, tm.getD 57 undef, tm.getD 58 undef, tm.getD 59 undef, tm.getD 60 undef, tm.getD 61 undef, tm.getD 62 undef, tm.getD 63 undef, tm.getD 64 undef, tm.getD 65 undef, tm.getD 66 undef, tm.getD 67 undef, tm.getD 68 undef, tm.getD 69 undef, tm.getD 70 undef, tm.getD 71 undef, tm.getD 72 undef, tm.getD 73 undef, tm.getD 74 undef, tm.getD 75 undef, tm.getD 76 undef, tm.getD 77 undef, tm.getD 78 undef, tm.getD 79 undef, tm.getD 80 undef, tm.getD 81 undef, tm.getD 82 undef, tm.getD 83 undef, tm.getD 84 undef, tm.getD 85 undef, tm.getD 86 undef, tm.getD 87 undef, tm.getD 88 undef, tm.getD 89 undef, tm.getD 90 undef, tm.getD 91 undef, tm.getD 92 undef, tm.getD 93 undef, tm.getD 94 undef, tm.getD 95 undef, tm.getD 96 undef, tm.getD 97 undef, tm.getD 98 undef, tm.getD 99 undef, tm.getD 100 undef, tm.getD 101 undef, tm.getD 102 undef, tm.getD 103 undef, tm.getD 104 undef, tm.getD 105 undef, tm.getD 106 undef, tm.getD 107 undef, tm.getD 108 undef, tm.getD 109 undef, tm.getD 110 undef, tm.getD 111 undef, tm.getD 112 undef, tm.getD 113 undef, tm.getD 114 undef, tm.getD 115 undef, tm.getD 116 undef, tm.getD 117 undef, tm.getD 118 undef, tm.getD 119 undef, tm.getD 120 undef, tm.getD 121 undef, tm.getD 122 undef, tm.getD 123 undef, tm.getD 124 undef, tm.getD 125 undef, tm.getD 126 undef, tm.getD 127 undef, tm.getD 128 undef, tm.getD 129 undef, tm.getD 130 undef, tm.getD 131 undef, tm.getD 132 undef, tm.getD 133 undef, tm.getD 134 undef, tm.getD 135 undef, tm.getD 136 undef, tm.getD 137 undef, tm.getD 138 undef, tm.getD 139 undef, tm.getD 140 undef, tm.getD 141 undef, tm.getD 142 undef, tm.getD 143 undef, tm.getD 144 undef, tm.getD 145 undef, tm.getD 146 undef, tm.getD 147 undef, tm.getD 148 undef, tm.getD 149 undef, tm.getD 150 undef, tm.getD 151 undef, tm.getD 152 undef, tm.getD 153 undef, tm.getD 154 undef, tm.getD 155 undef, tm.getD 156 undef, tm.getD 157 undef, tm.getD 158 undef, tm.getD 159 undef, tm.getD 160 undef, tm.getD 161 undef, tm.getD 162 undef, tm.getD 163 undef, tm.getD 164 undef, tm.getD 165 undef, tm.getD 166 undef, tm.getD 167 undef, tm.getD 168 undef, tm.getD 169 undef, tm.getD 170 undef, tm.getD 171 undef, tm.getD 172 undef, tm.getD 173 undef, tm.getD 174 undef, tm.getD 175 undef, tm.getD 176 undef, tm.getD 177 undef, tm.getD 178 undef, tm.getD 179 undef, tm.getD 180 undef, tm.getD 181 undef, tm.getD 182 undef, tm.getD 183 undef, tm.getD 184 undef, tm.getD 185 undef, tm.getD 186 undef, tm.getD 187 undef, tm.getD 188 undef, tm.getD 189 undef, tm.getD 190 undef, tm.getD 191 undef, tm.getD 192 undef, tm.getD 193 undef, tm.getD 194 undef, tm.getD 195 undef, tm.getD 196 undef, tm.getD 197 undef, tm.getD 198 undef, tm.getD 199 undef, tm.getD 200 undef, tm.getD 201 undef, tm.getD 202 undef, tm.getD 203 undef, tm.getD 204 undef, tm.getD 205 undef, tm.getD 206 undef, tm.getD 207 undef, tm.getD 208 undef, tm.getD 209 undef, tm.getD 210 undef, tm.getD 211 undef, tm.getD 212 undef, tm.getD 213 undef, tm.getD 214 undef, tm.getD 215 undef] := arr_eta (n := 216) hsz
        replace hdf : df = [] := hdf
        subst hdf
        clear hsz hfr hG
        rw [he, k215]
        clear he k215
        generalize tm.getD 0 undef = x0
        generalize tm.getD 1 undef = x1
        generalize tm.getD 2 undef = x2
        generalize tm.getD 3 undef = x3
        generalize tm.getD 4 undef = x4
        generalize tm.getD 5 undef = x5
        generalize tm.getD 6 undef = x6
        generalize tm.getD 7 undef = x7
        generalize tm.getD 8 undef = x8
        generalize tm.getD 9 undef = x9
        generalize tm.getD 10 undef = x10
        generalize tm.getD 11 undef = x11
        generalize tm.getD 12 undef = x12
        generalize tm.getD 13 undef = x13
        generalize tm.getD 14 undef = x14
        generalize tm.getD 15 undef = x15
        generalize tm.getD 16 undef = x16
        generalize tm.getD 17 undef = x17
        generalize tm.getD 18 undef = x18
        generalize tm.getD 19 undef = x19
        generalize tm.getD 20 undef = x20
        generalize tm.getD 21 undef = x21
        generalize tm.getD 22 undef = x22
        generalize tm.getD 23 undef = x23
        generalize tm.getD 24 undef = x24
        generalize tm.getD 25 undef = x25
        generalize tm.getD 26 undef = x26
        generalize tm.getD 27 undef = x27
        generalize tm.getD 28 undef = x28
        generalize tm.getD 29 undef = x29
        generalize tm.getD 30 undef = x30
        generalize tm.getD 31 undef = x31
        generalize tm.getD 32 undef = x32
        generalize tm.getD 33 undef = x33
        generalize tm.getD 34 undef = x34
        generalize tm.getD 35 undef = x35
        generalize tm.getD 36 undef = x36
        generalize tm.getD 37 undef = x37
        generalize tm.getD 38 undef = x38
        generalize tm.getD 39 undef = x39
        generalize tm.getD 40 undef = x40
        generalize tm.getD 41 undef = x41
        generalize tm.getD 42 undef = x42
        generalize tm.getD 43 undef = x43
        generalize tm.getD 44 undef = x44
        generalize tm.getD 45 undef = x45
        generalize tm.getD 46 undef = x46
        generalize tm.getD 47 undef = x47
        generalize tm.getD 48 undef = x48
        generalize tm.getD 49 undef = x49
        generalize tm.getD 50 undef = x50
        generalize tm.getD 51 undef = x51
        generalize tm.getD 52 undef = x52
        generalize tm.getD 53 undef = x53
        generalize tm.getD 54 undef = x54
        generalize tm.getD 55 undef = x55
        generalize tm.getD 56 undef = x56
        generalize tm.getD 57 undef = x57
        generalize tm.getD 58 undef = x58
        generalize tm.getD 59 undef = x59
        generalize tm.getD 60 undef = x60
        generalize tm.getD 61 undef = x61
        generalize tm.getD 62 undef = x62
        generalize tm.getD 63 undef = x63
        generalize tm.getD 64 undef = x64
        generalize tm.getD 65 undef = x65
        generalize tm.getD 66 undef = x66
        generalize tm.getD 67 undef = x67
        generalize tm.getD 68 undef = x68
        generalize tm.getD 69 undef = x69
        generalize tm.getD 70 undef = x70
        generalize tm.getD 71 undef = x71
        generalize tm.getD 72 undef = x72
        generalize tm.getD 73 undef = x73
        generalize tm.getD 74 undef = x74
        generalize tm.getD 75 undef = x75
        generalize tm.getD 76 undef = x76
        generalize tm.getD 77 undef = x77
        generalize tm.getD 78 undef = x78
        generalize tm.getD 79 undef = x79
        generalize tm.getD 80 undef = x80
        generalize tm.getD 81 undef = x81
        generalize tm.getD 82 undef = x82
        generalize tm.getD 83 undef = x83
        generalize tm.getD 84 undef = x84
        generalize tm.getD 85 undef = x85
        generalize tm.getD 86 undef = x86
        generalize tm.getD 87 undef = x87
        generalize tm.getD 88 undef = x88
        generalize tm.getD 89 undef = x89
        generalize tm.getD 90 undef = x90
        generalize tm.getD 91 undef = x91
        generalize tm.getD 92 undef = x92
        generalize tm.getD 93 undef = x93
        generalize tm.getD 94 undef = x94
        generalize tm.getD 95 undef = x95
        generalize tm.getD 96 undef = x96
        generalize tm.getD 97 undef = x97
        generalize tm.getD 98 undef = x98
        generalize tm.getD 99 undef = x99
        generalize tm.getD 100 undef = x100
        generalize tm.getD 101 undef = x101
        generalize tm.getD 102 undef = x102
        generalize tm.getD 103 undef = x103
        generalize tm.getD 104 undef = x104
        generalize tm.getD 105 undef = x105
        generalize tm.getD 106 undef = x106
        generalize tm.getD 107 undef = x107
        generalize tm.getD 108 undef = x108
        generalize tm.getD 109 undef = x109
        generalize tm.getD 110 undef = x110
        generalize tm.getD 111 undef = x111
        generalize tm.getD 112 undef = x112
        generalize tm.getD 113 undef = x113
        generalize tm.getD 114 undef = x114
        generalize tm.getD 115 undef = x115
        generalize tm.getD 116 undef = x116
        generalize tm.getD 117 undef = x117
        generalize tm.getD 118 undef = x118
        generalize tm.getD 119 undef = x119
        generalize tm.getD 120 undef = x120
        generalize tm.getD 121 undef = x121
        generalize tm.getD 122 undef = x122
        generalize tm.getD 123 undef = x123
        generalize tm.getD 124 undef = x124
        generalize tm.getD 125 undef = x125
        generalize tm.getD 126 undef = x126
        generalize tm.getD 127 undef = x127
        generalize tm.getD 128 undef = x128
        generalize tm.getD 129 undef = x129
        generalize tm.getD 130 undef = x130
        generalize tm.getD 131 undef = x131
        generalize tm.getD 132 undef = x132
        generalize tm.getD 133 undef = x133
        generalize tm.getD 134 undef = x134
        generalize tm.getD 135 undef = x135
        generalize tm.getD 136 undef = x136
        generalize tm.getD 137 undef = x137
        generalize tm.getD 138 undef = x138
        generalize tm.getD 139 undef = x139
        generalize tm.getD 140 undef = x140
        generalize tm.getD 141 undef = x141
        generalize tm.getD 142 undef = x142
        generalize tm.getD 143 undef = x143
        generalize tm.getD 144 undef = x144
        generalize tm.getD 145 undef = x145
        generalize tm.getD 146 undef = x146
        generalize tm.getD 147 undef = x147
        generalize tm.getD 148 undef = x148
        generalize tm.getD 149 undef = x149
        generalize tm.getD 150 undef = x150
        generalize tm.getD 151 undef = x151
        generalize tm.getD 152 undef = x152
        generalize tm.getD 153 undef = x153
        generalize tm.getD 154 undef = x154
        generalize tm.getD 155 undef = x155
        generalize tm.getD 156 undef = x156
        generalize tm.getD 157 undef = x157
        generalize tm.getD 158 undef = x158
        generalize tm.getD 159 undef = x159
        generalize tm.getD 160 undef = x160
        generalize tm.getD 161 undef = x161
        generalize tm.getD 162 undef = x162
        generalize tm.getD 163 undef = x163
        generalize tm.getD 164 undef = x164
        generalize tm.getD 165 undef = x165
        generalize tm.getD 166 undef = x166
        generalize tm.getD 167 undef = x167
        generalize tm.getD 168 undef = x168
        generalize tm.getD 169 undef = x169
        generalize tm.getD 170 undef = x170
        generalize tm.getD 171 undef = x171
        generalize tm.getD 172 undef = x172
        generalize tm.getD 173 undef = x173
        generalize tm.getD 174 undef = x174
        generalize tm.getD 175 undef = x175
        generalize tm.getD 176 undef = x176
        generalize tm.getD 177 undef = x177
        generalize tm.getD 178 undef = x178
        generalize tm.getD 179 undef = x179
        generalize tm.getD 180 undef = x180
        generalize tm.getD 181 undef = x181
        generalize tm.getD 182 undef = x182
        generalize tm.getD 183 undef = x183
        generalize tm.getD 184 undef = x184
        generalize tm.getD 185 undef = x185
        generalize tm.getD 186 undef = x186
        generalize tm.getD 187 undef = x187
        generalize tm.getD 188 undef = x188
        generalize tm.getD 189 undef = x189
        generalize tm.getD 190 undef = x190
        generalize tm.getD 191 undef = x191
        generalize tm.getD 192 undef = x192
        generalize tm.getD 193 undef = x193
        generalize tm.getD 194 undef = x194
        generalize tm.getD 195 undef = x195
        generalize tm.getD 196 undef = x196
        generalize tm.getD 197 undef = x197
        generalize tm.getD 198 undef = x198
        generalize tm.getD 199 undef = x199
        generalize tm.getD 200 undef = x200
        generalize tm.getD 201 undef = x201
        generalize tm.getD 202 undef = x202
        generalize tm.getD 203 undef = x203
        generalize tm.getD 204 undef = x204
        generalize tm.getD 205 undef = x205
        generalize tm.getD 206 undef = x206
        generalize tm.getD 207 undef = x207
        generalize tm.getD 208 undef = x208
        generalize tm.getD 209 undef = x209
        generalize tm.getD 210 undef = x210
        generalize tm.getD 211 undef = x211
        generalize tm.getD 212 undef = x212
        generalize tm.getD 213 undef = x213
        generalize tm.getD 214 undef = x214
        have HB := Lib.hid (hT9.only.below (Nat.le_refl _) (fun _ _ h => h))
        clear hT9 HT37
        simp only [List.drop_succ_cons, List.drop_zero]
        go_wp2_with fail
        go_ret
        exact ⟨rfl, HB.out⟩

end Go.Proofs.Yteifehienpeaiaa

/-
  The walk of the law BridgePlays.
  No conditions.
-/
import Derived.Test.YtkmnjlegmgohfaaBridgePairs
import Derived.Test.YtkmnjlegmgohfaaLaw10
import Derived.Test.YtkmnjlegmgohfaaPhased
import Derived.Test.YtkmnjlegmgohfaaAmong
import Derived.Test.YtkmnjlegmgohfaaOpen
set_option linter.unusedVariables false
set_option linter.unusedSimpArgs false
set_option maxRecDepth 100000
namespace Go.Proofs.Ytkmnjlegmgohfaa
open Go.RowKit

theorem plays10_cells {cs : List Value} (h : CellsAre [.i, .i, .i, .i, .i, .i, .s] cs) : ∃ x : Int × Int × Int × Int × Int × Int × ByteArray, cs = [.int .i64 x.1, .int .i64 x.2.1, .int .i64 x.2.2.1, .int .i64 x.2.2.2.1, .int .i64 x.2.2.2.2.1, .int .i64 x.2.2.2.2.2.1, .string x.2.2.2.2.2.2] ∧ (Lit.int .i64 x.1).wf = true := by
  obtain ⟨a1, _, rfl, w1, h1⟩ := h.i
  obtain ⟨a2, _, rfl, w2, h2⟩ := h1.i
  obtain ⟨a3, _, rfl, w3, h3⟩ := h2.i
  obtain ⟨a4, _, rfl, w4, h4⟩ := h3.i
  obtain ⟨a5, _, rfl, w5, h5⟩ := h4.i
  obtain ⟨a6, _, rfl, w6, h6⟩ := h5.i
  obtain ⟨d, _, rfl, hd, h7⟩ := h6.s
  rw [h7.nil]
  exact ⟨(a1, a2, a3, a4, a5, a6, d), rfl, w1⟩

theorem setup10_cells {cs : List Value} (h : CellsAre [.i, .i, .i] cs) : ∃ x y z, cs = [.int .i64 x, .int .i64 y, .int .i64 z] := by
  obtain ⟨x, _, rfl, hx, h1⟩ := h.i
  obtain ⟨y, _, rfl, hy, h2⟩ := h1.i
  obtain ⟨z, _, rfl, hz, h3⟩ := h2.i
  rw [h3.nil]
  exact ⟨x, y, z, rfl⟩

/-- The state in region 10: whether the one, and the other one, has gone down. -/
def bpPh (W : World) (c g r p : Nat) (s : BS) (pt nw tt : Int) (a b : Bool) (w : World) : Prop :=
  Only (fun _ => False) W w ∧ (w.cell? ⟨p, 1, none⟩ = some (.int .i64 pt) ∧ w.cell? ⟨p, 2, none⟩ = some (.int .i64 nw) ∧ w.cell? ⟨p, 3, none⟩ = some (.int .i64 tt)) ∧ match a, b with
    | false, _ => Pair w c g r s
    | true, false => Calls Try.prog 18 #[.pointer (some ⟨r, 0, none⟩), .int .i64 pt] w fun e w2 => ∃ s2, e = .returned (.int .i64 (dcode s pt)) ∧ Pair w2 c g r s2 ∧ Only (fun k => k = r) w w2
    | true, true => ∃ s2, Pair w c g r s2
def bpSt (c r i k : Nat) : Prop := (i = 3 ∧ k = c) ∨ (i = 7 ∧ k = r)

def bpG (W : World) (c g r p : Nat) (s : BS) (pt : Int) (L : Nat → Bool) : Nat → Value → World → Prop
  | 0, v, w' => v = .pointer (some ⟨g, 0, none⟩)
  | 1, v, w' => v = .pointer (some ⟨p, 1, none⟩)
  | 2, v, w' => v = .int .i64 pt
  | 3, v, w' => v = .int .i64 (dcode s pt)
  | 4, v, w' => v = .pointer (some ⟨r, 0, none⟩)
  | 5, v, w' => v = .pointer (some ⟨p, 1, none⟩)
  | 6, v, w' => v = .int .i64 pt
  | 7, v, w' => v = .int .i64 (dcode s pt)
  | 8, v, w' => v = .bool false
  | _, _, _ => True
def bpDs : List Nat := [78, 79, 80, 81, 82, 83, 84, 85, 86]
def bpNeed : List (List Nat) := [[], [], [1], [0, 2], [], [], [5], [4, 6], [3, 7]]
def bpGs : List (Option Bool) := []
def bpLate : List (List Nat) := [[3, 7], [3, 7], [3, 7], [7], [7], [7], [7], [], []]
def bpEarly : List (List Nat) := [[], [], [], [], [], [], [], [3], [3, 7]]
theorem bpG.keep {W : World} {c g r p : Nat} {s : BS} {pt : Int} : ∀ L i jx v w w', bpG W c g r p s pt L jx v w → Only (bpSt c r i) w w' → bpG W c g r p s pt (upd L i) jx v w' := by
  intro L i jx v w w' h hO
  match jx with
  | 0 => exact h
  | 1 => exact h
  | 2 => exact h
  | 3 => exact h
  | 4 => exact h
  | 5 => exact h
  | 6 => exact h
  | 7 => exact h
  | 8 => exact h
  | n + 9 => trivial
theorem bpG.guard {W : World} {c g r p : Nat} {s : BS} {pt : Int} : ∀ g' b', bpGs.getD g' none = some b' → ∀ L v w, bpG W c g r p s pt L g' v w → v = .bool b' := by
  intro g' b' hbb L v w hgg
  match g', hbb, hgg with
  | n' + 0, hbb, hgg => exact absurd hbb (by simp [bpGs])

set_option maxHeartbeats 16000000 in
theorem bridgePlays_walk (W : World) (cs : List Value) (hcs : CellsAre [.i, .i, .i] cs) (v : Value) (n : Nat) (f : Nat → List Value) (h : SlIs W [.i, .i, .i, .i, .i, .i, .s] v n f) :
    Calls Try.prog 5 #[.agg cs.toArray, v] W fun e W' => e = .returned (.bool true) ∧ Below W.heap.size W W' := by
  obtain ⟨po, ag, ro, rfl⟩ := setup10_cells hcs
  obtain ⟨⟨a, cap, rfl, hle, hat⟩, hcells, hsmall, _, _⟩ := h
  obtain ⟨pa, hpa⟩ := Deep.choose_lt (fun i hi => plays10_cells (hcells i hi))
  have HPA := Lib.hid hpa
  have HAT := Lib.hid hat
  clear hcells hpa hat hcs
  simp only [List.length_cons, List.length_nil, reachB] at hsmall
  have hk0 := (Only.refl (fun _ => False) W).alloc (.cells #[.int .i64 po, .int .i64 ag, .int .i64 ro] 48)
  have hbx := blk_new W (.cells #[.int .i64 po, .int .i64 ag, .int .i64 ro] 48)
  have z0 := blk_cell hbx 0
  have z1 := blk_cell hbx 1
  have z2 := blk_cell hbx 2
  simp only [List.getElem?_toArray, List.getElem?_cons_zero, List.getElem?_cons_succ] at z0 z1 z2
  clear hbx
  by_cases hgood : 1 ≤ po ∧ po ≤ 16 ∧ 1 ≤ ag ∧ ag ≤ 1048576 ∧ 1 ≤ ro ∧ ro ≤ 1024
  · obtain ⟨g1, g2, g3, g4, g5, g6⟩ := hgood
    go_enter Try.func5, Try.ntmps5
    go_wp2_with fail
    generalize W.alloc (.cells #[.int .i64 po, .int .i64 ag, .int .i64 ro] 48) = W0 at hk0 z0 z1 z2 ⊢
    refine (new_good po ag ro W0 g1 g2 g3 g4 g5 g6).mono ?_
    rintro e w1 ⟨rfl, hB, hk1⟩
    replace z0 := cell_only hk1 (fun h => h) z0
    replace z1 := cell_only hk1 (fun h => h) z1
    replace z2 := cell_only hk1 (fun h => h) z2
    have hW0 := hk0.size
    have hW1 := hk1.size
    have hcd : ∃ c, c = W0.heap.size := ⟨_, rfl⟩
    obtain ⟨c, hc⟩ := hcd
    have hgd : ∃ g, g = W0.heap.size + 1 := ⟨_, rfl⟩
    obtain ⟨g, hg⟩ := hgd
    have hcW : W.heap.size ≤ c := by omega
    have hgW : W.heap.size ≤ g := by omega
    rw [← hg, ← hc] at hB
    rw [← hg]
    clear hc hg
    go_wp2_with fail
    refine (bnew_r po ag ro w1 g1 g2 g3 g4 g5 g6).mono ?_
    rintro e w2 ⟨rfl, hR, hk2⟩
    have hrd : ∃ r, r = w1.heap.size := ⟨_, rfl⟩
    obtain ⟨r, hr⟩ := hrd
    have hrW : W.heap.size ≤ r := by omega
    rw [← hr] at hR ⊢
    have hPr : Pair w2 c g r ⟨po, ag, ro, 0, []⟩ := ⟨hB.only hk2, hR, ⟨g1, g2, g3, g4, g5, g6, by show (0 : Int) ≤ 0; omega, by show (0 : Int) ≤ 1099511627776; omega, fun p hp => by cases hp⟩, by simp, fun p hp => by cases hp⟩
    have hO2 : Only (fun _ => False) W w2 := (hk0.trans hk1).trans hk2
    generalize (⟨po, ag, ro, 0, []⟩ : BS) = s0 at hPr
    clear hr hB hR hk0 hk1 hk2 z0 z1 z2 g1 g2 g3 g4 g5 g6 hW0 hW1
    go_wp2_with fail
    refine (works_any _).mono ?_
    rintro e w3 ⟨rfl, hk3⟩
    replace hPr := hPr.keep hk3
    have hO3 := hO2.trans hk3
    clear hO2 hk3
    go_wp2_with fail
    go_loopw [9] (fun iv wr => ∃ (k : Nat) (s : BS), iv = .int .i64 k ∧ k ≤ n ∧ k ≤ 60 ∧ Pair wr c g r s ∧ Only (fun _ => False) W wr) (fun i _ => 60 - (intOf i).toNat)
    case atStart => exact ⟨0, s0, rfl, by omega, by omega, hPr, hO3⟩
    case round =>
      clear hPr hO3
      obtain ⟨k, s, rfl, hkn, hk60, hPr, hO⟩ := hrel
      by_cases hin : k < n ∧ k < 60
      · obtain ⟨hin, hi60⟩ := hin
        obtain ⟨b, off, rfl, hbW, hat⟩ := HAT.out (by omega)
        obtain ⟨he, wk⟩ := HPA.out k hin
        have y0 := hat k hin 0 (by decide)
        have y1 := hat k hin 1 (by decide)
        have y2 := hat k hin 2 (by decide)
        have y3 := hat k hin 3 (by decide)
        have y4 := hat k hin 4 (by decide)
        have y5 := hat k hin 5 (by decide)
        have y6 := hat k hin 6 (by decide)
        rw [he] at y0 y1 y2 y3 y4 y5 y6
        simp only [List.getElem?_cons_zero, List.getElem?_cons_succ, Nat.add_zero, List.length_cons, List.length_nil, Nat.zero_add, Nat.reduceAdd] at y0 y1 y2 y3 y4 y5 y6
        clear hat he
        generalize pa k = x at y0 y1 y2 y3 y4 y5 y6 wk
        obtain ⟨ki, pt, nw, tt, fr, ty, d⟩ := x
        simp only at y0 y1 y2 y3 y4 y5 y6 wk
        replace y0 := cell_only hO (fun h => h) y0
        replace y1 := cell_only hO (fun h => h) y1
        replace y2 := cell_only hO (fun h => h) y2
        replace y3 := cell_only hO (fun h => h) y3
        replace y4 := cell_only hO (fun h => h) y4
        replace y5 := cell_only hO (fun h => h) y5
        replace y6 := cell_only hO (fun h => h) y6
        have hka := (Only.refl (fun _ => False) wr).alloc (.cells #[.int .i64 ki, .int .i64 pt, .int .i64 nw, .int .i64 tt, .int .i64 fr, .int .i64 ty, .string d] 32)
        have hp := blk_new wr (.cells #[.int .i64 ki, .int .i64 pt, .int .i64 nw, .int .i64 tt, .int .i64 fr, .int .i64 ty, .string d] 32)
        have hpsz : wr.heap.size < (wr.alloc (.cells #[.int .i64 ki, .int .i64 pt, .int .i64 nw, .int .i64 tt, .int .i64 fr, .int .i64 ty, .string d] 32)).heap.size := heap_lt hp
        have hlt : c < wr.heap.size ∧ g < wr.heap.size ∧ r < wr.heap.size := ⟨hPr.1.2.1.lt, heap_lt hPr.1.1, hPr.2.1.lt⟩
        replace hPr := hPr.keep hka
        replace hO := hO.trans hka
        go_wp2_with fail
        generalize wr.alloc (.cells #[.int .i64 ki, .int .i64 pt, .int .i64 nw, .int .i64 tt, .int .i64 fr, .int .i64 ty, .string d] 32) = wa at hp hPr hO hpsz ⊢
        generalize wr.heap.size = p at hp hlt hpsz ⊢
        clear y0 y1 y2 y3 y4 y5 y6 hka
        refine (among_any ki 2 wa wk (by decide) (by decide)).mono ?_
        rintro e _ ⟨rfl, rfl⟩
        have hkd : ki % 2 = 1 ∨ ki % 2 = 0 := by omega
        have z1 := blk_cell hp 1
        have z2 := blk_cell hp 2
        have z3 := blk_cell hp 3
        have z4 := blk_cell hp 4
        have z5 := blk_cell hp 5
        have z6 := blk_cell hp 6
        simp only [List.getElem?_toArray, List.getElem?_cons_zero, List.getElem?_cons_succ] at z1 z2 z3 z4 z5 z6
        have hpc : ¬ p = c := by omega
        have hpg : ¬ p = g := by omega
        have hpr : ¬ p = r := by omega
        clear hp wk
        rcases hkd with hkd | hkd
        case' inl =>
          rw [hkd]
          clear hkd
          go_wp2_with fail
          have hO0 := hO
          have HT : Hid (bpPh W c g r p s pt nw tt false false wa.drew) := Lib.hid ⟨hO.drew, ⟨z1, z2, z3⟩, hPr.keep ((Only.refl (fun _ => False) wa).drew)⟩
          have HW := Lib.hid (show W.heap.size ≤ c ∧ W.heap.size ≤ g ∧ W.heap.size ≤ r ∧ ¬ p = c ∧ ¬ p = r from ⟨hcW, hgW, hrW, hpc, hpr⟩)
          clear hO hPr z1 z2 z3 z4 z5 z6
          refine wp_region_phased_tail 9 bpDs bpNeed bpGs bpLate bpEarly (fun L w' => bpPh W c g r p s pt nw tt (L 3) (L 7) w') (fun i w w' => Only (bpSt c r i) w w') (bpG W c g r p s pt) rfl rfl (by kernel_rfl) (by kernel_rfl) (by kernel_rfl) (by kernel_rfl) (by kernel_rfl) (by kernel_rfl) HT.out bpG.keep bpG.guard (fun _ _ => Only.refl _ _) ?_ ?_
          · refine And.intro ?op0 (And.intro ?op1 (And.intro ?op2 (And.intro ?op3 (And.intro ?op4 (And.intro ?op5 (And.intro ?op6 (And.intro ?op7 (And.intro ?op8 trivial))))))))
            case op0 =>
              intro L ev w1 hLi hlate hearly hT1 hc hf hfr hG
              rw [if_pos (by decide)]
              have hP : bpPh W c g r p s pt nw tt (L 3) (L 7) w1 := hT1
              obtain ⟨hl3, hl7, _⟩ := hlate
              rw [hl3] at hP
              rw [hl7] at hP
              have h5 : ev (.tmp 5) = .pointer (some ⟨g, 0, none⟩) := hfr 5 (by decide)
              clear hG hfr
              refine OpSays.value (v := .pointer (some ⟨g, 0, none⟩)) (w' := w1) ?_ ⟨hT1, Only.refl _ _, rfl⟩
              go_simp
            case op1 =>
              intro L ev w1 hLi hlate hearly hT1 hc hf hfr hG
              rw [if_pos (by decide)]
              have hP : bpPh W c g r p s pt nw tt (L 3) (L 7) w1 := hT1
              obtain ⟨hl3, hl7, _⟩ := hlate
              rw [hl3] at hP
              rw [hl7] at hP
              have h10 : ev (.tmp 10) = .pointer (some ⟨p, 0, none⟩) := hfr 10 (by decide)
              clear hG hfr
              refine OpSays.value (v := .pointer (some ⟨p, 1, none⟩)) (w' := w1) ?_ ⟨hT1, Only.refl _ _, rfl⟩
              go_simp
            case op2 =>
              intro L ev w1 hLi hlate hearly hT1 hc hf hfr hG
              rw [if_pos (by decide)]
              have hP : bpPh W c g r p s pt nw tt (L 3) (L 7) w1 := hT1
              obtain ⟨hl3, hl7, _⟩ := hlate
              rw [hl3] at hP
              rw [hl7] at hP
              have hg : (ev (.tmp 79) = .pointer (some ⟨p, 1, none⟩)) ∧ True := hG
              obtain ⟨g1, _⟩ := hg
              clear hG hfr
              have c1 := hP.2.1.1
              refine OpSays.value (v := .int .i64 pt) (w' := w1) ?_ ⟨hT1, Only.refl _ _, rfl⟩
              go_simp
            case op3 =>
              intro L ev w1 hLi hlate hearly hT1 hc hf hfr hG
              rw [if_pos (by decide)]
              have hP : bpPh W c g r p s pt nw tt (L 3) (L 7) w1 := hT1
              obtain ⟨hl7, _⟩ := hlate
              rw [hLi] at hP
              rw [hl7] at hP
              change OpSays _ _ _ _ (fun v w' => bpPh W c g r p s pt nw tt (true) (L 7) w' ∧ _ ∧ _)
              rw [hl7]
              have hg : (ev (.tmp 78) = .pointer (some ⟨g, 0, none⟩)) ∧ (ev (.tmp 80) = .int .i64 pt) ∧ True := hG
              obtain ⟨g0, g2, _⟩ := hg
              clear hG hfr
              obtain ⟨hO, ⟨e1, e2, e3⟩, hPr⟩ := hP
              refine OpSays.enter (f := 17) (args := #[.pointer (some ⟨g, 0, none⟩), .int .i64 pt]) (w' := w1) ?_ ?_
              · go_simp
              · refine (down_pair w1 c g r s pt hPr).mono ?_
                rintro e' w2 ⟨rfl, hk, hC⟩
                exact ⟨_, rfl, ⟨hO.then hk (fun k h1 h2 => by have := HW.out; omega), ⟨cell_only hk HW.out.2.2.2.1 e1, cell_only hk HW.out.2.2.2.1 e2, cell_only hk HW.out.2.2.2.1 e3⟩, hC⟩, hk.mono (fun k _ h => .inl ⟨rfl, h⟩), rfl⟩
            case op4 =>
              intro L ev w1 hLi hlate hearly hT1 hc hf hfr hG
              rw [if_pos (by decide)]
              have hP : bpPh W c g r p s pt nw tt (L 3) (L 7) w1 := hT1
              obtain ⟨hl7, _⟩ := hlate
              rw [hl7] at hP
              have h7 : ev (.tmp 7) = .pointer (some ⟨r, 0, none⟩) := hfr 7 (by decide)
              clear hG hfr
              refine OpSays.value (v := .pointer (some ⟨r, 0, none⟩)) (w' := w1) ?_ ⟨hT1, Only.refl _ _, rfl⟩
              go_simp
            case op5 =>
              intro L ev w1 hLi hlate hearly hT1 hc hf hfr hG
              rw [if_pos (by decide)]
              have hP : bpPh W c g r p s pt nw tt (L 3) (L 7) w1 := hT1
              obtain ⟨hl7, _⟩ := hlate
              rw [hl7] at hP
              have h10 : ev (.tmp 10) = .pointer (some ⟨p, 0, none⟩) := hfr 10 (by decide)
              clear hG hfr
              refine OpSays.value (v := .pointer (some ⟨p, 1, none⟩)) (w' := w1) ?_ ⟨hT1, Only.refl _ _, rfl⟩
              go_simp
            case op6 =>
              intro L ev w1 hLi hlate hearly hT1 hc hf hfr hG
              rw [if_pos (by decide)]
              have hP : bpPh W c g r p s pt nw tt (L 3) (L 7) w1 := hT1
              obtain ⟨hl7, _⟩ := hlate
              rw [hl7] at hP
              have hg : (ev (.tmp 83) = .pointer (some ⟨p, 1, none⟩)) ∧ True := hG
              obtain ⟨g5, _⟩ := hg
              clear hG hfr
              have c1 := hP.2.1.1
              refine OpSays.value (v := .int .i64 pt) (w' := w1) ?_ ⟨hT1, Only.refl _ _, rfl⟩
              go_simp
            case op7 =>
              intro L ev w1 hLi hlate hearly hT1 hc hf hfr hG
              rw [if_pos (by decide)]
              have hP : bpPh W c g r p s pt nw tt (L 3) (L 7) w1 := hT1
              obtain ⟨he3, _⟩ := hearly
              rw [he3] at hP
              rw [hLi] at hP
              change OpSays _ _ _ _ (fun v w' => bpPh W c g r p s pt nw tt (L 3) (true) w' ∧ _ ∧ _)
              rw [he3]
              have hg : (ev (.tmp 82) = .pointer (some ⟨r, 0, none⟩)) ∧ (ev (.tmp 84) = .int .i64 pt) ∧ True := hG
              obtain ⟨g4, g6, _⟩ := hg
              clear hG hfr
              obtain ⟨hO, ⟨e1, e2, e3⟩, hC⟩ := hP
              refine OpSays.enter (f := 18) (args := #[.pointer (some ⟨r, 0, none⟩), .int .i64 pt]) (w' := w1) ?_ ?_
              · go_simp
              · refine Calls.mono hC ?_
                rintro e' w2 ⟨s2, rfl, hPr, hk⟩
                exact ⟨_, rfl, ⟨hO.then hk (fun k h1 h2 => by have := HW.out; omega), ⟨cell_only hk HW.out.2.2.2.2 e1, cell_only hk HW.out.2.2.2.2 e2, cell_only hk HW.out.2.2.2.2 e3⟩, s2, hPr⟩, hk.mono (fun k _ h => .inr ⟨rfl, h⟩), rfl⟩
            case op8 =>
              intro L ev w1 hLi hlate hearly hT1 hc hf hfr hG
              rw [if_pos (by decide)]
              have hP : bpPh W c g r p s pt nw tt (L 3) (L 7) w1 := hT1
              obtain ⟨he3, he7, _⟩ := hearly
              rw [he3] at hP
              rw [he7] at hP
              have hg : (ev (.tmp 81) = .int .i64 (dcode s pt)) ∧ (ev (.tmp 85) = .int .i64 (dcode s pt)) ∧ True := hG
              obtain ⟨g3, g7, _⟩ := hg
              clear hG hfr
              refine OpSays.value (v := .bool false) (w' := w1) ?_ ⟨hT1, Only.refl _ _, rfl⟩
              go_simp
          rintro L ⟨tm, df⟩ we hL hT1 hsz hdf hfr hG
          have hPE : bpPh W c g r p s pt nw tt (true) (true) we := by
            have hP : bpPh W c g r p s pt nw tt (L 3) (L 7) we := hT1
            have hm := fun k (hk : k ∈ List.range 9) => AllB.get hL k hk
            rw [hm 3 (by decide)] at hP
            rw [hm 7 (by decide)] at hP
            exact hP
          clear hT1 hL
          have k0 : tm.getD 0 undef = Value.agg #[Value.int IntKind.i64 po, Value.int IntKind.i64 ag, Value.int IntKind.i64 ro] := hfr 0 (by decide)
          have k1 : tm.getD 1 undef = Value.slice (some { block := b, off := off }) n cap := hfr 1 (by decide)
          have k2 : tm.getD 2 undef = Value.pointer (some { block := W.heap.size, off := 0 }) := hfr 2 (by decide)
          have k3 : tm.getD 3 undef = undef := hfr 3 (by decide)
          have k5 : tm.getD 5 undef = Value.pointer (some { block := g, off := 0 }) := hfr 5 (by decide)
          have k6 : tm.getD 6 undef = Value.int IntKind.i64 0 := hfr 6 (by decide)
          have k7 : tm.getD 7 undef = Value.pointer (some { block := r, off := 0 }) := hfr 7 (by decide)
          have k8 : tm.getD 8 undef = Value.int IntKind.i64 0 := hfr 8 (by decide)
          have k20 : tm.getD 20 undef = Value.tuple #[Value.pointer (some { block := g, off := 0 }), Value.int IntKind.i64 0] := hfr 20 (by decide)
          have k21 : tm.getD 21 undef = Value.pointer (some { block := W.heap.size, off := 0 }) := hfr 21 (by decide)
          have k22 : tm.getD 22 undef = Value.int IntKind.i64 po := hfr 22 (by decide)
          have k23 : tm.getD 23 undef = Value.pointer (some { block := W.heap.size, off := 1 }) := hfr 23 (by decide)
          have k24 : tm.getD 24 undef = Value.int IntKind.i64 ag := hfr 24 (by decide)
          have k25 : tm.getD 25 undef = Value.pointer (some { block := W.heap.size, off := 2 }) := hfr 25 (by decide)
          have k26 : tm.getD 26 undef = Value.int IntKind.i64 ro := hfr 26 (by decide)
          have k27 : tm.getD 27 undef = Value.tuple #[Value.pointer (some { block := g, off := 0 }), Value.int IntKind.i64 0] := hfr 27 (by decide)
          have k28 : tm.getD 28 undef = Value.pointer (some { block := g, off := 0 }) := hfr 28 (by decide)
          have k29 : tm.getD 29 undef = Value.int IntKind.i64 0 := hfr 29 (by decide)
          have k30 : tm.getD 30 undef = Value.tuple #[Value.pointer (some { block := r, off := 0 }), Value.int IntKind.i64 0] := hfr 30 (by decide)
          have k31 : tm.getD 31 undef = Value.pointer (some { block := W.heap.size, off := 0 }) := hfr 31 (by decide)
          have k32 : tm.getD 32 undef = Value.int IntKind.i64 po := hfr 32 (by decide)
          have k33 : tm.getD 33 undef = Value.pointer (some { block := W.heap.size, off := 1 }) := hfr 33 (by decide)
          have k34 : tm.getD 34 undef = Value.int IntKind.i64 ag := hfr 34 (by decide)
          have k35 : tm.getD 35 undef = Value.pointer (some { block := W.heap.size, off := 2 }) := hfr 35 (by decide)
          have k36 : tm.getD 36 undef = Value.int IntKind.i64 ro := hfr 36 (by decide)
          have k37 : tm.getD 37 undef = Value.tuple #[Value.pointer (some { block := r, off := 0 }), Value.int IntKind.i64 0] := hfr 37 (by decide)
          have k38 : tm.getD 38 undef = Value.pointer (some { block := r, off := 0 }) := hfr 38 (by decide)
          have k39 : tm.getD 39 undef = Value.int IntKind.i64 0 := hfr 39 (by decide)
          have k40 : tm.getD 40 undef = Value.bool false := hfr 40 (by decide)
          have k41 : tm.getD 41 undef = Value.int IntKind.i64 0 := hfr 41 (by decide)
          have k42 : tm.getD 42 undef = Value.int IntKind.i64 0 := hfr 42 (by decide)
          have k43 : tm.getD 43 undef = Value.bool false := hfr 43 (by decide)
          have k44 : tm.getD 44 undef = Value.bool false := hfr 44 (by decide)
          have k45 : tm.getD 45 undef = Value.bool false := hfr 45 (by decide)
          have k46 : tm.getD 46 undef = Value.pointer (some { block := g, off := 0 }) := hfr 46 (by decide)
          have k47 : tm.getD 47 undef = Value.bool false := hfr 47 (by decide)
          have k48 : tm.getD 48 undef = Value.pointer (some { block := r, off := 0 }) := hfr 48 (by decide)
          have k49 : tm.getD 49 undef = Value.bool false := hfr 49 (by decide)
          have k50 : tm.getD 50 undef = Value.bool false := hfr 50 (by decide)
          have k51 : tm.getD 51 undef = Value.bool false := hfr 51 (by decide)
          have k52 : tm.getD 52 undef = Value.bool false := hfr 52 (by decide)
          have k53 : tm.getD 53 undef = Value.bool true := hfr 53 (by decide)
          have k54 : tm.getD 54 undef = Value.bool false := hfr 54 (by decide)
          have k55 : tm.getD 55 undef = Value.bool false := hfr 55 (by decide)
          have k9 : tm.getD 9 undef = .int .i64 k := hfr 9 (by decide)
          have k10 : tm.getD 10 undef = .pointer (some ⟨p, 0, none⟩) := hfr 10 (by decide)
          have k86 : tm.getD 86 undef = .bool false := AllG.get hG 8 (by decide)
          have he : tm = #[tm.getD 0 undef, tm.getD 1 undef, tm.getD 2 undef, tm.getD 3 undef, tm.getD 4 undef, tm.getD 5 undef, tm.getD 6 undef, tm.getD 7 undef, tm.getD 8 undef, tm.getD 9 undef, tm.getD 10 undef, tm.getD 11 undef, tm.getD 12 undef, tm.getD 13 undef, tm.getD 14 undef, tm.getD 15 undef, tm.getD 16 undef, tm.getD 17 undef, tm.getD 18 undef, tm.getD 19 undef, tm.getD 20 undef, tm.getD 21 undef, tm.getD 22 undef, tm.getD 23 undef, tm.getD 24 undef, tm.getD 25 undef, tm.getD 26 undef, tm.getD 27 undef, tm.getD 28 undef, tm.getD 29 undef, tm.getD 30 undef, tm.getD 31 undef, tm.getD 32 undef, tm.getD 33 undef, tm.getD 34 undef, tm.getD 35 undef, tm.getD 36 undef, tm.getD 37 undef, tm.getD 38 undef, tm.getD 39 undef, tm.getD 40 undef, tm.getD 41 undef, tm.getD 42 undef, tm.getD 43 undef, tm.getD 44 undef, tm.getD 45 undef, tm.getD 46 undef, tm.getD 47 undef, tm.getD 48 undef, tm.getD 49 undef, tm.getD 50 undef, tm.getD 51 undef, tm.getD 52 undef, tm.getD 53 undef, tm.getD 54 undef, tm.getD 55 undef, tm.getD 56 undef, tm.getD 57 undef, tm.getD 58 undef, tm.getD 59 undef, tm.getD 60 undef, tm.getD 61 undef, tm.getD 62 undef, tm.getD 63 undef, tm.getD 64 undef, tm.getD 65 undef, tm.getD 66 undef, tm.getD 67 undef, tm.getD 68 undef, tm.getD 69 undef, tm.getD 70 undef, tm.getD 71 undef, tm.getD 72 undef, tm.getD 73 undef, tm.getD 74 undef, tm.getD 75 undef, tm.getD 76 undef, tm.getD 77 undef, tm.getD 78 undef, tm.getD 79 undef, tm.getD 80 undef, tm.getD 81 undef, tm.getD 82 undef, tm.getD 83 undef, tm.getD 84 undef, tm.getD 85 undef, tm.getD 86 undef, tm.getD 87 undef, tm.getD 88 undef, tm.getD 89 undef, tm.getD 90 undef, tm.getD 91 undef, tm.getD 92 undef, tm.getD 93 undef, tm.getD 94 undef, tm.getD 95 undef, tm.getD 96 undef, tm.getD 97 undef, tm.getD 98 undef, tm.getD 99 undef, tm.getD 100 undef, tm.getD 101 undef, tm.getD 102 undef, tm.getD 103 undef, tm.getD 104 undef, tm.getD 105 undef, tm.getD 106 undef, tm.getD 107 undef, tm.getD 108 undef, tm.getD 109 undef, tm.getD 110 undef, tm.getD 111 undef, tm.getD 112 undef, tm.getD 113 undef, tm.getD 114 undef, tm.getD 115 undef, tm.getD 116 undef, tm.getD 117 undef, tm.getD 118 undef, tm.getD 119 undef, tm.getD 120 undef, tm.getD 121 undef, tm.getD 122 undef, tm.getD 123 undef, tm.getD 124 undef, tm.getD 125 undef, tm.getD 126 undef, tm.getD 127 undef, tm.getD 128 undef, tm.getD 129 undef, tm.getD 130 undef, tm.getD 131 undef, tm.getD 132 undef, tm.getD 133 undef, tm.getD 134 undef, tm.getD 135 undef, tm.getD 136 undef, tm.getD 137 undef, tm.getD 138 undef, tm.getD 139 undef, tm.getD 140 undef, tm.getD 141 undef, tm.getD 142 undef, tm.getD 143 undef, tm.getD 144 undef, tm.getD 145 undef, tm.getD 146 undef, tm.getD 147 undef, tm.getD 148 undef, tm.getD 149 undef, tm.getD 150 undef, tm.getD 151 undef, tm.getD 152 undef, tm.getD 153 undef, tm.getD 154 undef, tm.getD 155 undef, tm.getD 156 undef, tm.getD 157 undef, tm.getD 158 undef, tm.getD 159 undef, tm.getD 160 undef, tm.getD 161 undef, tm.getD 162 undef] := arr_eta (n := 163) hsz
          replace hdf : df = [] := hdf
          subst hdf
          clear hsz hfr hG
          rw [he, k0, k1, k2, k3, k5, k6, k7, k8, k20, k21, k22, k23, k24, k25, k26, k27, k28, k29, k30, k31, k32, k33, k34, k35, k36, k37, k38, k39, k40, k41, k42, k43, k44, k45, k46, k47, k48, k49, k50, k51, k52, k53, k54, k55, k9, k10, k86]
          clear he k0 k1 k2 k3 k5 k6 k7 k8 k20 k21 k22 k23 k24 k25 k26 k27 k28 k29 k30 k31 k32 k33 k34 k35 k36 k37 k38 k39 k40 k41 k42 k43 k44 k45 k46 k47 k48 k49 k50 k51 k52 k53 k54 k55 k9 k10 k86
          generalize tm.getD 4 undef = x4
          generalize tm.getD 11 undef = x11
          generalize tm.getD 12 undef = x12
          generalize tm.getD 13 undef = x13
          generalize tm.getD 14 undef = x14
          generalize tm.getD 15 undef = x15
          generalize tm.getD 16 undef = x16
          generalize tm.getD 17 undef = x17
          generalize tm.getD 18 undef = x18
          generalize tm.getD 19 undef = x19
          generalize tm.getD 56 undef = x56
          generalize tm.getD 57 undef = x57
          generalize tm.getD 58 undef = x58
          generalize tm.getD 59 undef = x59
          generalize tm.getD 60 undef = x60
          generalize tm.getD 61 undef = x61
          generalize tm.getD 62 undef = x62
          generalize tm.getD 63 undef = x63
          generalize tm.getD 64 undef = x64
          generalize tm.getD 65 undef = x65
          generalize tm.getD 66 undef = x66
          generalize tm.getD 67 undef = x67
          generalize tm.getD 68 undef = x68
          generalize tm.getD 69 undef = x69
          generalize tm.getD 70 undef = x70
          generalize tm.getD 71 undef = x71
          generalize tm.getD 72 undef = x72
          generalize tm.getD 73 undef = x73
          generalize tm.getD 74 undef = x74
          generalize tm.getD 75 undef = x75
          generalize tm.getD 76 undef = x76
          generalize tm.getD 77 undef = x77
          generalize tm.getD 78 undef = x78
          generalize tm.getD 79 undef = x79
          generalize tm.getD 80 undef = x80
          generalize tm.getD 81 undef = x81
          generalize tm.getD 82 undef = x82
          generalize tm.getD 83 undef = x83
          generalize tm.getD 84 undef = x84
          generalize tm.getD 85 undef = x85
          generalize tm.getD 87 undef = x87
          generalize tm.getD 88 undef = x88
          generalize tm.getD 89 undef = x89
          generalize tm.getD 90 undef = x90
          generalize tm.getD 91 undef = x91
          generalize tm.getD 92 undef = x92
          generalize tm.getD 93 undef = x93
          generalize tm.getD 94 undef = x94
          generalize tm.getD 95 undef = x95
          generalize tm.getD 96 undef = x96
          generalize tm.getD 97 undef = x97
          generalize tm.getD 98 undef = x98
          generalize tm.getD 99 undef = x99
          generalize tm.getD 100 undef = x100
          generalize tm.getD 101 undef = x101
          generalize tm.getD 102 undef = x102
          generalize tm.getD 103 undef = x103
          generalize tm.getD 104 undef = x104
          generalize tm.getD 105 undef = x105
          generalize tm.getD 106 undef = x106
          generalize tm.getD 107 undef = x107
          generalize tm.getD 108 undef = x108
          generalize tm.getD 109 undef = x109
          generalize tm.getD 110 undef = x110
          generalize tm.getD 111 undef = x111
          generalize tm.getD 112 undef = x112
          generalize tm.getD 113 undef = x113
          generalize tm.getD 114 undef = x114
          generalize tm.getD 115 undef = x115
          generalize tm.getD 116 undef = x116
          generalize tm.getD 117 undef = x117
          generalize tm.getD 118 undef = x118
          generalize tm.getD 119 undef = x119
          generalize tm.getD 120 undef = x120
          generalize tm.getD 121 undef = x121
          generalize tm.getD 122 undef = x122
          generalize tm.getD 123 undef = x123
          generalize tm.getD 124 undef = x124
          generalize tm.getD 125 undef = x125
          generalize tm.getD 126 undef = x126
          generalize tm.getD 127 undef = x127
          generalize tm.getD 128 undef = x128
          generalize tm.getD 129 undef = x129
          generalize tm.getD 130 undef = x130
          generalize tm.getD 131 undef = x131
          generalize tm.getD 132 undef = x132
          generalize tm.getD 133 undef = x133
          generalize tm.getD 134 undef = x134
          generalize tm.getD 135 undef = x135
          generalize tm.getD 136 undef = x136
          generalize tm.getD 137 undef = x137
          generalize tm.getD 138 undef = x138
          generalize tm.getD 139 undef = x139
          generalize tm.getD 140 undef = x140
          generalize tm.getD 141 undef = x141
          generalize tm.getD 142 undef = x142
          generalize tm.getD 143 undef = x143
          generalize tm.getD 144 undef = x144
          generalize tm.getD 145 undef = x145
          generalize tm.getD 146 undef = x146
          generalize tm.getD 147 undef = x147
          generalize tm.getD 148 undef = x148
          generalize tm.getD 149 undef = x149
          generalize tm.getD 150 undef = x150
          generalize tm.getD 151 undef = x151
          generalize tm.getD 152 undef = x152
          generalize tm.getD 153 undef = x153
          generalize tm.getD 154 undef = x154
          generalize tm.getD 155 undef = x155
          generalize tm.getD 156 undef = x156
          generalize tm.getD 157 undef = x157
          generalize tm.getD 158 undef = x158
          generalize tm.getD 159 undef = x159
          generalize tm.getD 160 undef = x160
          generalize tm.getD 161 undef = x161
          generalize tm.getD 162 undef = x162
          simp only [List.drop_succ_cons, List.drop_zero]
          obtain ⟨hOE, ⟨e1, q2, q3⟩, s2, hPE⟩ := hPE
          clear HT e1
          go_wp2_with fail
        case' inr =>
          rw [hkd]
          clear hkd
          go_wp2_with fail
          refine (take_pair wa c g r s pt tt fr ty nw d hPr).mono ?_
          rintro e wd ⟨vl, l, cc, rfl, hown, hll, hkd1, hRT⟩
          obtain ⟨la, lcap, rfl, hla, hlb⟩ := hown.list (by omega)
          have hpcg : ¬ (p = c ∨ p = g) := by omega
          have hlw : c < wa.heap.size ∧ g < wa.heap.size ∧ r < wa.heap.size := ⟨hPr.1.2.1.lt, heap_lt hPr.1.1, hPr.2.1.lt⟩
          have y1 := cell_only hkd1 hpcg z1
          have y2 := cell_only hkd1 hpcg z2
          have y3 := cell_only hkd1 hpcg z3
          have y4 := cell_only hkd1 hpcg z4
          have y5 := cell_only hkd1 hpcg z5
          have y6 := cell_only hkd1 hpcg z6
          have HRT := Lib.hid hRT
          clear hRT z1 z2 z3 z4 z5 z6
          go_wp2_with fail
          refine HRT.out.mono ?_
          rintro e we ⟨v2, s2, rfl, hown2, hPe, hke⟩
          obtain ⟨ka, kcap, rfl, hka, hkb⟩ := hown2.list (by omega)
          have hla2 := hla.only hke (fun ad e1 e2 => by have := hlb ad e1; omega)
          have hownE := hown.only hke (fun b h1 h2 => by omega)
          have q2 := cell_only hke hpr y2
          have q3 := cell_only hke hpr y3
          have hO1 : Only (fun _ => False) W we := (hO.then hkd1 (fun k h1 h2 => by omega)).then hke (fun k h1 h2 => by omega)
          have hwW := hO.size
          clear y1 y2 y3 y4 y5 y6 hkd1 hke HRT hown hown2 hla hkb hPr hO
          go_wp2_with fail
          refine (same_ints we la ka lcap kcap l l hla2 hka).mono ?_
          rintro e wf ⟨rfl, hkf⟩
          rw [beq_self_eq_true]
          have hownF := hownE.only hkf (fun _ _ h => h)
          have hPf := hPe.keep hkf
          replace q2 := cell_only hkf (fun h => h) q2
          replace q3 := cell_only hkf (fun h => h) q3
          have hO2 := hO1.trans hkf
          have hpl : p < wa.heap.size := by omega
          clear hkf hownE hla2 hka hPe hO1
          go_wp2_with fail
          refine (spoil_any wf wa.heap.size _ l hownF (by omega)).mono ?_
          rintro e we2 ⟨rfl, hkE⟩
          have hPE := hPf.spoil hownF hkE
          have hnb : ∀ k, k < wa.heap.size → ¬ (Value.slice la l.length lcap).ownBlock = some k := fun k hk e => by have := (hownF.block e).1; omega
          have hOE : Only (fun _ => False) W we2 := hO2.then hkE (fun k h1 h2 => hnb k (by omega) h2)
          replace q2 := cell_only hkE (hnb p hpl) q2
          replace q3 := cell_only hkE (hnb p hpl) q3
          clear hkE hnb hPf hownF hO2 hlb
          go_wp2_with fail
        all_goals
          have hknl : (s2.known nw).length ≤ 1024 := by
            rw [known_is s2 nw hPE.1.nodup]
            exact Nat.le_trans (knownL_length _ _ _) hPE.2.2.2.1
          refine (port_any s2 c g _ tt nw hPE.1 hPE.2.2.1).mono ?_
          rintro e w6 ⟨rfl, hk6⟩
          have hP6 := hPE.keep hk6
          have hO6 := hOE.trans hk6
          replace q2 := cell_only hk6 (fun h => h) q2
          replace q3 := cell_only hk6 (fun h => h) q3
          clear hk6 hPE hOE
          go_wp2_with fail
          refine (port_r w6 r s2 tt nw hP6.2.1 hP6.2.2.1 hP6.1.nodup hP6.2.2.2.1).mono ?_
          rintro e w7 ⟨rfl, hk7⟩
          have hP7 := hP6.keep hk7
          have hO7 := hO6.trans hk7
          replace q2 := cell_only hk7 (fun h => h) q2
          clear hk7 hP6 hO6 q3
          generalize s2.find tt nw = fo
          generalize fo.getD 0 = fp
          generalize fo.isSome = fb
          go_wp2_with fail
          refine (known_own s2 c g w7 nw hP7.1 hP7.2.2.1 hP7.2.2.2.2 hP7.2.2.2.1).mono ?_
          rintro e w8 ⟨v8, rfl, hown8, hk8⟩
          have hP8 := hP7.keep hk8
          have hO8 := hO7.trans hk8
          replace q2 := cell_only hk8 (fun h => h) q2
          have HKR := Lib.hid (known_r w8 r s2 nw hP8.2.1 hP8.2.2.1 hP8.2.2.2.1)
          rw [← known_is s2 nw hP8.1.nodup] at HKR
          generalize s2.known nw = kl at hown8 hknl HKR ⊢
          obtain ⟨la8, lcap8, rfl, hla8, hlb8⟩ := hown8.list (by omega)
          have hwW := hO7.size
          clear hk8 hP7 hO7
          go_wp2_with fail
          refine HKR.out.mono ?_
          rintro e w9 ⟨v9, rfl, hown9, hk9⟩
          obtain ⟨la9, lcap9, rfl, hla9, hlb9⟩ := hown9.list (by omega)
          have hP9 := hP8.keep hk9
          have hO9 := hO8.trans hk9
          have hownA := hown8.only hk9 (fun _ _ h => h)
          replace hla8 := hla8.only hk9 (fun _ _ h => h)
          clear hk9 hP8 hO8 hown8 HKR q2 hown9
          go_wp2_with fail
          refine (same_ints w9 la8 la9 lcap8 lcap9 kl kl hla8 hla9).mono ?_
          rintro e w10 ⟨rfl, hk10⟩
          rw [beq_self_eq_true]
          have hP10 := hP9.keep hk10
          have hO10 := hO9.trans hk10
          have hownB := hownA.only hk10 (fun _ _ h => h)
          clear hk10 hP9 hO9 hownA hla8 hla9 hlb9
          go_wp2_with fail
          refine (spoil_any w10 w7.heap.size _ kl hownB (by omega)).mono ?_
          rintro e w11 ⟨rfl, hk11⟩
          have hP11 := hP10.spoil hownB hk11
          have hO11 : Only (fun _ => False) W w11 := hO10.then hk11 (fun k h1 h2 => by have := (hownB.block h2).1; omega)
          clear hk11 hP10 hO10 hownB hlb8
          go_wp2_with fail
          go_roundw
          case rel => exact ⟨k + 1, s2, by go_num, by omega, by omega, hP11, hO11⟩
          case measure => simp [intOf]; omega
      · have hend : ¬ k < n ∨ (k < n ∧ ¬ k < 60) := by omega
        have HB := Lib.hid (hO.below (Nat.le_refl _) (fun _ _ h => h))
        rcases hend with hk1 | ⟨hk1, hk2⟩
        · have hk1' : ¬ (k : Int) < (n : Int) := by omega
          clear hin hPr
          go_wp2_with fail
          go_ret
          exact ⟨rfl, HB.out⟩
        · have hk2' : ¬ (k : Int) < 60 := by omega
          have hk1' : (k : Int) < (n : Int) := by omega
          clear hin hPr
          go_wp2_with fail
          go_ret
          exact ⟨rfl, HB.out⟩
  · have HG := Lib.hid hgood
    clear hgood
    go_enter Try.func5, Try.ntmps5
    go_wp2_with fail
    generalize W.alloc (.cells #[.int .i64 po, .int .i64 ag, .int .i64 ro] 48) = W0 at hk0 z0 z1 z2 ⊢
    refine (new_bad po ag ro W0 HG.out).mono ?_
    rintro e _ ⟨rfl, rfl⟩
    go_wp2_with fail
    refine (bnew_r_bad po ag ro W0 HG.out).mono ?_
    rintro e _ ⟨rfl, rfl⟩
    go_wp2_with fail
    refine (works_any _).mono ?_
    rintro e w2 ⟨rfl, hk2⟩
    have HB := Lib.hid ((hk0.trans hk2).below (Nat.le_refl _) (fun _ _ h => h))
    clear hk2 hk0 z0 z1 z2
    go_wp2_with fail
    refine wp_loop_rounds 1 ?_
    rw [rounds_succ]
    go_wp2_with fail
    go_ret
    exact ⟨rfl, HB.out⟩

end Go.Proofs.Ytkmnjlegmgohfaa

/-
  Apart of the reference queue: the stretches, as many as are asked for.
  Conditions: rooms of at most 3000.
-/
import Derived.Test.YtbpmbmidjdhbpaaScanLaw
import Derived.Test.YtbpmbmidjdhbpaaRefPut
import Derived.StillTailTactics
set_option linter.unusedVariables false
set_option linter.unusedSimpArgs false
set_option maxRecDepth 100000
namespace Go.Proofs.Ytbpmbmidjdhbpaa
open Go.RowKit

theorem row_slice {w : World} {B e s n : Nat} {v : Value} {cs : List Value} (h : w.ownsRow B e s v n cs) : ∃ a cap, v = .slice a n cap ∧ n ≤ cap := by
  obtain ⟨_, ⟨rfl, h0⟩ | ⟨gb, cap, cur, rfl, _, _, hc1, _⟩⟩ := h
  · exact ⟨none, 0, by rw [h0], by omega⟩
  · exact ⟨_, _, rfl, hc1⟩

theorem take_snoc_told (L : List (Int × Int)) (j : Nat) (nx : Int) (h : j < L.length) : rangeCells ((L.take (j + 1)).map (told nx)) = rangeCells ((L.take j).map (told nx)) ++ [.int .i64 ((nx + (L.getD j (0, 0)).1) % 4294967296), .int .i64 ((nx + (L.getD j (0, 0)).2) % 4294967296)] := by
  rw [List.take_succ_eq_append_getElem h, List.map_append, rangeCells_append, pget L j h]
  rfl

/-- What is told of the first so many stretches, in memory. -/
theorem ranges_of_row {w : World} {B base j : Nat} {a : Option Addr} {cap : Nat} {S : List (Int × Int)} (h : w.ownsRow B 37 2 (.slice a j cap) j (rangeCells S)) (hl : S.length = j) (hb : base ≤ B) : RangesAt w base a S := by
  obtain ⟨hrl, ⟨h1, h0⟩ | ⟨gb, cap2, cur, h1, hgb, hgg, hc1, hm2, hz1, ht1⟩⟩ := id h
  · exact ⟨fun i hi => by omega⟩
  · injection h1 with e1 e2 e3
    subst e1
    refine ⟨fun i hi => ?_⟩
    have hc := rangeCells_at S i hi
    have hlen := rangeCells_length S
    refine ⟨gb, rfl, by omega, heap_lt hgg, ?_, ?_⟩
    · have h2 := h.cellAt (i * 2) (by omega)
      rw [h2, hc.1]
    · have h2 := h.cellAt (i * 2 + 1) (by omega)
      rw [h2, hc.2]

theorem mx_mn_done (most : Int) (j n : Nat) (h1 : (j : Int) ≤ mx 0 most) (h2 : j ≤ n) (h3 : j = n ∨ most ≤ (j : Int)) : (mx 0 (mn most n)).toNat = j := by
  unfold mx mn at *
  split at h1 <;> (repeat' split) <;> omega

/-! ### Region 9 -/
theorem rmod_only (a : Int) (w : World) (h0 : -4611686018427387904 ≤ a) (h1 : a ≤ 4611686018427387904) : Calls Try.prog 34 #[.int .i64 a] w fun e w' => e = .returned (.int .i64 (a % 4294967296)) ∧ Only (fun _ => False) w w' :=
  (rmod_any a w h0 h1).mono fun _ _ x => ⟨x.1, by rw [← x.2]; exact Only.refl _ _⟩
def raG (W : World) (r : Nat) (va : Option Addr) (j vcap i k : Nat) (q : QS) : Nat → Value → World → Prop
  | 0, v, w' => v = .slice va j vcap
  | 1, v, w' => v = .pointer (some ⟨r, 0, none⟩)
  | 2, v, w' => v = .pointer (some ⟨r, 0, none⟩)
  | 3, v, w' => v = .pointer (some ⟨r, 0, none⟩)
  | 4, v, w' => v = .int .i64 q.next
  | 5, v, w' => v = .int .i64 i
  | 6, v, w' => v = .int .i64 (q.next + (i : Int))
  | 7, v, w' => v = .int .i64 ((q.next + (i : Int)) % 4294967296)
  | 8, v, w' => v = .pointer (some ⟨r, 0, none⟩)
  | 9, v, w' => v = .pointer (some ⟨r, 0, none⟩)
  | 10, v, w' => v = .pointer (some ⟨r, 0, none⟩)
  | 11, v, w' => v = .int .i64 q.next
  | 12, v, w' => v = .int .i64 k
  | 13, v, w' => v = .int .i64 (q.next + (k : Int))
  | 14, v, w' => v = .int .i64 ((q.next + (k : Int)) % 4294967296)
  | 15, v, w' => v = .agg #[.int .i64 ((q.next + (i : Int)) % 4294967296), .int .i64 ((q.next + (k : Int)) % 4294967296)]
  | 16, v, w' => ∃ b, v = .slice (some ⟨b, 0, none⟩) 1 1 ∧ W.heap.size ≤ b ∧ w'.heap[b]? = some (.cells #[.int .i64 ((q.next + (i : Int)) % 4294967296), .int .i64 ((q.next + (k : Int)) % 4294967296)] 37 (0, 0))
  | _, _, _ => True
def raDs : List Nat := [48, 49, 50, 51, 52, 53, 54, 55, 56, 57, 58, 59, 60, 61, 62, 63, 64]
def raNeed : List (List Nat) := [[], [], [1], [2], [3], [], [4, 5], [6], [], [8], [9], [10], [], [11, 12], [13], [7, 14], [15]]
def raGs : List (Option Bool) := []
theorem raG.keep {W : World} {r : Nat} {va : Option Addr} {j vcap i k : Nat} {q : QS} : ∀ jx v w w', raG W r va j vcap i k q jx v w → Only (fun _ => False) w w' → raG W r va j vcap i k q jx v w' := by
  intro jx v w w' h hO
  match jx with
  | 0 => exact h
  | 1 => exact h
  | 2 => exact h
  | 3 => exact h
  | 4 => exact h
  | 5 => exact h
  | 6 => exact h
  | 7 => exact h
  | 8 => exact h
  | 9 => exact h
  | 10 => exact h
  | 11 => exact h
  | 12 => exact h
  | 13 => exact h
  | 14 => exact h
  | 15 => exact h
  | 16 => exact (by obtain ⟨b, e1, e2, e3⟩ := h; exact ⟨b, e1, e2, hO.at e3 (fun h => h)⟩)
  | n + 17 => trivial
theorem raG.guard {W : World} {r : Nat} {va : Option Addr} {j vcap i k : Nat} {q : QS} : ∀ g' b', raGs.getD g' none = some b' → ∀ v w, raG W r va j vcap i k q g' v w → v = .bool b' := by
  intro g' b' hbb v w hgg
  match g', hbb, hgg with
  | n' + 0, hbb, hgg => exact absurd hbb (by simp [raGs])

/-! ### The walk -/
set_option maxHeartbeats 8000000 in
theorem rapart (W : World) (r hb bb : Nat) (q : QS) (most : Int) (h : RAt W r hb bb q) (hi : QInv q) (r0 : 1 ≤ q.room) (r1 : q.room ≤ 3000) :
    Calls Try.prog 24 #[.pointer (some ⟨r, 0, none⟩), .int .i64 most] W fun e w' => ∃ a cap, e = .returned (.slice a (mx 0 (mn most q.stretches.length)).toNat cap) ∧ RangesAt w' W.heap.size a (q.stretches.take (mx 0 (mn most q.stretches.length)).toNat) ∧ Only (fun _ => False) W w' := by
  obtain ⟨i37, hi37, hz370, hz371, hz372⟩ := info_parts info37
  have hN0 : 0 < q.room.toNat := by omega
  have x0 := h.c0
  have x1 := h.c1
  have hS := qscan hi
  have hD : ∀ d ∈ q.far, 0 ≤ d ∧ d < ((q.room.toNat : Nat) : Int) := fun d hd => by
    have := far_in hi d hd
    omega
  have hM : ∀ d : Nat, d ≤ 1000000 → (hereB q d = true ↔ (d : Int) ∈ q.far) := fun d hd => (far_mem2 hi d hd).symm
  have n0 := hi.n0
  have n1 := hi.n1
  have hLl : (runs q.far q.far.length).length ≤ 65536 := by
    have h1 := runs_length q.far q.far.length
    have h2 := far_length q
    have h3 := hi.len
    omega
  generalize hL : runs q.far q.far.length = L at hS hLl
  have HS := Lib.hid hS
  have HD := Lib.hid hD
  have HM := Lib.hid hM
  have hsl : q.stretches.length = L.length := by rw [hS.is, List.length_map]
  have HSL := Lib.hid hsl
  obtain ⟨hv, bv, e1, e2, hg, hh, _⟩ := h
  obtain ⟨g1, o1, c1, rfl⟩ := hh.form
  have x3 := blk_cell hg 3
  simp only [List.getElem?_toArray, List.getElem?_cons_zero, List.getElem?_cons_succ] at x3
  have HG := Lib.hid hg
  have HH := Lib.hid hh
  have hscan0 := scan_new hS.all (fun d hd => (hD d hd).1)
  have HS0 := Lib.hid hscan0
  have hrow0 := World.ownsRow_nil W W.heap.size 37 2
  have HR0 := Lib.hid hrow0
  have hN : q.room = ((q.room.toNat : Nat) : Int) := by omega
  have hN3 : q.room.toNat ≤ 3000 := by omega
  generalize hNe : q.room.toNat = N at *
  have HNE := Lib.hid hNe
  rw [hN] at x1
  clear hL hS hD hM hsl hg hh hscan0 hrow0 hi hNe hN r0 r1 e1 e2
  go_enter Try.func24, Try.ntmps24
  go_wp2_with fail
  go_loopw [5, 6] (fun ov iv wr => ∃ i j : Nat, iv = .int .i64 i ∧ i ≤ N + 1 ∧ Scan L i j ∧ (j : Int) ≤ mx 0 most ∧ wr.ownsRow W.heap.size 37 2 ov j (rangeCells ((L.take j).map (told q.next))) ∧ Only (fun _ => False) W wr) (fun _ iv _ => N + 1 - (intOf iv).toNat)
  case atStart => exact ⟨0, 0, rfl, by omega, HS0.out, by unfold mx; omega, HR0.out, Only.refl _ _⟩
  case round =>
    obtain ⟨i, j, rfl, hiN1, hsc, hjm, hrow, hO⟩ := hrel
    obtain ⟨va, vcap, rfl, hjc⟩ := row_slice hrow
    have hjl := hsc.le
    have y0 := cell_only hO (fun h => h) x0
    have y1 := cell_only hO (fun h => h) x1
    have y3 := cell_only hO (fun h => h) x3
    have HSC := Lib.hid hsc
    have HROW := Lib.hid hrow
    have HHr := Lib.hid (HH.out.only hO (fun _ _ h => h))
    clear hsc hrow
    have HEND : Hid ((j = L.length ∨ most ≤ (j : Int)) → ∃ a cap, Ending.returned (.slice va j vcap) = .returned (.slice a (mx 0 (mn most q.stretches.length)).toNat cap) ∧ RangesAt wr W.heap.size a (q.stretches.take (mx 0 (mn most q.stretches.length)).toNat) ∧ Only (fun _ => False) W wr) := by
      refine Lib.hid (fun hd => ?_)
      have e := mx_mn_done most j L.length hjm hjl hd
      refine ⟨va, vcap, ?_, ?_, hO⟩
      · rw [HSL.out, e]
      · rw [HSL.out, e, HS.out.is, ← List.map_take]
        exact ranges_of_row HROW.out (by rw [List.length_map, List.length_take]; omega) (Nat.le_refl _)
    by_cases hiN : i < N
    · by_cases hjm2 : (j : Int) < most
      · obtain ⟨u0, u1⟩ := HHr.out.cell i hiN
        cases hb : hereB q i with
        | false =>
          rw [hb] at u0
          have hnot : (i : Int) ∉ q.far := fun hc => by rw [(HM.out i (by omega)).2 hc] at hb; cases hb
          have hsk := Lib.hid (HSC.out.skip HS.out.all hnot)
          clear hb hnot
          go_wp2_with fail
          go_roundw
          case rel => exact ⟨i + 1, j, by go_num, by omega, hsk.out, hjm, HROW.out, hO⟩
          case measure => simp [intOf]; omega
        | true =>
          rw [hb] at u0
          obtain ⟨hjl2, hLi, e, hLe, hie, hin, hout, hsc2⟩ := HSC.out.take HS.out.all ((HM.out i (by omega)).1 hb)
          have heN : e ≤ N := by
            have h1 := HD.out _ (hin (e - 1) (by omega) (by omega))
            omega
          have HLI := Lib.hid hLi
          have HLE := Lib.hid hLe
          have HIN := Lib.hid hin
          have HOUT := Lib.hid hout
          have HSC2 := Lib.hid hsc2
          clear hb hLi hLe hin hout hsc2
          go_wp2_with fail
          go_loopw [7] (fun kv wk => ∃ k : Nat, kv = .int .i64 k ∧ i ≤ k ∧ k ≤ e ∧ wk = wr) (fun v _ => e - (intOf v).toNat)
          case atStart => exact ⟨i, rfl, Nat.le_refl _, by omega, rfl⟩
          case round =>
            obtain ⟨k, rfl, hik, hke, rfl⟩ := hrel
            by_cases hkl : k < e
            · obtain ⟨t0, t1⟩ := HHr.out.cell k (by omega)
              rw [(HM.out k (by omega)).2 (HIN.out k hik hkl)] at t0
              have hkN : k < N := by omega
              go_wp2_with fail
              go_roundw
              case rel => exact ⟨k + 1, by go_num, by omega, by omega, by first | rfl | trivial⟩
              case measure => simp [intOf]; omega
            · obtain rfl : k = e := by omega
              have hEX : k < N ∨ ¬ k < N := by omega
              rcases hEX with hkN | hkN
              case' inl =>
                obtain ⟨t0, t1⟩ := HHr.out.cell k hkN
                have hkf : hereB q k = false := by
                  cases hx : hereB q k with
                  | false => rfl
                  | true => exact absurd ((HM.out k (by omega)).1 hx) HOUT.out
                rw [hkf] at t0
                clear hkf
                go_upto_region 9 with fail
                clear t0 t1
              case' inr =>
                go_upto_region 9 with fail
              all_goals
                have HT : Hid (wr.drew.cell? ⟨r, 0, none⟩ = some (.int .i64 q.next)) := Lib.hid y0
                have HRd := Lib.hid (row_only HROW.out ((Only.refl (fun _ => False) wr).drewN 1) (fun _ _ h => h))
                change Hid (World.ownsRow wr.drew _ _ _ _ _ _) at HRd
                have HOd : Hid (Only (fun _ => False) W wr.drew) := Lib.hid hO.drew
                have HBi := Lib.hid (show -4611686018427387904 ≤ q.next + (i : Int) ∧ q.next + (i : Int) ≤ 4611686018427387904 by omega)
                have HBk := Lib.hid (show -4611686018427387904 ≤ q.next + (k : Int) ∧ q.next + (k : Int) ≤ 4611686018427387904 by omega)
                clear y0 y1 y3 HHr HEND hO HROW
                refine wp_region_facts_tail 17 raDs raNeed raGs (fun w' => w'.cell? ⟨r, 0, none⟩ = some (.int .i64 q.next) ∧ w'.ownsRow W.heap.size 37 2 (.slice va j vcap) j (rangeCells ((L.take j).map (told q.next))) ∧ Only (fun _ => False) W w') (Only (fun _ => False)) (raG W r va j vcap i k q) rfl rfl (by kernel_rfl) (by kernel_rfl) (by kernel_rfl) (by kernel_rfl) (by kernel_rfl) ⟨HT.out, HRd.out, HOd.out⟩ raG.keep raG.guard ?_ ?_
                · refine And.intro ?op0 (And.intro ?op1 (And.intro ?op2 (And.intro ?op3 (And.intro ?op4 (And.intro ?op5 (And.intro ?op6 (And.intro ?op7 (And.intro ?op8 (And.intro ?op9 (And.intro ?op10 (And.intro ?op11 (And.intro ?op12 (And.intro ?op13 (And.intro ?op14 (And.intro ?op15 (And.intro ?op16 trivial))))))))))))))))
                  case op0 =>
                    intro ev w1 hT1 hc hf hfr hG
                    rw [if_pos (by decide)]
                    obtain ⟨hT0, hT1, hO⟩ := hT1
                    have h5 : ev (.tmp 5) = .slice va j vcap := hfr 5 (by decide)
                    clear hG hfr
                    refine OpSays.value (v := .slice va j vcap) (w' := w1) ?_ ⟨⟨hT0, hT1, hO⟩, Only.refl _ _, rfl⟩
                    go_simp
                  case op1 =>
                    intro ev w1 hT1 hc hf hfr hG
                    rw [if_pos (by decide)]
                    obtain ⟨hT0, hT1, hO⟩ := hT1
                    have h0 : ev (.tmp 0) = .pointer (some ⟨r, 0, none⟩) := hfr 0 (by decide)
                    clear hG hfr
                    refine OpSays.value (v := .pointer (some ⟨r, 0, none⟩)) (w' := w1) ?_ ⟨⟨hT0, hT1, hO⟩, Only.refl _ _, rfl⟩
                    go_simp
                  case op2 =>
                    intro ev w1 hT1 hc hf hfr hG
                    rw [if_pos (by decide)]
                    obtain ⟨hT0, hT1, hO⟩ := hT1
                    have hg : (ev (.tmp 49) = .pointer (some ⟨r, 0, none⟩)) ∧ True := hG
                    obtain ⟨g1, _⟩ := hg
                    clear hG hfr
                    refine OpSays.value (v := .pointer (some ⟨r, 0, none⟩)) (w' := w1) ?_ ⟨⟨hT0, hT1, hO⟩, Only.refl _ _, rfl⟩
                    go_simp
                  case op3 =>
                    intro ev w1 hT1 hc hf hfr hG
                    rw [if_pos (by decide)]
                    obtain ⟨hT0, hT1, hO⟩ := hT1
                    have hg : (ev (.tmp 50) = .pointer (some ⟨r, 0, none⟩)) ∧ True := hG
                    obtain ⟨g2, _⟩ := hg
                    clear hG hfr
                    refine OpSays.value (v := .pointer (some ⟨r, 0, none⟩)) (w' := w1) ?_ ⟨⟨hT0, hT1, hO⟩, Only.refl _ _, rfl⟩
                    go_simp
                  case op4 =>
                    intro ev w1 hT1 hc hf hfr hG
                    rw [if_pos (by decide)]
                    obtain ⟨hT0, hT1, hO⟩ := hT1
                    have hg : (ev (.tmp 51) = .pointer (some ⟨r, 0, none⟩)) ∧ True := hG
                    obtain ⟨g3, _⟩ := hg
                    clear hG hfr
                    have x0 := hT0
                    refine OpSays.value (v := .int .i64 q.next) (w' := w1) ?_ ⟨⟨hT0, hT1, hO⟩, Only.refl _ _, rfl⟩
                    go_simp
                  case op5 =>
                    intro ev w1 hT1 hc hf hfr hG
                    rw [if_pos (by decide)]
                    obtain ⟨hT0, hT1, hO⟩ := hT1
                    have h6 : ev (.tmp 6) = .int .i64 i := hfr 6 (by decide)
                    clear hG hfr
                    refine OpSays.value (v := .int .i64 i) (w' := w1) ?_ ⟨⟨hT0, hT1, hO⟩, Only.refl _ _, rfl⟩
                    go_simp
                  case op6 =>
                    intro ev w1 hT1 hc hf hfr hG
                    rw [if_pos (by decide)]
                    obtain ⟨hT0, hT1, hO⟩ := hT1
                    have hg : (ev (.tmp 52) = .int .i64 q.next) ∧ (ev (.tmp 53) = .int .i64 i) ∧ True := hG
                    obtain ⟨g4, g5, _⟩ := hg
                    clear hG hfr
                    have hwr : IntKind.i64.wrap (q.next + (i : Int)) = q.next + (i : Int) := by rw [IntKind.wrap_i64]; have := HBi.out; omega
                    refine OpSays.value (v := .int .i64 (q.next + (i : Int))) (w' := w1) ?_ ⟨⟨hT0, hT1, hO⟩, Only.refl _ _, rfl⟩
                    go_simp
                  case op7 =>
                    intro ev w1 hT1 hc hf hfr hG
                    rw [if_pos (by decide)]
                    obtain ⟨hT0, hT1, hO⟩ := hT1
                    have hg : (ev (.tmp 54) = .int .i64 (q.next + (i : Int))) ∧ True := hG
                    obtain ⟨g6, _⟩ := hg
                    clear hG hfr
                    refine OpSays.enter (f := 34) (args := #[.int .i64 (q.next + (i : Int))]) (w' := w1) ?_ ?_
                    · go_simp
                    · refine (rmod_only (q.next + (i : Int)) w1 HBi.out.1 HBi.out.2).mono ?_
                      rintro e' w2 ⟨rfl, hk⟩
                      exact ⟨_, rfl, ⟨cell_only hk (fun h => h) hT0, row_only hT1 hk (fun _ _ h => h), hO.trans hk⟩, hk, rfl⟩
                  case op8 =>
                    intro ev w1 hT1 hc hf hfr hG
                    rw [if_pos (by decide)]
                    obtain ⟨hT0, hT1, hO⟩ := hT1
                    have h0 : ev (.tmp 0) = .pointer (some ⟨r, 0, none⟩) := hfr 0 (by decide)
                    clear hG hfr
                    refine OpSays.value (v := .pointer (some ⟨r, 0, none⟩)) (w' := w1) ?_ ⟨⟨hT0, hT1, hO⟩, Only.refl _ _, rfl⟩
                    go_simp
                  case op9 =>
                    intro ev w1 hT1 hc hf hfr hG
                    rw [if_pos (by decide)]
                    obtain ⟨hT0, hT1, hO⟩ := hT1
                    have hg : (ev (.tmp 56) = .pointer (some ⟨r, 0, none⟩)) ∧ True := hG
                    obtain ⟨g8, _⟩ := hg
                    clear hG hfr
                    refine OpSays.value (v := .pointer (some ⟨r, 0, none⟩)) (w' := w1) ?_ ⟨⟨hT0, hT1, hO⟩, Only.refl _ _, rfl⟩
                    go_simp
                  case op10 =>
                    intro ev w1 hT1 hc hf hfr hG
                    rw [if_pos (by decide)]
                    obtain ⟨hT0, hT1, hO⟩ := hT1
                    have hg : (ev (.tmp 57) = .pointer (some ⟨r, 0, none⟩)) ∧ True := hG
                    obtain ⟨g9, _⟩ := hg
                    clear hG hfr
                    refine OpSays.value (v := .pointer (some ⟨r, 0, none⟩)) (w' := w1) ?_ ⟨⟨hT0, hT1, hO⟩, Only.refl _ _, rfl⟩
                    go_simp
                  case op11 =>
                    intro ev w1 hT1 hc hf hfr hG
                    rw [if_pos (by decide)]
                    obtain ⟨hT0, hT1, hO⟩ := hT1
                    have hg : (ev (.tmp 58) = .pointer (some ⟨r, 0, none⟩)) ∧ True := hG
                    obtain ⟨g10, _⟩ := hg
                    clear hG hfr
                    have x0 := hT0
                    refine OpSays.value (v := .int .i64 q.next) (w' := w1) ?_ ⟨⟨hT0, hT1, hO⟩, Only.refl _ _, rfl⟩
                    go_simp
                  case op12 =>
                    intro ev w1 hT1 hc hf hfr hG
                    rw [if_pos (by decide)]
                    obtain ⟨hT0, hT1, hO⟩ := hT1
                    have h7 : ev (.tmp 7) = .int .i64 k := hfr 7 (by decide)
                    clear hG hfr
                    refine OpSays.value (v := .int .i64 k) (w' := w1) ?_ ⟨⟨hT0, hT1, hO⟩, Only.refl _ _, rfl⟩
                    go_simp
                  case op13 =>
                    intro ev w1 hT1 hc hf hfr hG
                    rw [if_pos (by decide)]
                    obtain ⟨hT0, hT1, hO⟩ := hT1
                    have hg : (ev (.tmp 59) = .int .i64 q.next) ∧ (ev (.tmp 60) = .int .i64 k) ∧ True := hG
                    obtain ⟨g11, g12, _⟩ := hg
                    clear hG hfr
                    have hwr : IntKind.i64.wrap (q.next + (k : Int)) = q.next + (k : Int) := by rw [IntKind.wrap_i64]; have := HBk.out; omega
                    refine OpSays.value (v := .int .i64 (q.next + (k : Int))) (w' := w1) ?_ ⟨⟨hT0, hT1, hO⟩, Only.refl _ _, rfl⟩
                    go_simp
                  case op14 =>
                    intro ev w1 hT1 hc hf hfr hG
                    rw [if_pos (by decide)]
                    obtain ⟨hT0, hT1, hO⟩ := hT1
                    have hg : (ev (.tmp 61) = .int .i64 (q.next + (k : Int))) ∧ True := hG
                    obtain ⟨g13, _⟩ := hg
                    clear hG hfr
                    refine OpSays.enter (f := 34) (args := #[.int .i64 (q.next + (k : Int))]) (w' := w1) ?_ ?_
                    · go_simp
                    · refine (rmod_only (q.next + (k : Int)) w1 HBk.out.1 HBk.out.2).mono ?_
                      rintro e' w2 ⟨rfl, hk⟩
                      exact ⟨_, rfl, ⟨cell_only hk (fun h => h) hT0, row_only hT1 hk (fun _ _ h => h), hO.trans hk⟩, hk, rfl⟩
                  case op15 =>
                    intro ev w1 hT1 hc hf hfr hG
                    rw [if_pos (by decide)]
                    obtain ⟨hT0, hT1, hO⟩ := hT1
                    have hg : (ev (.tmp 55) = .int .i64 ((q.next + (i : Int)) % 4294967296)) ∧ (ev (.tmp 62) = .int .i64 ((q.next + (k : Int)) % 4294967296)) ∧ True := hG
                    obtain ⟨g7, g14, _⟩ := hg
                    clear hG hfr
                    refine OpSays.value (v := .agg #[.int .i64 ((q.next + (i : Int)) % 4294967296), .int .i64 ((q.next + (k : Int)) % 4294967296)]) (w' := w1) ?_ ⟨⟨hT0, hT1, hO⟩, Only.refl _ _, rfl⟩
                    go_simp
                  case op16 =>
                    intro ev w1 hT1 hc hf hfr hG
                    rw [if_pos (by decide)]
                    obtain ⟨hT0, hT1, hO⟩ := hT1
                    have hg : (ev (.tmp 63) = .agg #[.int .i64 ((q.next + (i : Int)) % 4294967296), .int .i64 ((q.next + (k : Int)) % 4294967296)]) ∧ True := hG
                    obtain ⟨g15, _⟩ := hg
                    clear hG hfr
                    have hk := (Only.refl (fun _ => False) w1).alloc (.cells #[.int .i64 ((q.next + (i : Int)) % 4294967296), .int .i64 ((q.next + (k : Int)) % 4294967296)] 37)
                    refine OpSays.value (v := .slice (some ⟨w1.heap.size, 0, none⟩) 1 1) (w' := w1.alloc (.cells #[.int .i64 ((q.next + (i : Int)) % 4294967296), .int .i64 ((q.next + (k : Int)) % 4294967296)] 37)) ?_ ⟨⟨cell_only hk (fun h => h) hT0, row_only hT1 hk (fun _ _ h => h), hO.trans hk⟩, hk, w1.heap.size, rfl, hO.size, blk_new w1 _⟩
                    go_simp
                rintro ⟨tm, df⟩ w2 ⟨hT0, hT1, hO2⟩ hsz hdf hfr hG
                have k0 : tm.getD 0 undef = .pointer (some ⟨r, 0, none⟩) := hfr 0 (by decide)
                have k1 : tm.getD 1 undef = .int .i64 most := hfr 1 (by decide)
                have k2 : tm.getD 2 undef = undef := hfr 2 (by decide)
                have k3 : tm.getD 3 undef = undef := hfr 3 (by decide)
                have k4 : tm.getD 4 undef = .slice none 0 0 := hfr 4 (by decide)
                have k5 : tm.getD 5 undef = .slice va j vcap := hfr 5 (by decide)
                have k6 : tm.getD 6 undef = .int .i64 i := hfr 6 (by decide)
                have k7 : tm.getD 7 undef = .int .i64 k := hfr 7 (by decide)
                have k48 : tm.getD 48 undef = .slice va j vcap := AllG.get hG 0 (by decide)
                have k67 : tm.getD 67 undef = undef := hfr 67 (by decide)
                obtain ⟨b, k64, hb2, hbk⟩ : ∃ b, tm.getD 64 undef = .slice (some ⟨b, 0, none⟩) 1 1 ∧ W.heap.size ≤ b ∧ w2.heap[b]? = some (.cells #[.int .i64 ((q.next + (i : Int)) % 4294967296), .int .i64 ((q.next + (k : Int)) % 4294967296)] 37 (0, 0)) := AllG.get hG 16 (by decide)
                have he : tm = #[tm.getD 0 undef, tm.getD 1 undef, tm.getD 2 undef, tm.getD 3 undef, tm.getD 4 undef, tm.getD 5 undef, tm.getD 6 undef, tm.getD 7 undef, tm.getD 8 undef, tm.getD 9 undef, tm.getD 10 undef, tm.getD 11 undef, tm.getD 12 undef, tm.getD 13 undef, tm.getD 14 undef, tm.getD 15 undef, tm.getD 16 undef, tm.getD 17 undef, tm.getD 18 undef, tm.getD 19 undef, tm.getD 20 undef, tm.getD 21 undef, tm.getD 22 undef, tm.getD 23 undef, tm.getD 24 undef, tm.getD 25 undef, tm.getD 26 undef, tm.getD 27 undef, tm.getD 28 undef, tm.getD 29 undef, tm.getD 30 undef, tm.getD 31 undef, tm.getD 32 undef, tm.getD 33 undef, tm.getD 34 undef, tm.getD 35 undef, tm.getD 36 undef, tm.getD 37 undef, tm.getD 38 undef, tm.getD 39 undef, tm.getD 40 undef, tm.getD 41 undef, tm.getD 42 undef, tm.getD 43 undef, tm.getD 44 undef, tm.getD 45 undef, tm.getD 46 undef, tm.getD 47 undef, tm.getD 48 undef, tm.getD 49 undef, tm.getD 50 undef, tm.getD 51 undef, tm.getD 52 undef, tm.getD 53 undef, tm.getD 54 undef, tm.getD 55 undef, tm.getD 56 undef, tm.getD 57 undef, tm.getD 58 undef, tm.getD 59 undef, tm.getD 60 undef, tm.getD 61 undef, tm.getD 62 undef, tm.getD 63 undef, tm.getD 64 undef, tm.getD 65 undef, tm.getD 66 undef, tm.getD 67 undef] := arr_eta (n := 68) hsz
                replace hdf : df = [] := hdf
                subst hdf
                clear hsz hfr hG
                rw [he, k0, k1, k2, k3, k4, k5, k6, k7, k48, k67, k64]
                clear he k0 k1 k2 k3 k4 k5 k6 k7 k48 k67 k64
                generalize tm.getD 8 undef = x8
                generalize tm.getD 9 undef = x9
                generalize tm.getD 10 undef = x10
                generalize tm.getD 11 undef = x11
                generalize tm.getD 12 undef = x12
                generalize tm.getD 13 undef = x13
                generalize tm.getD 14 undef = x14
                generalize tm.getD 15 undef = x15
                generalize tm.getD 16 undef = x16
                generalize tm.getD 17 undef = x17
                generalize tm.getD 18 undef = x18
                generalize tm.getD 19 undef = x19
                generalize tm.getD 20 undef = x20
                generalize tm.getD 21 undef = x21
                generalize tm.getD 22 undef = x22
                generalize tm.getD 23 undef = x23
                generalize tm.getD 24 undef = x24
                generalize tm.getD 25 undef = x25
                generalize tm.getD 26 undef = x26
                generalize tm.getD 27 undef = x27
                generalize tm.getD 28 undef = x28
                generalize tm.getD 29 undef = x29
                generalize tm.getD 30 undef = x30
                generalize tm.getD 31 undef = x31
                generalize tm.getD 32 undef = x32
                generalize tm.getD 33 undef = x33
                generalize tm.getD 34 undef = x34
                generalize tm.getD 35 undef = x35
                generalize tm.getD 36 undef = x36
                generalize tm.getD 37 undef = x37
                generalize tm.getD 38 undef = x38
                generalize tm.getD 39 undef = x39
                generalize tm.getD 40 undef = x40
                generalize tm.getD 41 undef = x41
                generalize tm.getD 42 undef = x42
                generalize tm.getD 43 undef = x43
                generalize tm.getD 44 undef = x44
                generalize tm.getD 45 undef = x45
                generalize tm.getD 46 undef = x46
                generalize tm.getD 47 undef = x47
                generalize tm.getD 49 undef = x49
                generalize tm.getD 50 undef = x50
                generalize tm.getD 51 undef = x51
                generalize tm.getD 52 undef = x52
                generalize tm.getD 53 undef = x53
                generalize tm.getD 54 undef = x54
                generalize tm.getD 55 undef = x55
                generalize tm.getD 56 undef = x56
                generalize tm.getD 57 undef = x57
                generalize tm.getD 58 undef = x58
                generalize tm.getD 59 undef = x59
                generalize tm.getD 60 undef = x60
                generalize tm.getD 61 undef = x61
                generalize tm.getD 62 undef = x62
                generalize tm.getD 63 undef = x63
                generalize tm.getD 65 undef = x65
                generalize tm.getD 66 undef = x66
                clear HT HRd HOd hT0
                have hsnoc := take_snoc_told L j q.next hjl2
                rw [HLI.out, HLE.out] at hsnoc
                have HSN := Lib.hid hsnoc
                clear hsnoc
                generalize (q.next + (i : Int)) % 4294967296 = fr at HSN hbk ⊢
                generalize (q.next + (k : Int)) % 4294967296 = tt at HSN hbk ⊢
                have hcl : ∀ d u, [Value.int .i64 fr, .int .i64 tt][d]? = some u → w2.cell? ((⟨b, 0, none⟩ : Addr).add d) = some u := by
                  intro d u hd
                  match d, hd with
                  | 0, hd => exact (blk_cell hbk 0).trans hd
                  | 1, hd => exact (blk_cell hbk 1).trans hd
                  | d + 2, hd => simp at hd
                have HCL := Lib.hid hcl
                have hsz := hO2.size
                clear hcl
                simp only [List.drop_succ_cons, List.drop_zero]
                go_wp2_with (at_builtin; refine wpList_append_own _ rfl _ _ 34 rfl W.heap.size 37 i37 (.agg #[.int .i64 0, .int .i64 0]) 2 16 Try.underlying34 hi37 hz370 hz371 hz372 rfl (by decide) _ j _ rfl hT1 ⟨b, 0, none⟩ 1 1 [.int .i64 fr, .int .i64 tt] rfl rfl HCL.out (by simp [Value.oneCell']) (by simp [maxLen]; omega) (by omega) (by omega) ?_; intro v3 w3 hown hgr _)
                have hown2 : w3.ownsRow W.heap.size 37 2 v3 (j + 1) (rangeCells ((L.take (j + 1)).map (told q.next))) := by
                  rw [HSN.out]
                  exact hown
                have hO3 : Only (fun _ => False) W w3 := hO2.then (Only.of_grown hgr) (fun k hk e => by have := (hT1.lt _ e.symm).1; omega)
                clear hown hgr hT1
                go_roundw
                case rel => exact ⟨k + 1, j + 1, by go_num, by omega, HSC2.out, by unfold mx; split <;> omega, hown2, hO3⟩
                case measure => simp [intOf]; omega
      · go_wp2_with fail
        go_ret
        obtain ⟨fa, fc, fe, f2, f3⟩ := HEND.out (.inr (by omega))
        first | exact ⟨fa, ⟨fc, fe⟩, f2, f3⟩ | exact ⟨fa, fc, fe, f2, f3⟩
    · have hdone := HSC.out.done HS.out.all (fun d hd => by have := HD.out d hd; omega)
      have HDN := Lib.hid hdone
      clear hdone
      go_wp2_with fail
      go_ret
      obtain ⟨fa, fc, fe, f2, f3⟩ := HEND.out (.inl HDN.out)
      first | exact ⟨fa, ⟨fc, fe⟩, f2, f3⟩ | exact ⟨fa, fc, fe, f2, f3⟩

end Go.Proofs.Ytbpmbmidjdhbpaa

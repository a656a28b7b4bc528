/-
  The walk of the law RecvqApart.
  No conditions.
-/
import Derived.Test.YtbpmbmidjdhbpaaRecvWorks
import Derived.Test.YtbpmbmidjdhbpaaApartLaw
import Derived.Test.YtbpmbmidjdhbpaaRecvEdge
import Derived.Test.YtbpmbmidjdhbpaaAmong
import Derived.Test.YtbpmbmidjdhbpaaOpen
import Derived.Deep.CutBlock
import Derived.Deep.CutRange
import Derived.StillTailTactics
set_option linter.unusedVariables false
set_option linter.unusedSimpArgs false
set_option maxRecDepth 100000
namespace Go.Proofs.Ytbpmbmidjdhbpaa
open Go.RowKit Go.Sort
attribute [local go_sem] max_ii min_ii

/-- Forty of x. -/
def xs40 : ByteArray := ⟨#[120, 120, 120, 120, 120, 120, 120, 120, 120, 120, 120, 120, 120, 120, 120, 120, 120, 120, 120, 120, 120, 120, 120, 120, 120, 120, 120, 120, 120, 120, 120, 120, 120, 120, 120, 120, 120, 120, 120, 120]⟩
theorem xs40_size : xs40.size = 40 := by decide
theorem xs40_cut (k : Nat) (hk : k < 40) : (xs40.extract 0 k).size ≤ 40 ∧ ∀ j, j < (xs40.extract 0 k).size → ((xs40.extract 0 k).data.toList.getD j 0).toNat = 120 := by
  have hsz : (xs40.extract 0 k).size = k := by rw [ByteArray.size_extract, xs40_size]; omega
  refine ⟨by omega, fun j hj => ?_⟩
  rw [byteAt_extract xs40 0 k j (by rw [xs40_size]; omega) (by omega)]
  have : ∀ j : Nat, j < 40 → byteAt xs40 j = 120 := by decide
  exact this _ (by omega)

theorem ainv0 : AInv ⟨4294967276, 80, ⟨#[]⟩, []⟩ := ⟨QInv.new 4294967276 80 (by decide) (by decide) (by decide) (by decide), rfl, rfl, rfl, fun p hp => (by cases hp)⟩

theorem byteX (X : ByteArray) (j : Nat) (h : j < X.size) : X.data.toList.getD j 0 = X[j] := by
  rw [List.getD_eq_getElem?_getD, List.getElem?_eq_getElem (by simpa using h)]
  rfl

/-- So many of y. -/
def ysN (k : Nat) : ByteArray := ⟨Array.replicate k 121⟩
theorem ysN_size (k : Nat) : (ysN k).size = k := Array.size_replicate
theorem ysN_add (k : Nat) : ysN k ++ ⟨#[121]⟩ = ysN (k + 1) := by
  apply nums_inj
  rw [nums_append]
  unfold nums ysN
  simp [List.replicate_succ']
theorem ysN_at (k j : Nat) (h : j < k) : ((ysN k).data.toList.getD j 0).toNat = 121 := by
  unfold ysN
  simp [List.getElem?_replicate, h]

set_option maxHeartbeats 4000000 in
theorem recvAparts_walk (W : World) (v : Value) (n : Nat) (f : Nat → List Value) (h : SlIs W [.i, .i, .i] v n f) (T : ByteArray) (hT : T.size ≤ reachB) :
    Calls Try.prog 3 #[v, .string T] W fun e W' => e = .returned (.bool true) ∧ Below W.heap.size W W' := by
  obtain ⟨⟨a, cap, rfl, hle, hat⟩, hcells, hsmall, _, _⟩ := h
  obtain ⟨pa, hpa⟩ := Deep.choose_lt (fun i hi => piece_cells (hcells i hi))
  obtain ⟨pb, hpb⟩ := Deep.choose_lt hpa
  obtain ⟨pc, hpc⟩ := Deep.choose_lt hpb
  have HPC := Lib.hid hpc
  have HAT := Lib.hid hat
  clear hcells hpa hpb hpc hat
  unfold reachB at hT
  simp only [List.length_cons, List.length_nil, reachB] at hsmall
  go_enter Try.func3, Try.ntmps3
  go_wp2_with fail
  refine (qnew 4294967276 80 W (by decide) (by decide) (by decide) (by decide)).mono ?_
  rintro e w1 ⟨rfl, hQ, hk1⟩
  have hgW : W.heap.size ≤ W.heap.size + 1 := by omega
  have hAI := ainv0
  generalize (⟨4294967276, 80, ⟨#[]⟩, []⟩ : QS) = q0 at hQ hAI
  have hgm : W.heap.size + 1 < w1.heap.size ∧ W.heap.size < w1.heap.size := hQ.lt
  generalize hg : W.heap.size + 1 = g at hQ hgW hgm ⊢
  have hmW : W.heap.size ≤ W.heap.size := Nat.le_refl _
  generalize hm : W.heap.size = m at hQ hgm hg
  have hmW : W.heap.size ≤ m := by omega
  clear hg hm
  go_wp2_with fail
  refine (works16 _).mono ?_
  rintro e w2 ⟨rfl, hk2⟩
  have hO : Only (fun _ => False) W w2 := hk1.trans hk2
  replace hQ := hQ.keep hk2
  have hg2 : g < w2.heap.size ∧ m < w2.heap.size := hQ.lt
  clear hk1 hk2 hgm
  go_upto_block 0 with fail
  go_cut [7, 8, 9] from 41 to 71 (fun v7 v8 v9 wx => ∃ q : QS, QAt wx g m q ∧ AInv q ∧ Only (fun _ => False) W wx)
  case first =>
   go_wp2_with fail
   go_loopw [7] (fun iv wr => ∃ (k : Nat) (q : QS), iv = .int .i64 k ∧ k ≤ n ∧ k ≤ 30 ∧ QAt wr g m q ∧ AInv q ∧ Only (fun _ => False) W wr) (fun i _ => 40 - (intOf i).toNat)
   case atStart => exact ⟨0, q0, rfl, by omega, by omega, hQ, hAI, hO⟩
   case round =>
     clear hQ hAI hO hg2
     obtain ⟨k, q, rfl, hkn, hk30, hQ, hAI, hO⟩ := hrel
     by_cases hin : k < n ∧ k < 30
     · obtain ⟨hin, hi30⟩ := hin
       obtain ⟨b, off, rfl, hbW, hat⟩ := HAT.out (by omega)
       have hc := HPC.out k hin
       have hc0 := hat k hin 0 (by decide)
       have hc1 := hat k hin 1 (by decide)
       rw [hc.1] at hc0 hc1
       simp only [List.getElem?_cons_zero, List.getElem?_cons_succ, Nat.add_zero, List.length_cons, List.length_nil, Nat.zero_add, Nat.reduceAdd] at hc0 hc1
       obtain ⟨_, wa, wb, _⟩ := hc
       generalize pa k = xa at hc0 wa
       generalize pb k = xb at hc1 wb
       have hbl := hO.block b hbW (fun h => h)
       have y0 : wr.cell? ⟨b, off + k * 3, none⟩ = some (.int .i64 xa) := by
         rw [World.cell?_of_block (w := W) (w' := wr) (a := ⟨b, off + k * 3, none⟩) hbl]; exact hc0
       have y1 : wr.cell? ⟨b, off + k * 3 + 1, none⟩ = some (.int .i64 xb) := by
         rw [World.cell?_of_block (w := W) (w' := wr) (a := ⟨b, off + k * 3 + 1, none⟩) hbl]; exact hc1
       clear hat hc0 hc1 hbl
       go_wp2_with fail
       refine (among_any xa 90 wr wa (by decide) (by decide)).mono ?_
       rintro e _ ⟨rfl, rfl⟩
       have p0 := Int.emod_nonneg xa (show (90 : Int) ≠ 0 by decide)
       have p1 := Int.emod_lt_of_pos xa (show (0 : Int) < 90 by decide)
       generalize xa % 90 = u at p0 p1 ⊢
       obtain ⟨x, rfl⟩ := Int.eq_ofNat_of_zero_le p0
       clear p0 wa
       go_wp2_with fail
       refine (add_ok 4294967276 (1 + (x : Int)) wr (by decide) (by decide) (by omega) (by omega)).mono ?_
       rintro e _ ⟨rfl, rfl⟩
       have a0 := Int.emod_nonneg (4294967276 + (1 + (x : Int))) (show (4294967296 : Int) ≠ 0 by decide)
       have a1 := Int.emod_lt_of_pos (4294967276 + (1 + (x : Int))) (show (0 : Int) < 4294967296 by decide)
       have HP := Lib.hid (hAI.put x (by omega))
       generalize (4294967276 + (1 + (x : Int))) % 4294967296 = at_ at a0 a1 HP ⊢
       go_wp2_with fail
       refine (among_any xb 40 wr wb (by decide) (by decide)).mono ?_
       rintro e _ ⟨rfl, rfl⟩
       have p0 := Int.emod_nonneg xb (show (40 : Int) ≠ 0 by decide)
       have p3 := Int.emod_lt_of_pos xb (show (0 : Int) < 40 by decide)
       generalize xb % 40 = u at p0 p3 ⊢
       obtain ⟨ln, rfl⟩ := Int.eq_ofNat_of_zero_le p0
       clear wb y0 y1
       have hX := xs40_cut ln (by omega)
       have hsz : (ByteArray.mk #[120, 120, 120, 120, 120, 120, 120, 120, 120, 120, 120, 120, 120, 120, 120, 120, 120, 120, 120, 120, 120, 120, 120, 120, 120, 120, 120, 120, 120, 120, 120, 120, 120, 120, 120, 120, 120, 120, 120, 120]).size = 40 := xs40_size
       go_wp2_with fail
       have hI5 := HP.out _ hX.1 hX.2
       refine (put_any wr g m q at_ (xs40.extract 0 ln) hQ a0 a1 (by have := hX.1; omega) hAI.inv.n0 hAI.inv.n1 hAI.inv.sz hAI.inv.r2 hAI.inv.len).mono ?_
       rintro e w5 ⟨rfl, hQ5, hk5⟩
       have hO5 : Only (fun _ => False) W w5 := hO.then hk5 (fun i hi e => by omega)
       clear hX hsz HP hk5 a0 a1 hQ hAI hO
       generalize q.put at_ (xs40.extract 0 ln) = q5 at hQ5 hI5
       generalize q.came at_ (xs40.extract 0 ln) = c5
       go_wp2_with fail
       go_roundw
       case rel => exact ⟨k + 1, q5, by go_num, by omega, by omega, hQ5, hI5, hO5⟩
       case measure => simp [intOf]; omega
     · by_cases hkn' : k < n
       all_goals
         go_wp2_with fail
         go_meet
         case rel => exact ⟨q, hQ, hAI, hO⟩
  case rest =>
    obtain ⟨q, hQ, hAI, hO⟩ := hcut
    clear HPC HAT
    generalize wc = wr at hQ hAI hO ⊢
    go_wp2_with fail
    refine (apart_any wr g m q 99 hQ hAI.inv.n0 hAI.inv.n1 hAI.inv.len hAI.inv.keys).mono ?_
    rintro e w3 ⟨ba, bcap, rfl, hR, hk3⟩
    have hgB : g < wr.heap.size ∧ m < wr.heap.size := hQ.lt
    have hQ3 := hQ.keep hk3
    have hO3 := hO.trans hk3
    obtain ⟨_, _, hRO⟩ := hAI.far
    have hLl := runs_length q.far q.far.length
    have hfl := far_length q
    have hal := hAI.alen
    have hSL : q.stretches.length = (runs q.far q.far.length).length := by unfold QS.stretches; rw [List.length_map]
    have hmany : (mx 0 (mn 99 (q.stretches.length : Int))).toNat = q.stretches.length := by
      unfold mx mn
      split <;> (try split) <;> omega
    rw [hmany, List.take_of_length_le (Nat.le_refl _)] at hR
    rw [hmany]
    have hST : q.stretches = (runs q.far q.far.length).map (told q.next) := rfl
    generalize hL : runs q.far q.far.length = L at hRO hLl hSL hST
    generalize hS : q.stretches = S at hR hSL hST ⊢
    have HL := Lib.hid hL
    have HS := Lib.hid hS
    have HST := Lib.hid hST
    have HRO := Lib.hid hRO
    have HSL := Lib.hid hSL
    generalize hnl : S.length = nl at *
    have hnl80 : nl ≤ 80 := by omega
    have HNL := Lib.hid hnl
    clear hL hS hST hRO hSL hmany hfl hal hLl hnl hk3 hQ hO
    generalize hB : wr.heap.size = B at *
    clear hB
    go_wp2_with fail
    go_loopw [11, 76] (fun lv iv wq => ∃ (i : Nat) (la : Int), lv = .int .i64 la ∧ iv = .int .i64 i ∧ i ≤ nl ∧ (la = if i = 0 then 0 else (L.getD (i - 1) (0, 0)).2) ∧ QAt wq g m q ∧ RangesAt wq B ba S ∧ Only (fun _ => False) W wq) (fun _ i _ => nl - (intOf i).toNat)
    case atStart => exact ⟨0, 0, rfl, rfl, by omega, rfl, hQ3, hR, hO3⟩
    case round =>
      clear hQ3 hR hO3
      obtain ⟨i, la, rfl, rfl, hin2, hla, hQ, hR, hO⟩ := hrel
      by_cases hlt : i < nl
      · obtain ⟨gb, rfl, hgb0, hgb1, y0, y1⟩ := hR.at_ i (by rw [HNL.out]; exact hlt)
        have hil : i < L.length := by rw [← HSL.out]; exact hlt
        have hpm : L.getD i (0, 0) ∈ L := by rw [List.getD_eq_getElem?_getD, List.getElem?_eq_getElem hil]; exact List.getElem_mem _
        have hpe : S.getD i (0, 0) = told q.next (L.getD i (0, 0)) := by
          rw [HST.out, List.getD_eq_getElem?_getD, List.getElem?_map, List.getD_eq_getElem?_getD, List.getElem?_eq_getElem hil]
          rfl
        have hup : la < (L.getD i (0, 0)).1 := by
          rw [hla]
          split
          · have := (HRO.out.each _ hpm).1; omega
          · have h1 := List.pairwise_iff_getElem.1 HRO.out.up (i - 1) i (by omega) hil (by omega)
            rw [List.getD_eq_getElem?_getD, List.getElem?_eq_getElem (by omega), List.getD_eq_getElem?_getD, List.getElem?_eq_getElem hil]
            exact h1
        obtain ⟨e1, e2, e3, e4⟩ := HRO.out.each _ hpm
        rw [hpe] at y0 y1
        have hLP : (L.getD i (0, 0)).2 = (L.getD (i + 1 - 1) (0, 0)).2 := rfl
        have HLP := Lib.hid hLP
        clear hLP hpe hpm
        generalize L.getD i (0, 0) = p at hup e1 e2 e3 e4 y0 y1 HLP
        obtain ⟨pa', pb'⟩ := p
        obtain ⟨x, rfl⟩ := Int.eq_ofNat_of_zero_le (show 0 ≤ pa' by simp only at e1; omega)
        obtain ⟨z, rfl⟩ := Int.eq_ofNat_of_zero_le (show 0 ≤ pb' by simp only at e1 e2; omega)
        simp only at e1 e2 e3 e4 hup
        unfold told at y0 y1
        simp only [hAI.next] at y0 y1
        have d1 : ((4294967276 + (x : Int)) % 4294967296 - 4294967276) % 4294967296 = (x : Int) := by omega
        have d2 : ((4294967276 + (z : Int)) % 4294967296 - 4294967276) % 4294967296 = (z : Int) := by omega
        have f0 := Int.emod_nonneg (4294967276 + (x : Int)) (show (4294967296 : Int) ≠ 0 by decide)
        have f1 := Int.emod_lt_of_pos (4294967276 + (x : Int)) (show (0 : Int) < 4294967296 by decide)
        have f2 := Int.emod_nonneg (4294967276 + (z : Int)) (show (4294967296 : Int) ≠ 0 by decide)
        have f3 := Int.emod_lt_of_pos (4294967276 + (z : Int)) (show (0 : Int) < 4294967296 by decide)
        have HAG : Hid (∀ s : ByteArray, x + s.size ≤ z → q.put ((4294967276 + (x : Int)) % 4294967296) s = q) := Lib.hid (fun s hs => hAI.again x z s hs (by omega) (fun d h1 h2 => e4 d (by omega) (by omega)))
        generalize (4294967276 + (x : Int)) % 4294967296 = fr at d1 f0 f1 y0 HAG
        generalize (4294967276 + (z : Int)) % 4294967296 = tt at d2 f2 f3 y1
        have HD1 := Lib.hid d1
        have HD2 := Lib.hid d2
        clear d1 d2 e4 hla
        go_wp2_with fail
        have hka := (Only.refl (fun _ => False) wr).alloc (.cells #[.int .i64 fr, .int .i64 tt] 37)
        have hp := blk_new wr (.cells #[.int .i64 fr, .int .i64 tt] 37)
        have hbp : g < wr.heap.size ∧ m < wr.heap.size := hQ.lt
        have HQ := Lib.hid (hQ.keep hka)
        have HR := Lib.hid (hR.keep hka (fun _ _ _ h => h))
        have HO := Lib.hid (hO.trans hka)
        clear hQ hR hO hka y0 y1 hgb0 hgb1
        generalize wr.alloc (.cells #[.int .i64 fr, .int .i64 tt] 37) = wa at hp HQ HR HO ⊢
        generalize wr.heap.size = pp at hp hbp ⊢
        have z0 := blk_cell hp 0
        have z1 := blk_cell hp 1
        simp only [List.getElem?_toArray, List.getElem?_cons_zero, List.getElem?_cons_succ] at z0 z1
        have hNx : ∀ w, QAt w g m q → Calls Try.prog 14 #[.pointer (some ⟨g, 0, none⟩)] w fun e w' => e = .returned (.int .i64 4294967276) ∧ w = w' := fun w hw => by
          have := qnext w g m q hw
          rw [hAI.next] at this
          exact this
        have hDf : ∀ w, Calls Try.prog 13 #[.int .i64 4294967276, .int .i64 fr] w fun e w' => e = .returned (.tuple #[.int .i64 (x : Int), .int .i64 0]) ∧ w = w' := fun w => by
          have := distance_ok 4294967276 fr w (by decide) (by decide) f0 f1
          rw [HD1.out] at this
          exact this
        have hDt : ∀ w, Calls Try.prog 13 #[.int .i64 4294967276, .int .i64 tt] w fun e w' => e = .returned (.tuple #[.int .i64 (z : Int), .int .i64 0]) ∧ w = w' := fun w => by
          have := distance_ok 4294967276 tt w (by decide) (by decide) f2 f3
          rw [HD2.out] at this
          exact this
        go_quiet ((first
          | (go_at_call 14; exact Calls.quiet_of_same ((hNx _ (HQ.out.keep ((Only.refl _ wa).drewN _))).mono fun _ _ x => ⟨x.1, x.2.symm⟩))
          | (go_at_call 13; exact Calls.quiet_of_same ((hDf _).mono fun _ _ x => ⟨x.1, x.2.symm⟩))))
        replace HQ := Lib.hid (HQ.out.keep ((Only.refl (fun _ => False) wa).drewN nq))
        replace HR := Lib.hid (HR.out.keep ((Only.refl (fun _ => False) wa).drewN nq) (fun _ _ _ h => h))
        replace HO := Lib.hid (HO.out.drewN nq)
        replace z0 : (wa.drewN nq).cell? ⟨pp, 0, none⟩ = some (.int .i64 fr) := z0
        replace z1 : (wa.drewN nq).cell? ⟨pp, 1, none⟩ = some (.int .i64 tt) := z1
        clear hp
        generalize wa.drewN nq = wb at HQ HR HO z0 z1 ⊢
        go_wp2_with fail
        go_quiet ((first
          | (go_at_call 14; exact Calls.quiet_of_same ((hNx _ (HQ.out.keep ((Only.refl _ wb).drewN _))).mono fun _ _ x => ⟨x.1, x.2.symm⟩))
          | (go_at_call 13; exact Calls.quiet_of_same ((hDt _).mono fun _ _ x => ⟨x.1, x.2.symm⟩))))
        replace HQ := Lib.hid (HQ.out.keep ((Only.refl (fun _ => False) wb).drewN nq))
        replace HR := Lib.hid (HR.out.keep ((Only.refl (fun _ => False) wb).drewN nq) (fun _ _ _ h => h))
        replace HO := Lib.hid (HO.out.drewN nq)
        replace z0 : (wb.drewN nq).cell? ⟨pp, 0, none⟩ = some (.int .i64 fr) := z0
        generalize wb.drewN nq = wc at HQ HR HO z0 ⊢
        clear hNx hDf hDt z1 HD1 HD2
        have HWn : Calls Try.prog 15 #[.pointer (some ⟨g, 0, none⟩)] wc fun e w' => e = .returned (.int .i64 80) ∧ ∃ n, w' = wc.drewN n := by
          have := qwindow wc g m q HQ.out hAI.inv.sz hAI.inv.r2
          rw [hAI.room, hAI.size] at this
          exact this
        have dg1 : decide ((x : Int) ≤ la) = false := decide_eq_false (by omega)
        have dg2 : decide (z ≤ x) = false := decide_eq_false (by omega)
        go_wp2_with fail
        refine HWn.mono ?_
        rintro e wd ⟨rfl, n4, rfl⟩
        replace HQ := Lib.hid (HQ.out.keep ((Only.refl (fun _ => False) wc).drewN n4))
        replace HR := Lib.hid (HR.out.keep ((Only.refl (fun _ => False) wc).drewN n4) (fun _ _ _ h => h))
        replace HO := Lib.hid (HO.out.drewN n4)
        replace z0 : (wc.drewN n4).cell? ⟨pp, 0, none⟩ = some (.int .i64 fr) := z0
        generalize wc.drewN n4 = wd at HQ HR HO z0 ⊢
        clear HWn
        by_cases hbig : T.size ≤ 200
        · go_wp2_with fail
          have hen : ∃ en : Nat, mn (T.size : Int) ((z : Int) - (x : Int)) = (en : Int) ∧ x + en ≤ z ∧ en ≤ T.size := ⟨min T.size (z - x), by unfold mn; split <;> omega, by omega, by omega⟩
          obtain ⟨en, he1, he2, he3⟩ := hen
          have hwr : IntKind.i64.wrap ((z : Int) - (x : Int)) = (z : Int) - (x : Int) := by rw [IntKind.wrap_i64]; omega
          have i1 : (en : Int) ≤ (T.size : Int) := by omega
          --DEV<
          refine wp_region_still_tail 11 (by kernel_rfl) (by kernel_rfl) ?_
          simp only [List.take_succ_cons, List.take_zero, List.drop_succ_cons, List.drop_zero]
          change wpStill _ _ (wd.drew) (fun a' => wpList _ _ _ _ _ (wd.drew)) _ _
          replace HQ : Hid (QAt wd.drew g m q) := Lib.hid (HQ.out.keep ((Only.refl (fun _ => False) wd).drewN 1))
          replace HR : Hid (RangesAt wd.drew B (some ⟨gb, 0, none⟩) S) := Lib.hid (HR.out.keep ((Only.refl (fun _ => False) wd).drewN 1) (fun _ _ _ h => h))
          replace HO : Hid (Only (fun _ => False) W wd.drew) := Lib.hid (HO.out.drewN 1)
          replace z0 : wd.drew.cell? ⟨pp, 0, none⟩ = some (.int .i64 fr) := z0
          generalize wd.drew = we at HQ HR HO z0 ⊢
          repeat still_step
          refine wpStill_nil ?_
          have hsz : x + (T.extract 0 en).size ≤ z := by rw [ByteArray.size_extract]; omega
          have hag := HAG.out _ hsz
          have hsz2 : (T.extract 0 en).size ≤ 65536 := by omega
          clear he1 hwr i1 z0
          generalize T.extract 0 en = X at hag hsz2 ⊢
          go_wp2_with fail
          refine (put_any we g m q fr X HQ.out f0 f1 hsz2 hAI.inv.n0 hAI.inv.n1 hAI.inv.sz hAI.inv.r2 hAI.inv.len).mono ?_
          rintro e wf ⟨rfl, hQ5, hk5⟩
          rw [hag] at hQ5
          have hR5 := HR.out.keep hk5 (fun k hk _ e => by omega)
          have hO5 : Only (fun _ => False) W wf := HO.out.then hk5 (fun k hk e => by omega)
          clear hag hk5
          generalize q.came fr X = c5
          go_wp2_with fail
          go_roundw
          case rel => exact ⟨i + 1, (z : Int), rfl, by go_num, by omega, by rw [if_neg (by omega)]; exact HLP.out, hQ5, hR5, hO5⟩
          case measure => simp [intOf]; omega
          --DEV>
        · go_wp2_with fail
          go_roundw
          case rel => exact ⟨i + 1, (z : Int), rfl, by go_num, by omega, by rw [if_neg (by omega)]; exact HLP.out, HQ.out, HR.out, HO.out⟩
          case measure => simp [intOf]; omega
      · obtain rfl : i = nl := by omega
        clear hla
        have hmany : (mx 0 (mn 99 (q.stretches.length : Int))).toNat = i := by
          have h1 := HNL.out
          rw [HS.out]
          unfold mx mn
          split <;> (try split) <;> omega
        go_wp2_with fail
        refine (apart_any wr g m q 99 hQ hAI.inv.n0 hAI.inv.n1 hAI.inv.len hAI.inv.keys).mono ?_
        rintro e w4 ⟨bb, bcap2, rfl, hR4, hk4⟩
        rw [hmany, HS.out, List.take_of_length_le (Nat.le_of_eq HNL.out)] at hR4
        rw [hmany]
        replace hQ := hQ.keep hk4
        replace hR := hR.keep hk4 (fun _ _ _ h => h)
        replace hO := hO.trans hk4
        clear hk4 hmany
        have HSM := (same_any w4 bb ba i i bcap2 bcap S S _ _ HNL.out HNL.out (by omega) (by omega) hR4 hR)
        rw [decide_eq_true rfl] at HSM
        go_wp2_with fail
        refine HSM.mono ?_
        clear HSM hR4
        rintro e w5 ⟨rfl, hk5⟩
        replace hQ := hQ.keep hk5
        replace hR := hR.keep hk5 (fun _ _ _ h => h)
        replace hO := hO.trans hk5
        clear hk5
        have HQ := Lib.hid hQ
        have HR := Lib.hid hR
        have HO := Lib.hid hO
        clear hQ hR hO
        go_wp2_with fail
        go_loopw [18, 140] (fun yv jv wy => ∃ j : Nat, yv = .string (ysN j) ∧ jv = .int .i64 j ∧ j ≤ 90 ∧ wy = w5) (fun _ j _ => 90 - (intOf j).toNat)
        case atStart => exact ⟨0, rfl, rfl, by omega, rfl⟩
        case round =>
          obtain ⟨j, rfl, rfl, hj, rfl⟩ := hrel
          by_cases hjl : j < 90
          · have hcat : ¬ 9223372036854775807 < (ysN j).size + (⟨#[121]⟩ : ByteArray).size := by
              rw [ysN_size]
              have : (⟨#[121]⟩ : ByteArray).size = 1 := rfl
              omega
            have hadd := ysN_add j
            go_wp2_with fail
            go_roundw
            case rel => exact ⟨j + 1, rfl, by go_num, by omega, by first | rfl | trivial⟩
            case measure => simp [intOf]; omega
          · obtain rfl : j = 90 := by omega
            have hNx : Calls Try.prog 14 #[.pointer (some ⟨g, 0, none⟩)] wr fun e w' => e = .returned (.int .i64 4294967276) ∧ wr = w' := by
              have := qnext wr g m q HQ.out
              rw [hAI.next] at this
              exact this
            have hF := hAI.fill (ysN 90) (ysN_size 90) (fun j hj => ysN_at 90 j hj)
            have hys := ysN_size 90
            have HY := Lib.hid (show (ysN 90).size ≤ 65536 by omega)
            generalize ysN 90 = Y at hF HY hys ⊢
            clear hys
            go_wp2_with fail
            refine hNx.mono ?_
            rintro e _ ⟨rfl, rfl⟩
            clear hNx
            go_wp2_with fail
            refine (put_any wr g m q 4294967276 Y HQ.out (by decide) (by decide) HY.out hAI.inv.n0 hAI.inv.n1 hAI.inv.sz hAI.inv.r2 hAI.inv.len).mono ?_
            rintro e w6 ⟨rfl, hQ6, hk6⟩
            have HR6 := Lib.hid (HR.out.keep hk6 (fun k hk _ e => by omega))
            have HO6 := Lib.hid (show Only (fun _ => False) W w6 from HO.out.then hk6 (fun k hk e => by omega))
            clear HR HO HQ hk6 HY
            generalize q.put 4294967276 Y = q2 at hQ6 hF
            generalize q.came 4294967276 Y = c6
            obtain ⟨hI6, hA6, hr6, hs6, hb6⟩ := hF
            have hmy : q2.many 80 = 80 := by unfold QS.many mx mn; rw [hs6]; rfl
            go_wp2_with fail
            refine (qread w6 g m q2 80 hQ6 (by omega)).mono ?_
            rintro e w7 ⟨rfl, hQ7, hk7⟩
            have HR7 := Lib.hid (HR6.out.keep hk7 (fun k hk _ e => by omega))
            have HO7 := Lib.hid (show Only (fun _ => False) W w7 from HO6.out.then hk7 (fun k hk e => by omega))
            have hI7 := (hI6.read 80).1
            have hA7 : (q2.read 80).A = [] := hA6
            rw [hmy]
            rw [show q2.s.extract 0 80 = q2.s from by rw [← hs6]; exact ByteArray.extract_zero_size]
            clear HR6 HO6 hQ6 hk7 hA6 hr6 hmy hI6
            generalize q2.read 80 = q3 at hQ7 hI7 hA7
            generalize q2.s = X at hs6 hb6 ⊢
            have HB := Lib.hid hb6
            have HQ7 := Lib.hid hQ7
            have HI7 := Lib.hid hI7
            have HA7 := Lib.hid hA7
            clear hb6 hQ7 hI7 hA7
            have hs6' : (X.size : Int) = 80 := by omega
            have HS6 := Lib.hid hs6
            clear hs6
            go_wp2_with fail
            go_loopw [20, 157] (fun mv jv wy => ∃ j : Nat, mv = .int .i64 (q.far.countP (fun d => decide (d < (j : Int))) : Nat) ∧ jv = .int .i64 j ∧ j ≤ 80 ∧ wy = w7) (fun _ j _ => 80 - (intOf j).toNat)
            case atStart => exact ⟨0, by rw [hAI.count.2]; rfl, rfl, by omega, rfl⟩
            case round =>
              obtain ⟨j, rfl, rfl, hj, rfl⟩ := hrel
              by_cases hjl : j < 80
              · have hnx := countP_next q.far (j : Int) ((far_perm q).nodup_iff.2 (far_nodup hAI.inv))
                have hcl : q.far.countP (fun d => decide (d < (j : Int))) ≤ 80 := by
                  have h1 := List.countP_le_length (p := fun d : Int => decide (d < (j : Int))) (l := q.far)
                  have h2 := far_length q
                  have h3 := hAI.alen
                  omega
                rw [show ((j : Int) + 1) = ((j + 1 : Nat) : Int) by omega] at hnx
                have hb := HB.out j hjl
                have hjX : j < X.size := by rw [HS6.out]; exact hjl
                by_cases hm : (j : Int) ∈ q.far
                · rw [if_pos hm] at hnx hb
                  have dX : ((X[j].toNat : Int) == 120) = true := by
                    rw [show X[j].toNat = 120 by rw [← hb, byteX X j hjX]]; rfl
                  have HNX := Lib.hid hnx
                  clear hnx hm hb
                  generalize q.far.countP (fun d => decide (d < (j : Int))) = c1 at hcl HNX ⊢
                  go_wp2_with fail
                  go_roundw
                  case rel => exact ⟨j + 1, by rw [HNX.out]; go_num, by go_num, by omega, by first | rfl | trivial⟩
                  case measure => simp [intOf]; omega
                · rw [if_neg hm] at hnx hb
                  have dX : ((X[j].toNat : Int) == 120) = false := by
                    rw [show X[j].toNat = 121 by rw [← hb, byteX X j hjX]]; rfl
                  have HNX := Lib.hid hnx
                  clear hnx hm hb
                  generalize q.far.countP (fun d => decide (d < (j : Int))) = c1 at hcl HNX ⊢
                  go_wp2_with fail
                  go_roundw
                  case rel => exact ⟨j + 1, by rw [HNX.out]; go_num, by go_num, by omega, by first | rfl | trivial⟩
                  case measure => simp [intOf]; omega
              · obtain rfl : j = 80 := by omega
                rw [hAI.count.1]
                have hfl : q.far.length ≤ 80 := by rw [far_length]; exact hAI.alen
                have hsum := HRO.out.sum
                generalize q.far.length = fl at hfl hsum ⊢
                have HSUM := Lib.hid hsum
                clear hsum hs6'
                go_wp2_with fail
                have hq7 := HQ7.out
                have hr7 := HR7.out
                have ho7 := HO7.out
                go_loopw [22, 169] (fun sv jv wy => ∃ (j : Nat) (sm : Int), sv = .int .i64 sm ∧ jv = .int .i64 j ∧ j ≤ i ∧ sm = ((L.take j).map (fun p => p.2 - p.1)).sum ∧ (0 ≤ sm ∧ sm ≤ 80 * (j : Int)) ∧ QAt wy g m q3 ∧ RangesAt wy B ba S ∧ Only (fun _ => False) W wy) (fun _ j _ => i - (intOf j).toNat)
                case atStart => exact ⟨0, 0, rfl, rfl, by omega, rfl, ⟨by omega, by omega⟩, hq7, hr7, ho7⟩
                case round =>
                  clear hq7 hr7 ho7 HQ7 HR7 HO7
                  obtain ⟨j, sm, rfl, rfl, hj, hsm, ⟨hs0, hs1⟩, hQ, hR, hO⟩ := hrel
                  by_cases hjl : j < i
                  · obtain ⟨gb, rfl, hgb0, hgb1, y0, y1⟩ := hR.at_ j (by rw [HNL.out]; exact hjl)
                    have hil : j < L.length := by rw [← HSL.out]; exact hjl
                    have hpm : L.getD j (0, 0) ∈ L := by rw [List.getD_eq_getElem?_getD, List.getElem?_eq_getElem hil]; exact List.getElem_mem _
                    have hpe : S.getD j (0, 0) = told q.next (L.getD j (0, 0)) := by
                      rw [HST.out, List.getD_eq_getElem?_getD, List.getElem?_map, List.getD_eq_getElem?_getD, List.getElem?_eq_getElem hil]
                      rfl
                    have hsum : ((L.take (j + 1)).map (fun p => p.2 - p.1)).sum = sm + ((L.getD j (0, 0)).2 - (L.getD j (0, 0)).1) := by
                      rw [List.take_add_one, List.map_append, List.sum_append, ← hsm, List.getElem?_eq_getElem hil, List.getD_eq_getElem?_getD, List.getElem?_eq_getElem hil]
                      simp
                    obtain ⟨e1, e2, e3, _⟩ := HRO.out.each _ hpm
                    rw [hpe] at y0 y1
                    have HSU := Lib.hid hsum
                    clear hsum hpe hpm hsm
                    generalize L.getD j (0, 0) = p at e1 e2 e3 y0 y1 HSU
                    obtain ⟨pa', pb'⟩ := p
                    obtain ⟨x, rfl⟩ := Int.eq_ofNat_of_zero_le (show 0 ≤ pa' by simp only at e1; omega)
                    obtain ⟨z, rfl⟩ := Int.eq_ofNat_of_zero_le (show 0 ≤ pb' by simp only at e1 e2; omega)
                    simp only at e1 e2 e3
                    unfold told at y0 y1
                    simp only [hAI.next] at y0 y1
                    have d1 := moddist 4294967276 x z (by omega) (by omega)
                    rw [if_pos (by omega)] at d1
                    have f0 := Int.emod_nonneg (4294967276 + (x : Int)) (show (4294967296 : Int) ≠ 0 by decide)
                    have f1 := Int.emod_lt_of_pos (4294967276 + (x : Int)) (show (0 : Int) < 4294967296 by decide)
                    have f2 := Int.emod_nonneg (4294967276 + (z : Int)) (show (4294967296 : Int) ≠ 0 by decide)
                    have f3 := Int.emod_lt_of_pos (4294967276 + (z : Int)) (show (0 : Int) < 4294967296 by decide)
                    generalize (4294967276 + (x : Int)) % 4294967296 = fr at d1 f0 f1 y0
                    generalize (4294967276 + (z : Int)) % 4294967296 = tt at d1 f2 f3 y1
                    have HDD : ∀ w, Calls Try.prog 13 #[.int .i64 fr, .int .i64 tt] w fun e w' => e = .returned (.tuple #[.int .i64 ((z : Int) - (x : Int)), .int .i64 0]) ∧ w = w' := fun w => by
                      have := distance_ok fr tt w f0 f1 f2 f3
                      rw [d1, show ((z - x : Nat) : Int) = (z : Int) - (x : Int) by omega] at this
                      exact this
                    clear d1
                    go_wp2_with fail
                    have hka := (Only.refl (fun _ => False) wr).alloc (.cells #[.int .i64 fr, .int .i64 tt] 37)
                    have hp := blk_new wr (.cells #[.int .i64 fr, .int .i64 tt] 37)
                    have HQ := Lib.hid (hQ.keep hka)
                    have HR := Lib.hid (hR.keep hka (fun _ _ _ h => h))
                    have HO := Lib.hid (hO.trans hka)
                    clear hQ hR hO hka y0 y1 hgb0 hgb1
                    generalize wr.alloc (.cells #[.int .i64 fr, .int .i64 tt] 37) = wa at hp HQ HR HO ⊢
                    generalize wr.heap.size = pp at hp ⊢
                    have z0 := blk_cell hp 0
                    have z1 := blk_cell hp 1
                    simp only [List.getElem?_toArray, List.getElem?_cons_zero, List.getElem?_cons_succ] at z0 z1
                    refine (HDD wa).mono ?_
                    rintro e _ ⟨rfl, rfl⟩
                    clear hp z0 z1 HDD
                    go_wp2_with fail
                    go_roundw
                    case rel =>
                      (repeat apply Exists.intro)
                      refine And.intro ?_ rfl
                      exact ⟨j + 1, sm + ((z : Int) - (x : Int)), by go_num, by go_num, by omega, HSU.out.symm, ⟨by omega, by omega⟩, HQ.out, HR.out, HO.out⟩
                    case measure => simp [intOf]; omega
                  · obtain rfl : j = i := by omega
                    have htot : sm = (fl : Int) := by
                      rw [hsm, ← HSUM.out, List.take_of_length_le (Nat.le_of_eq HSL.out.symm)]
                    clear hsm
                    subst htot
                    have HS9 : q3.stretches = [] := by
                      unfold QS.stretches QS.far
                      rw [HA7.out, List.map_nil, List.mergeSort_nil]
                      rfl
                    have HAP := apart_any wr g m q3 9 hQ HI7.out.n0 HI7.out.n1 HI7.out.len HI7.out.keys
                    rw [HS9] at HAP
                    have deq : (fl == fl) = true := by simp
                    clear HS9 hR
                    go_wp2_with fail
                    refine HAP.mono ?_
                    rintro e w9 ⟨bz, cz, rfl, _, hk9⟩
                    clear HAP
                    rw [show (mx 0 (mn 9 (([] : List (Int × Int)).length : Int))).toNat = 0 from rfl]
                    have hO9 := hO.trans hk9
                    clear hO hk9
                    go_wp2_with fail
                    go_ret
                    exact ⟨rfl, hO9.below (Nat.le_refl _) (fun _ _ h => h)⟩

end Go.Proofs.Ytbpmbmidjdhbpaa

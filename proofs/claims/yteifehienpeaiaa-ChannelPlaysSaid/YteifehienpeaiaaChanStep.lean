/-
  An act of the law ChannelPlays, at an end and at the reference end that is in the same state.
  Conditions: fewer than a hundred acts; texts within the form's reach.
-/
import Derived.Test.YteifehienpeaiaaChanTwin
import Derived.Test.YteifehienpeaiaaEnc
import Derived.StillTailTactics
import Derived.Deep.RegionWith
set_option linter.unusedVariables false
set_option linter.unusedSimpArgs false
set_option maxRecDepth 100000
namespace Go.Proofs.Yteifehienpeaiaa
open Go.RowKit

theorem encB_size (k e r n a : Int) (d : ByteArray) (h : d.size ≤ 1000) : (encB k e r n a d).size ≤ 140737488355328 := by
  unfold encB
  split
  · rw [let_size]; omega
  · decide
theorem letter_ne {w : World} {lb b : Nat} {cs cur : Array Value} (hz : w.heap[lb]? = some (.cells cs 23 (0, 0))) (hb : w.heap[b]? = some (.cells cur 135 (0, 0))) : b ≠ lb := by
  intro e
  rw [e, hz] at hb
  injection hb with hb
  injection hb with _ hb
  revert hb
  decide
/-- Blocks that are neither's, and new, may turn. -/
theorem TwinS.lift {W w w' : World} {g mo me r a : Nat} {s : CS} {S : Nat → Prop} (h : TwinS W w g mo me r a s) (hk : Only S w w') (h1 : ∀ k, Foot g mo me s.O k → ¬ S k) (h2 : ¬ S r) (h3 : ∀ b cur, w.heap[b]? = some (.cells cur 135 (0, 0)) → ¬ S b) (h4 : ∀ k, S k → W.heap.size ≤ k) : TwinS W w' g mo me r a s :=
  ⟨h.c.only hk h1, h.f.only hk h2 h3, h.inv, h.new, h.rnew, h.only.then hk (fun k h5 h6 => by have := h4 k h6; omega)⟩

set_option maxHeartbeats 4000000 in
theorem cstep_any (W w0 : World) (g mo me r a : Nat) (hT : TwinC W w0 g mo me r a) (ha : a < 100) (kd by_ n lk le lr ln la now : Int) (tx ld : ByteArray) (near : Bool) (wk : (Lit.int .i64 kd).wf = true) (wn : (Lit.int .i64 ln).wf = true) (wa : (Lit.int .i64 la).wf = true) (hs : tx.size ≤ 140737488355328) (hld : ld.size ≤ 1000) :
    Calls Try.prog 31 #[.pointer (some ⟨g, 0, none⟩), .pointer (some ⟨r, 0, none⟩), .agg #[.int .i64 kd, .int .i64 by_, .int .i64 n, .string tx, .int .i64 lk, .int .i64 le, .int .i64 lr, .int .i64 ln, .int .i64 la, .string ld, .bool near], .int .i64 now] w0 fun e w' => e = .returned (.bool true) ∧ TwinC W w' g mo me r (a + 1) := by
  obtain ⟨s, hT⟩ := hT
  have hk0 := (Only.refl (fun _ => False) w0).alloc (.cells #[.int .i64 kd, .int .i64 by_, .int .i64 n, .string tx, .int .i64 lk, .int .i64 le, .int .i64 lr, .int .i64 ln, .int .i64 la, .string ld, .bool near] 71)
  have hbx := blk_new w0 (.cells #[.int .i64 kd, .int .i64 by_, .int .i64 n, .string tx, .int .i64 lk, .int .i64 le, .int .i64 lr, .int .i64 ln, .int .i64 la, .string ld, .bool near] 71)
  have hT1 := hT.keep hk0
  have hp : ∀ k, Foot g mo me s.O k → k < w0.heap.size := hT.c.lt
  have hpr : r < w0.heap.size := hT.f.lt
  have hpf : ¬ Foot g mo me s.O w0.heap.size := fun h => by have := hp _ h; omega
  have hprf : ¬ w0.heap.size = r := by omega
  have HPF := Lib.hid hpf
  have HBX := Lib.hid hbx
  have HT := Lib.hid hT1
  clear hT hk0 hbx hT1 hp hpf
  have hm : kd % 5 = 0 ∨ kd % 5 = 1 ∨ kd % 5 = 2 ∨ kd % 5 = 3 ∨ kd % 5 = 4 := by omega
  go_enter Try.func31, Try.ntmps31
  go_wp2_with fail
  refine (among_any kd 5 _ wk (by decide) (by decide)).mono ?_
  rintro e _ ⟨rfl, rfl⟩
  have x2 := (blk_cell HBX.out 2).trans (show _ = some (.int .i64 n) from rfl)
  have x3 := (blk_cell HBX.out 3).trans (show _ = some (.string tx) from rfl)
  have x4 := (blk_cell HBX.out 4).trans (show _ = some (.int .i64 lk) from rfl)
  have x5 := (blk_cell HBX.out 5).trans (show _ = some (.int .i64 le) from rfl)
  have x6 := (blk_cell HBX.out 6).trans (show _ = some (.int .i64 lr) from rfl)
  have x7 := (blk_cell HBX.out 7).trans (show _ = some (.int .i64 ln) from rfl)
  have x8 := (blk_cell HBX.out 8).trans (show _ = some (.int .i64 la) from rfl)
  have x9 := (blk_cell HBX.out 9).trans (show _ = some (.string ld) from rfl)
  have x10 := (blk_cell HBX.out 10).trans (show _ = some (.bool near) from rfl)
  clear HBX
  generalize w0.alloc (.cells #[.int .i64 kd, .int .i64 by_, .int .i64 n, .string tx, .int .i64 lk, .int .i64 le, .int .i64 lr, .int .i64 ln, .int .i64 la, .string ld, .bool near] 71) = w1 at HT x2 x3 x4 x5 x6 x7 x8 x9 x10 ⊢
  rcases hm with hm | hm | hm | hm | hm
  · rw [hm]
    clear hm x2 x4 x5 x6 x7 x8 x9 x10
    go_wp2_with fail
    refine (twin_send HT.out (by omega) tx now hs).mono ?_
    rintro e w2 ⟨S, c, rfl, hk2, hC⟩
    have y3 := cell_only hk2 HPF.out x3
    have HC := Lib.hid hC
    clear hC x3 hk2
    go_wp2_with fail
    refine HC.out.mono ?_
    rintro e w3 ⟨rfl, hk3, hT3⟩
    have HT3 := Lib.hid hT3
    have hSS : (S.toList == S.toList) = true := by simp
    clear hT3 hk3 y3
    go_wp2_with fail
    go_ret
    exact ⟨rfl, HT3.out⟩
  · rw [hm]
    clear hm x2 x3
    have hk2 := (Only.refl (fun _ => False) w1).alloc (.cells #[.int .i64 lk, .int .i64 le, .int .i64 lr, .int .i64 ln, .int .i64 la, .string ld] 23)
    have hz := blk_new w1 (.cells #[.int .i64 lk, .int .i64 le, .int .i64 lr, .int .i64 ln, .int .i64 la, .string ld] 23)
    have HT2 := Lib.hid (HT.out.keep hk2)
    have y10 := cell_only hk2 (fun h => h) x10
    have hll : ¬ Foot g mo me s.O w1.heap.size := fun h => by have := HT.out.c.lt _ h; omega
    have hlr : ¬ w1.heap.size = r := by have := HT.out.f.lt; omega
    have HLB := Lib.hid (And.intro hll hlr)
    have HNB : Hid (∀ k, k = w1.heap.size → W.heap.size ≤ k) := Lib.hid (fun k e => by have := HT.out.only.size; omega)
    clear hll hlr hk2
    go_upto_region 8 with fail
    generalize w1.alloc (.cells #[.int .i64 lk, .int .i64 le, .int .i64 lr, .int .i64 ln, .int .i64 la, .string ld] 23) = w2 at hz HT2 y10 ⊢
    generalize w1.heap.size = lb at hz HLB HNB ⊢
    clear x4 x5 x6 x7 x8 x9 x10 HT
    cases near with
    | false =>
      have z0 := (blk_cell hz 0).trans (show _ = some (.int .i64 lk) from rfl)
      have z1 := (blk_cell hz 1).trans (show _ = some (.int .i64 le) from rfl)
      have z2 := (blk_cell hz 2).trans (show _ = some (.int .i64 lr) from rfl)
      have z3 := (blk_cell hz 3).trans (show _ = some (.int .i64 ln) from rfl)
      have z4 := (blk_cell hz 4).trans (show _ = some (.int .i64 la) from rfl)
      have z5 := (blk_cell hz 5).trans (show _ = some (.string ld) from rfl)
      clear hz
      go_wp2_with fail
      refine (rencode_any lk le lr ln la ld _).mono ?_
      rintro e w5 ⟨rfl, hk5⟩
      have HT5 := Lib.hid (HT2.out.keep hk5)
      have HS : Hid ((encB lk le lr ln la ld).size ≤ 140737488355328) := Lib.hid (encB_size _ _ _ _ _ _ (by omega))
      generalize encB lk le lr ln la ld = S at HS ⊢
      clear hk5 z0 z1 z2 z3 z4 z5 y10 HT2
      go_wp2_with fail
      refine (twin_take HT5.out ha S now HS.out).mono ?_
      rintro e w6 ⟨v, L, c, rfl, hk2, hrow, hL, hC⟩
      have HC := Lib.hid hC
      have HROW := Lib.hid hrow
      have HL := Lib.hid hL
      have hsz := hk2.size
      clear hC hk2 hrow hL
      go_wp2_with fail
      refine HC.out.mono ?_
      rintro e w7 ⟨v', rfl, hk3, hrow', hT3⟩
      have hrow3 := row_only HROW.out hk3 (fun k hk e => by have := HT5.out.f.lt; omega)
      have HT3 := Lib.hid hT3
      have HR3 := Lib.hid hrow3
      have HR4 := Lib.hid hrow'
      clear hT3 hk3 hrow3 hrow'
      go_wp2_with fail
      refine (same_rows HR3.out HR4.out (by have := HL.out; omega)).mono ?_
      rintro e w8 ⟨rfl, hk4⟩
      obtain ⟨s3, hT3⟩ := HT3.out
      have HT4 := Lib.hid (hT3.keep hk4)
      clear hT3 hk4
      go_wp2_with fail
      go_ret
      exact ⟨rfl, s3, HT4.out⟩
    | true =>
      obtain ⟨wv, yv, wb, eb, hg, _, _⟩ := id HT2.out.f
      have q3 := (blk_cell hg 3).trans (show (s.rcells wv yv)[3]? = some (.int .i64 s.epoch) from rfl)
      have q8 := (blk_cell hg 8).trans (show (s.rcells wv yv)[8]? = some (.int .i64 s.acked) from rfl)
      have q9 := (blk_cell hg 9).trans (show (s.rcells wv yv)[9]? = some (.int .i64 s.taken) from rfl)
      have z1 := (blk_cell hz 1).trans (show _ = some (.int .i64 le) from rfl)
      have f1 := blk_free hz 1
      have hz1 := (blk_set hz 1 (.int .i64 s.epoch)).trans rfl
      have hks := (Only.refl (fun k => k = lb) w2).setCell ⟨lb, 1, none⟩ (.int .i64 s.epoch) (fun _ => rfl)
      have hrl : ¬ r = lb := fun e => HLB.out.2 e.symm
      have hT3 := HT2.out.lift hks (fun k hk e => HLB.out.1 (e ▸ hk)) hrl (fun b cur hb e => letter_ne hz hb e) HNB.out
      have p8 := cell_only hks hrl q8
      have p9 := cell_only hks hrl q9
      have HT3 := Lib.hid hT3
      have bt0 := HT2.out.inv.ok.t0
      have bt1 := HT2.out.inv.ok.t1
      have ba0 := HT2.out.inv.a0
      have ba1 : s.acked ≤ 4294967295 := by have := HT2.out.inv.la; have := HT2.out.inv.l1; omega
      clear hg hT3 hks q8 q9
      go_upto_region 10 with fail
      generalize w2.setCell ⟨lb, 1, none⟩ (.int .i64 s.epoch) = w3 at hz1 HT3 p8 p9 ⊢
      clear hz z1 f1 q3 y10
      have z3 := (blk_cell hz1 3).trans (show _ = some (.int .i64 ln) from rfl)
      have f3 := blk_free hz1 3
      have hwn : IntKind.i64.wrap (s.taken + ln % 80) = s.taken + ln % 80 := by rw [IntKind.wrap_i64]; omega
      refine wp_region_still_tail 9 (by kernel_rfl) (by kernel_rfl) ?_
      simp only [List.take_succ_cons, List.take_zero, List.drop_succ_cons, List.drop_zero]
      change wpStill _ _ (w3.drew) (fun a' => wpList _ _ _ _ _ (w3.drew)) _ _
      have hz3 : w3.drew.heap[lb]? = _ := hz1
      have HT4 := Lib.hid (HT3.out.keep (Only.refl (fun _ => False) w3).drew)
      replace z3 : w3.drew.cell? ⟨lb, 3, none⟩ = _ := z3
      replace p9 : w3.drew.cell? ⟨r, 9, none⟩ = _ := p9
      replace p8 : w3.drew.cell? ⟨r, 8, none⟩ = _ := p8
      have f3d : w3.drew.frozen? ⟨lb, 3, none⟩ = false := f3
      generalize w3.drew = w4 at hz3 HT4 z3 p9 p8 f3d ⊢
      clear hz1 f3 HT3
      repeat still_step
      still_call (among_any ln 80 _ wn (by decide) (by decide)).mono fun e w' h => ⟨h.1, h.2.symm⟩
      repeat still_step
      refine wpStill_nil ?_
      have hks := (Only.refl (fun k => k = lb) w4).setCell ⟨lb, 3, none⟩ (.int .i64 (s.taken + ln % 80)) (fun _ => rfl)
      have hz5 := (blk_set hz3 3 (.int .i64 (s.taken + ln % 80))).trans rfl
      have HT5 := Lib.hid (HT4.out.lift hks (fun k hk e => HLB.out.1 (e ▸ hk)) hrl (fun b cur hb e => letter_ne hz3 hb e) HNB.out)
      have p8b := cell_only hks hrl p8
      clear hks p8
      go_upto_region 11 with fail
      generalize w4.setCell ⟨lb, 3, none⟩ (.int .i64 (s.taken + ln % 80)) = w5 at hz5 HT5 p8b ⊢
      clear z3 p9 f3d hz3 HT4 hwn
      have z4 := (blk_cell hz5 4).trans (show _ = some (.int .i64 la) from rfl)
      have f4 := blk_free hz5 4
      have hwa : IntKind.i64.wrap (s.acked + la % 80) = s.acked + la % 80 := by rw [IntKind.wrap_i64]; omega
      refine wp_region_still_tail 9 (by kernel_rfl) (by kernel_rfl) ?_
      simp only [List.take_succ_cons, List.take_zero, List.drop_succ_cons, List.drop_zero]
      change wpStill _ _ (w5.drew) (fun a' => wpList _ _ _ _ _ (w5.drew)) _ _
      have hz6 : w5.drew.heap[lb]? = _ := hz5
      have HT6 := Lib.hid (HT5.out.keep (Only.refl (fun _ => False) w5).drew)
      replace z4 : w5.drew.cell? ⟨lb, 4, none⟩ = _ := z4
      replace p8b : w5.drew.cell? ⟨r, 8, none⟩ = _ := p8b
      have f4d : w5.drew.frozen? ⟨lb, 4, none⟩ = false := f4
      generalize w5.drew = w6 at hz6 HT6 z4 p8b f4d ⊢
      clear hz5 f4 HT5
      repeat still_step
      still_call (among_any la 80 _ wa (by decide) (by decide)).mono fun e w' h => ⟨h.1, h.2.symm⟩
      repeat still_step
      refine wpStill_nil ?_
      have hks := (Only.refl (fun k => k = lb) w6).setCell ⟨lb, 4, none⟩ (.int .i64 (s.acked + la % 80)) (fun _ => rfl)
      have hz7 := (blk_set hz6 4 (.int .i64 (s.acked + la % 80))).trans rfl
      have HT7 := Lib.hid (HT6.out.lift hks (fun k hk e => HLB.out.1 (e ▸ hk)) hrl (fun b cur hb e => letter_ne hz6 hb e) HNB.out)
      clear hks
      generalize s.taken + ln % 80 = nn at *
      generalize s.acked + la % 80 = na at *
      go_upto_region 12 with fail
      generalize w6.setCell ⟨lb, 4, none⟩ (.int .i64 na) = w9 at hz7 HT7 ⊢
      clear z4 p8b f4d hz6 HT6 hwa
      have z0 := (blk_cell hz7 0).trans (show _ = some (.int .i64 lk) from rfl)
      have z1 := (blk_cell hz7 1).trans (show _ = some (.int .i64 s.epoch) from rfl)
      have z2 := (blk_cell hz7 2).trans (show _ = some (.int .i64 lr) from rfl)
      have z3 := (blk_cell hz7 3).trans (show _ = some (.int .i64 nn) from rfl)
      have z4 := (blk_cell hz7 4).trans (show _ = some (.int .i64 na) from rfl)
      have z5 := (blk_cell hz7 5).trans (show _ = some (.string ld) from rfl)
      clear hz7
      go_wp2_with fail
      refine (rencode_any lk s.epoch lr nn na ld _).mono ?_
      rintro e w10 ⟨rfl, hk5⟩
      have HT5 := Lib.hid (HT7.out.keep hk5)
      have HS : Hid ((encB lk s.epoch lr nn na ld).size ≤ 140737488355328) := Lib.hid (encB_size _ _ _ _ _ _ (by omega))
      generalize encB lk s.epoch lr nn na ld = S at HS ⊢
      clear hk5 z0 z1 z2 z3 z4 z5 HT7
      go_wp2_with fail
      refine (twin_take HT5.out ha S now HS.out).mono ?_
      rintro e w6 ⟨v, L, c, rfl, hk2, hrow, hL, hC⟩
      have HC := Lib.hid hC
      have HROW := Lib.hid hrow
      have HL := Lib.hid hL
      have hsz := hk2.size
      clear hC hk2 hrow hL
      go_wp2_with fail
      refine HC.out.mono ?_
      rintro e w7 ⟨v', rfl, hk3, hrow', hT3⟩
      have hrow3 := row_only HROW.out hk3 (fun k hk e => by have := HT5.out.f.lt; omega)
      have HT3 := Lib.hid hT3
      have HR3 := Lib.hid hrow3
      have HR4 := Lib.hid hrow'
      clear hT3 hk3 hrow3 hrow'
      go_wp2_with fail
      refine (same_rows HR3.out HR4.out (by have := HL.out; omega)).mono ?_
      rintro e w8 ⟨rfl, hk4⟩
      obtain ⟨s3, hT3⟩ := HT3.out
      have HT4 := Lib.hid (hT3.keep hk4)
      clear hT3 hk4
      go_wp2_with fail
      go_ret
      exact ⟨rfl, s3, HT4.out⟩
  · rw [hm]
    clear hm x2 x3 x4 x5 x6 x7 x8 x9 x10
    go_wp2_with fail
    refine (twin_tick HT.out now).mono ?_
    rintro e w2 ⟨v, L, rfl, hk2, hrow, hL, hC⟩
    have HC := Lib.hid hC
    have HROW := Lib.hid hrow
    have HF := Lib.hid HT.out.new
    have HL := Lib.hid hL
    have hsz := hk2.size
    clear hC hk2 hrow hL
    go_wp2_with fail
    refine HC.out.mono ?_
    rintro e w3 ⟨v', rfl, hk3, hrow', hT3⟩
    have hrow3 := row_only HROW.out hk3 (fun k hk e => by have := HT.out.f.lt; omega)
    have HT3 := Lib.hid hT3
    have HR3 := Lib.hid hrow3
    have HR4 := Lib.hid hrow'
    clear hT3 hk3 hrow3 hrow'
    go_wp2_with fail
    refine (same_rows HR3.out HR4.out (by have := HL.out; omega)).mono ?_
    rintro e w4 ⟨rfl, hk4⟩
    obtain ⟨s3, hT3⟩ := HT3.out
    have HT4 := Lib.hid (hT3.keep hk4)
    clear hT3 hk4
    go_wp2_with fail
    go_ret
    exact ⟨rfl, s3, HT4.out⟩
  · rw [hm]
    clear hm x3 x4 x5 x6 x7 x8 x9 x10
    have x2d : w1.drew.cell? ⟨w0.heap.size, 2, none⟩ = some (.int .i64 n) := x2
    have hTd := HT.out.keep (Only.refl (fun _ => False) w1).drew
    have HTD := Lib.hid hTd
    clear hTd
    go_wp2_with fail
    go_region_with (first
      | (go_at_call 21; refine (twin_role HTD.out n).mono ?_; rintro e wq ⟨c, rfl, hkq, hC⟩; have x2q := cell_only hkq HPF.out x2d; have HC := Lib.hid hC; clear hC)
      | (go_at_call 59; refine HC.out.mono ?_; rintro e wr ⟨rfl, hkr, hTr⟩; have x2r := cell_only hkr hprf x2q; have HTR := Lib.hid hTr; clear hTr))
    all_goals
      clear hkq hkr x2q x2r
      go_wp2_with fail
      go_ret
      exact ⟨rfl, HTR.out⟩
  · rw [hm]
    clear hm x2 x4 x5 x6 x7 x8 x9 x10
    go_wp2_with fail
    refine (twin_take HT.out ha tx now hs).mono ?_
    rintro e w2 ⟨v, L, c, rfl, hk2, hrow, hL, hC⟩
    have y3 := cell_only hk2 HPF.out x3
    have HC := Lib.hid hC
    have HROW := Lib.hid hrow
    have HL := Lib.hid hL
    have hsz := hk2.size
    clear hC hk2 hrow hL x3
    go_wp2_with fail
    refine HC.out.mono ?_
    rintro e w3 ⟨v', rfl, hk3, hrow', hT3⟩
    have hrow3 := row_only HROW.out hk3 (fun k hk e => by have := HT.out.f.lt; omega)
    have HT3 := Lib.hid hT3
    have HR3 := Lib.hid hrow3
    have HR4 := Lib.hid hrow'
    clear hT3 hk3 hrow3 hrow' y3
    go_wp2_with fail
    refine (same_rows HR3.out HR4.out (by have := HL.out; omega)).mono ?_
    rintro e w4 ⟨rfl, hk4⟩
    obtain ⟨s3, hT3⟩ := HT3.out
    have HT4 := Lib.hid (hT3.keep hk4)
    clear hT3 hk4
    go_wp2_with fail
    go_ret
    exact ⟨rfl, s3, HT4.out⟩

end Go.Proofs.Yteifehienpeaiaa

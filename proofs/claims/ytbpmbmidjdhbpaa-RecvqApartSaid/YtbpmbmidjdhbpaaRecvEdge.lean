/-
  The walk of the law RecvqEdge.
  No conditions.
-/
import Derived.Test.YtbpmbmidjdhbpaaRecvWorks
import Derived.Test.YtbpmbmidjdhbpaaAmong
import Derived.Test.YtbpmbmidjdhbpaaOpen
set_option linter.unusedVariables false
set_option linter.unusedSimpArgs false
set_option maxRecDepth 100000
namespace Go.Proofs.Ytbpmbmidjdhbpaa
open Go.RowKit Go.Sort

theorem piece_cells {cs : List Value} (h : CellsAre [.i, .i, .i] cs) : ∃ (a b c : Int), cs = [.int .i64 a, .int .i64 b, .int .i64 c] ∧ (Lit.int .i64 a).wf = true ∧ (Lit.int .i64 b).wf = true ∧ (Lit.int .i64 c).wf = true := by
  obtain ⟨a, _, rfl, h1, k1⟩ := h.i
  obtain ⟨b, _, rfl, h2, k2⟩ := k1.i
  obtain ⟨c, _, rfl, h3, k3⟩ := k2.i
  obtain rfl := k3.nil
  exact ⟨a, b, c, rfl, h1, h2, h3⟩

set_option maxHeartbeats 4000000 in
theorem recvEdge_walk (W : World) (f0 : Int) (wf0 : (Lit.int .i64 f0).wf = true) (v : Value) (n : Nat) (f : Nat → List Value) (h : SlIs W [.i, .i, .i] v n f) :
    Calls Try.prog 4 #[.int .i64 f0, v] W fun e W' => e = .returned (.bool true) ∧ Below W.heap.size W W' := by
  obtain ⟨⟨a, cap, rfl, hle, hat⟩, hcells, hsmall, _, _⟩ := h
  obtain ⟨pa, hpa⟩ := Deep.choose_lt (fun i hi => piece_cells (hcells i hi))
  obtain ⟨pb, hpb⟩ := Deep.choose_lt hpa
  obtain ⟨pc, hpc⟩ := Deep.choose_lt hpb
  have HPC := Lib.hid hpc
  have HAT := Lib.hid hat
  clear hcells hpa hpb hpc hat
  simp only [List.length_cons, List.length_nil, reachB] at hsmall
  go_enter Try.func4, Try.ntmps4
  go_wp2_with fail
  refine (works16 _).mono ?_
  rintro e w1 ⟨rfl, hk1⟩
  go_wp2_with fail
  refine (among_any f0 4294967296 _ wf0 (by decide) (by decide)).mono ?_
  rintro e _ ⟨rfl, rfl⟩
  have hf0 : 0 ≤ f0 % 4294967296 := Int.emod_nonneg _ (by decide)
  have hf1 : f0 % 4294967296 < 4294967296 := Int.emod_lt_of_pos _ (by decide)
  generalize f0 % 4294967296 = first at hf0 hf1 ⊢
  clear wf0
  go_wp2_with fail
  refine (qnew first 100 w1 hf0 hf1 (by decide) (by decide)).mono ?_
  rintro e w2 ⟨rfl, hQ, hk2⟩
  have hI := QInv.new first 100 hf0 hf1 (by decide) (by decide)
  have hO : Only (fun _ => False) W w2 := hk1.trans hk2
  have hs1 := hk1.size
  generalize hg : w1.heap.size + 1 = g at hQ ⊢
  generalize hm : w1.heap.size = m at hQ hg hs1
  have hgW : W.heap.size ≤ g := by omega
  clear hg hm hk1 hk2
  go_wp2_with fail
  refine (add_ok first 100 _ hf0 hf1 (by decide) (by decide)).mono ?_
  rintro e _ ⟨rfl, rfl⟩
  have hedge : (first + 100) % 4294967296 = ((⟨first, 100, ⟨#[]⟩, []⟩ : QS).next + ((⟨first, 100, ⟨#[]⟩, []⟩ : QS).room - (⟨first, 100, ⟨#[]⟩, []⟩ : QS).s.size)) % 4294967296 := by
    show (first + 100) % 4294967296 = (first + (100 - ((0 : Nat) : Int))) % 4294967296
    omega
  have hroom : (⟨first, 100, ⟨#[]⟩, []⟩ : QS).room = 100 := rfl
  have he0 := Int.emod_nonneg (first + 100) (show (4294967296 : Int) ≠ 0 by decide)
  have he1 := Int.emod_lt_of_pos (first + 100) (show (0 : Int) < 4294967296 by decide)
  generalize (⟨first, 100, ⟨#[]⟩, []⟩ : QS) = q0 at hQ hI hedge hroom
  generalize (first + 100) % 4294967296 = edge at hedge he0 he1 ⊢
  clear hf0 hf1
  have HED := Lib.hid hedge
  have HRM := Lib.hid hroom
  clear hedge hroom
  go_wp2_with fail
  go_loopw [9, 7] (fun iv ev wr => ∃ (k : Nat) (q : QS) (ed : Int), iv = .int .i64 k ∧ ev = .int .i64 ed ∧ k ≤ n ∧ k ≤ 40 ∧ QAt wr g m q ∧ QInv q ∧ q.room = 100 ∧ (0 ≤ ed ∧ ed < 4294967296) ∧ ed = (q.next + (q.room - q.s.size)) % 4294967296 ∧ Only (fun _ => False) W wr) (fun i _ _ => 40 - (intOf i).toNat)
  case atStart => exact ⟨0, q0, edge, rfl, rfl, by omega, by omega, hQ, hI, HRM.out, ⟨he0, he1⟩, HED.out, hO⟩
  case round =>
    clear hQ hI HED HRM he0 he1 hO
    obtain ⟨k, q, ed, rfl, rfl, hkn, hk40, hQ, hI, hroom, ⟨he0, he1⟩, hed, hO⟩ := hrel
    by_cases hin : k < n ∧ k < 40
    · obtain ⟨hin, hi40⟩ := hin
      obtain ⟨b, off, rfl, hbW, hat⟩ := HAT.out (by omega)
      have hc := HPC.out k hin
      have hc0 := hat k hin 0 (by decide)
      have hc1 := hat k hin 1 (by decide)
      have hc2 := hat k hin 2 (by decide)
      rw [hc.1] at hc0 hc1 hc2
      simp only [List.getElem?_cons_zero, List.getElem?_cons_succ, Nat.add_zero, List.length_cons, List.length_nil, Nat.zero_add, Nat.reduceAdd] at hc0 hc1 hc2
      obtain ⟨_, wa, wb, wc⟩ := hc
      generalize pa k = xa at hc0 wa
      generalize pb k = xb at hc1 wb
      generalize pc k = xc at hc2 wc
      have hbl := hO.block b hbW (fun h => h)
      have y0 : wr.cell? ⟨b, off + k * 3, none⟩ = some (.int .i64 xa) := by
        rw [World.cell?_of_block (w := W) (w' := wr) (a := ⟨b, off + k * 3, none⟩) hbl]; exact hc0
      have HC1 := Lib.hid hc1
      have HC2 := Lib.hid hc2
      have HED := Lib.hid hed
      have HRM := Lib.hid hroom
      have hbg : b ≠ g := by omega
      have hbm : b ≠ m := by have := hQ.lt; omega
      clear hat hc0 hc1 hc2 hbl hed hroom
      have hA0 : ∀ w, Calls Try.prog 10 #[.int .i64 xa, .int .i64 120] w fun e w' => e = .returned (.int .i64 (xa % 120)) ∧ w = w' := fun w => among_any xa 120 w wa (by decide) (by decide)
      have u0 : 0 ≤ xa % 120 := Int.emod_nonneg _ (by decide)
      have u1 : xa % 120 < 120 := Int.emod_lt_of_pos _ (by decide)
      generalize xa % 120 = u at hA0 u0 u1
      have hwr : IntKind.i64.wrap (u - 10) = u - 10 := by rw [IntKind.wrap_i64]; omega
      have HQ := Lib.hid hQ
      have HI := Lib.hid hI
      have qn0 := hI.n0
      have qn1 := hI.n1
      clear hQ hI
      go_wp2_with fail
      go_quiet ((first
        | (go_at_call 14; exact Calls.quiet_of_same ((qnext _ g m q (HQ.out.keep ((Only.refl _ wr).drewN _))).mono fun _ _ x => ⟨x.1, x.2.symm⟩))
        | (go_at_call 10; exact Calls.quiet_of_same ((hA0 _).mono fun _ _ x => ⟨x.1, x.2.symm⟩))
        | (go_at_call 9; exact Calls.quiet_of_same ((add_ok q.next (u - 10) _ qn0 qn1 (by omega) (by omega)).mono fun _ _ x => ⟨x.1, x.2.symm⟩))))
      have a0 := Int.emod_nonneg (q.next + (u - 10)) (show (4294967296 : Int) ≠ 0 by decide)
      have a1 := Int.emod_lt_of_pos (q.next + (u - 10)) (show (0 : Int) < 4294967296 by decide)
      generalize (q.next + (u - 10)) % 4294967296 = at_ at a0 a1 ⊢
      have hQ2 := HQ.out.keep ((Only.refl (fun _ => False) wr).drewN nq)
      have hO2 := hO.drewN nq
      generalize wr.drewN nq = w3 at hQ2 hO2 ⊢
      clear hA0 u0 u1 hwr y0 hO HQ
      have hbl := hO2.block b hbW (fun h => h)
      have y1 : w3.cell? ⟨b, off + k * 3 + 1, none⟩ = some (.int .i64 xb) := by
        rw [World.cell?_of_block (w := W) (w' := w3) (a := ⟨b, off + k * 3 + 1, none⟩) hbl]; exact HC1.out
      have v0 : 0 ≤ xb % 50 := Int.emod_nonneg _ (by decide)
      have v1 : xb % 50 < 50 := Int.emod_lt_of_pos _ (by decide)
      have hB0 : ∀ w, Calls Try.prog 10 #[.int .i64 xb, .int .i64 50] w fun e w' => e = .returned (.int .i64 (xb % 50)) ∧ w = w' := fun w => among_any xb 50 w wb (by decide) (by decide)
      generalize xb % 50 = nb at v0 v1 hB0
      obtain ⟨nN, rfl⟩ := Int.eq_ofNat_of_zero_le v0
      obtain ⟨i5, hi5, hz50, hz51, hz52⟩ := info_parts info5
      obtain ⟨w4, hmk, hrow, hgr⟩ := run_make_full (P := Try.prog) w3 w3.heap.size 42 5 i5 (.int .u8 0) 1 Try.underlying42 hi5 hz50 hz51 .i64 .i64 nN (by rw [hz52]; omega) (by simp only [maxLen]; omega) (Nat.le_refl _)
      have hrow2 : w4.ownsRow w3.heap.size 5 1 (.slice (some ⟨w3.heap.size, 0, none⟩) nN nN) (List.replicate nN 0).length ((List.replicate nN 0).map fun c => Value.int .u8 (c : Nat)) := by
        have e : (madeCells (Value.int IntKind.u8 0).cells (nN * 1)).toList = (List.replicate nN 0).map fun c => Value.int .u8 (c : Nat) := by
          rw [Nat.mul_one]
          have := toList_madeCells_one (.int .u8 0) nN
          rw [show (Value.int IntKind.u8 0).cells = #[.int .u8 0] from rfl, this, List.map_replicate]
          rfl
        rw [← e, List.length_replicate]
        exact hrow
      have hcv := conv_row hrow2
      have hbz := bytesOf_size (List.replicate nN 0)
      rw [List.length_replicate] at hbz
      generalize bytesOf (List.replicate nN 0) = S at hcv hbz
      have hSz : S.size ≤ 65536 := by omega
      have hQ4 := hQ2.only (Only.of_grown hgr) (fun e => by cases e) (fun e => by cases e)
      have hO4 : Only (fun _ => False) W w4 := hO2.then (Only.of_grown hgr) (fun _ _ e => by cases e)
      clear hrow hrow2 hgr hbz
      go_wp2_with fail
      refine (hB0 _).mono ?_
      rintro e _ ⟨rfl, rfl⟩
      go_wp2_with fail
      refine (put_any w4 g m q at_ S hQ4 a0 a1 hSz qn0 qn1 HI.out.sz HI.out.r2 HI.out.len).mono ?_
      rintro e w5 ⟨rfl, hQ5, hk5⟩
      have hI5 := HI.out.put a0 a1 hSz
      have hE5 := put_edge HI.out a0 a1 hSz
      have hO5 : Only (fun _ => False) W w5 := hO4.then hk5 (fun i hi e => by omega)
      have hed5 : ed = ((q.put at_ S).next + ((q.put at_ S).room - (q.put at_ S).s.size)) % 4294967296 := by
        rw [HED.out, hE5.1, hE5.2.1, hE5.2.2]
        omega
      have hrm5 : (q.put at_ S).room = 100 := by rw [hE5.2.2]; exact HRM.out
      have HED5 := Lib.hid hed5
      have HRM5 := Lib.hid hrm5
      clear hE5 hed5 hrm5 hmk hcv hQ4 hO4 hQ2 hO2 y1 hB0 HED HRM HI
      generalize q.put at_ S = q5 at hQ5 hI5 HED5 HRM5
      generalize q.came at_ S = cm
      go_wp2_with fail
      refine (qnext w5 g m q5 hQ5).mono ?_
      rintro e _ ⟨rfl, rfl⟩
      go_wp2_with fail
      refine (qwindow w5 g m q5 hQ5 hI5.sz hI5.r2).mono ?_
      rintro e w6 ⟨rfl, n6, rfl⟩
      have hQ6 := hQ5.keep ((Only.refl (fun _ => False) w5).drewN n6)
      have hO6 := hO5.drewN n6
      generalize w5.drewN n6 = w6 at hQ6 hO6 ⊢
      clear hQ5 hO5
      have hz := hI5.sz
      have hrr := hI5.r2
      go_wp2_with fail
      refine (add_ok q5.next (q5.room - q5.s.size) w6 hI5.n0 hI5.n1 (by omega) (by omega)).mono ?_
      rintro e _ ⟨rfl, rfl⟩
      rw [← HED5.out]
      clear hz hrr
      have hbl := hO6.block b hbW (fun h => h)
      have y2 : w6.cell? ⟨b, off + k * 3 + 2, none⟩ = some (.int .i64 xc) := by
        rw [World.cell?_of_block (w := W) (w' := w6) (a := ⟨b, off + k * 3 + 2, none⟩) hbl]; exact HC2.out
      go_wp2_with fail
      refine (among_any xc 60 w6 wc (by decide) (by decide)).mono ?_
      rintro e _ ⟨rfl, rfl⟩
      generalize xc % 60 = nr
      go_wp2_with fail
      refine (qread w6 g m q5 nr hQ6 (by have := hI5.sz; have := hI5.r2; omega)).mono ?_
      rintro e w7 ⟨rfl, hQ7, hk7⟩
      have hR := hI5.read nr
      have hO7 : Only (fun _ => False) W w7 := hO6.then hk7 (fun i hi e => by omega)
      have hsz7 := hR.2.2
      have hml := many_le q5 nr
      have hed7 : (ed + (q5.many nr : Int)) % 4294967296 = ((q5.read nr).next + ((q5.read nr).room - (q5.read nr).s.size)) % 4294967296 := by
        rw [hR.2.1, HED5.out]
        show _ = (q5.next + (q5.room - ((q5.s.size : Int) - (q5.many nr : Int)))) % 4294967296
        omega
      have hI7 := hR.1
      have hrm7 : (q5.read nr).room = 100 := HRM5.out
      have hm100 : q5.many nr ≤ 65536 := by have := hI5.sz; have := hI5.r2; omega
      have HED7 := Lib.hid hed7
      have HRM7 := Lib.hid hrm7
      clear hed7 hrm7 hR hml hk7 hQ6 hO6 y2
      generalize q5.s.extract 0 (q5.many nr) = S7 at hsz7 ⊢
      generalize q5.many nr = mm at hsz7 hm100 HED7
      generalize q5.read nr = q7 at hQ7 hI7 HED7 HRM7
      have HS7 := Lib.hid hsz7
      have hs77 : S7.size ≤ 65536 := by omega
      clear hsz7
      go_wp2_with fail
      refine (add_ok ed (S7.size : Int) w7 he0 he1 (by omega) (by omega)).mono ?_
      rintro e _ ⟨rfl, rfl⟩
      rw [HS7.out]
      have e0 := Int.emod_nonneg (ed + (mm : Int)) (show (4294967296 : Int) ≠ 0 by decide)
      have e1 := Int.emod_lt_of_pos (ed + (mm : Int)) (show (0 : Int) < 4294967296 by decide)
      generalize (ed + (mm : Int)) % 4294967296 = ed7 at HED7 e0 e1 ⊢
      go_wp2_with fail
      refine (qnext w7 g m q7 hQ7).mono ?_
      rintro e _ ⟨rfl, rfl⟩
      go_wp2_with fail
      refine (qwindow w7 g m q7 hQ7 hI7.sz hI7.r2).mono ?_
      rintro e w8 ⟨rfl, n8, rfl⟩
      have hQ8 := hQ7.keep ((Only.refl (fun _ => False) w7).drewN n8)
      have hO8 := hO7.drewN n8
      generalize w7.drewN n8 = w8 at hQ8 hO8 ⊢
      have hz := hI7.sz
      have hrr := hI7.r2
      go_wp2_with fail
      refine (add_ok q7.next (q7.room - q7.s.size) w8 hI7.n0 hI7.n1 (by omega) (by omega)).mono ?_
      rintro e _ ⟨rfl, rfl⟩
      rw [← HED7.out]
      clear hz hrr
      go_wp2_with fail
      go_roundw
      case rel => exact ⟨k + 1, q7, ed7, by go_num, rfl, by omega, by omega, hQ8, hI7, HRM7.out, ⟨e0, e1⟩, HED7.out, hO8⟩
      case measure => simp [intOf]; omega
    · by_cases hkn' : k < n
      all_goals
        go_wp2_with fail
        go_ret
        exact ⟨rfl, hO.below (Nat.le_refl _) (fun _ _ h => h)⟩

end Go.Proofs.Ytbpmbmidjdhbpaa

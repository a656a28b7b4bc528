/-
  An act of the law RecvqPlays, at a queue and at the reference queue that is in the same state.
  Conditions: rooms of at most 3000; texts of at most 2000 bytes.
-/
import Derived.Test.YtbpmbmidjdhbpaaRefApart
import Derived.Test.YtbpmbmidjdhbpaaRecvWorks
import Derived.Test.YtbpmbmidjdhbpaaRecvInv
import Derived.Test.YtbpmbmidjdhbpaaRecvFork
import Derived.Test.YtbpmbmidjdhbpaaAmong
import Derived.Test.YtbpmbmidjdhbpaaOpen
set_option linter.unusedVariables false
set_option linter.unusedSimpArgs false
set_option maxRecDepth 100000
namespace Go.Proofs.Ytbpmbmidjdhbpaa
open Go.RowKit

/-- A queue and a reference queue in one state. -/
def Twins (w : World) (g m r : Nat) : Prop := ∃ (q : QS) (hb bb : Nat), QAt w g m q ∧ RAt w r hb bb q ∧ QInv q ∧ 1 ≤ q.room ∧ q.room ≤ 3000

theorem twins_ne {w : World} {g m r hb bb : Nat} {q q2 : QS} (hq : QAt w g m q) (hr : RAt w r hb bb q2) : g ≠ m ∧ r ≠ g ∧ r ≠ m ∧ hb ≠ g ∧ bb ≠ g ∧ hb ≠ m ∧ bb ≠ m := by
  obtain ⟨hv, bv, e1, e2, hg, ⟨_, _, _, _, rfl, h1, _⟩, _, ⟨_, _, _, _, rfl, h2, _⟩, _⟩ := hr
  cases e1
  cases e2
  refine ⟨fun e => map_cells hq.amap hq.cell e.symm, fun e => ?_, fun e => map_cells hq.amap hg e.symm, fun e => ?_, fun e => ?_, fun e => map_cells hq.amap h1 e.symm, fun e => map_cells hq.amap h2 e.symm⟩
  · rw [e, hq.cell] at hg
    injection hg with hg
    injection hg with _ hg
    revert hg
    decide
  · simp only at e
    rw [e, hq.cell] at h1
    injection h1 with h1
    injection h1 with _ h1
    revert h1
    decide
  · simp only at e
    rw [e, hq.cell] at h2
    injection h2 with h2
    injection h2 with _ h2
    revert h2
    decide


theorem step_put (w : World) (g m r : Nat) (q : QS) (hb bb : Nat) (hq : QAt w g m q) (hr : RAt w r hb bb q) (hi : QInv q) (r0 : 1 ≤ q.room) (r1 : q.room ≤ 3000) (at_ : Int) (s : ByteArray) (hs : s.size ≤ 2000) :
    Calls Try.prog 11 #[.pointer (some ⟨g, 0, none⟩), .int .i64 at_, .string s] w fun e w1 => ∃ n c : Int, e = .returned (.tuple #[.int .i64 n, .int .i64 c]) ∧ Only (fun k => k = g ∨ k = m) w w1 ∧
      Calls Try.prog 33 #[.pointer (some ⟨r, 0, none⟩), .int .i64 at_, .string s] w1 fun e w2 => e = .returned (.tuple #[.int .i64 n, .int .i64 c]) ∧ Twins w2 g m r ∧ Only (fun k => k = g ∨ k = m ∨ k = r) w w2 := by
  obtain ⟨n1, n2, n3, n4, n5, n6, n7⟩ := twins_ne hq hr
  by_cases ha : 0 ≤ at_ ∧ at_ < 4294967296
  · refine (put_any w g m q at_ s hq ha.1 ha.2 (by omega) hi.n0 hi.n1 (by have := hi.sz; omega) hi.r2 hi.len).mono ?_
    rintro e w1 ⟨rfl, hq1, hk1⟩
    have hr1 : RAt w1 r hb bb q := hr.only hk1 (by omega) (by omega) (by omega)
    refine ⟨_, _, rfl, hk1, ?_⟩
    refine (rput w1 r hb bb q at_ s hr1 hi ha.1 ha.2 (by omega) r0 r1).mono ?_
    rintro e w2 ⟨hb2, bb2, rfl, hr2, _, _, hk2⟩
    exact ⟨rfl, ⟨q.put at_ s, hb2, bb2, hq1.only hk2 (fun e => n2 e.symm) (fun e => n3 e.symm), hr2, hi.put ha.1 ha.2 (by omega), r0, r1⟩, (hk1.mono (fun _ _ h => h.elim .inl (fun h => .inr (.inl h)))).then hk2 (fun _ _ h => .inr (.inr h))⟩
  · refine (put_range w g at_ s (by omega) (.inl ha)).mono ?_
    rintro e w1 ⟨rfl, rfl⟩
    refine ⟨_, _, rfl, Only.refl _ _, ?_⟩
    refine (rput_bad w r at_ s (by omega) (.inl ha)).mono ?_
    rintro e w2 ⟨rfl, rfl⟩
    exact ⟨rfl, ⟨q, hb, bb, hq, hr, hi, r0, r1⟩, Only.refl _ _⟩

set_option maxHeartbeats 4000000 in
theorem step_any (W : World) (g m r : Nat) (hT : Twins W g m r) (kd at_ n : Int) (s : ByteArray) (near : Bool) (wk : (Lit.int .i64 kd).wf = true) (wa : (Lit.int .i64 at_).wf = true) (hs : s.size ≤ 2000) :
    Calls Try.prog 21 #[.pointer (some ⟨g, 0, none⟩), .pointer (some ⟨r, 0, none⟩), .agg #[.int .i64 kd, .int .i64 at_, .int .i64 n, .string s, .bool near]] W fun e w' => e = .returned (.bool true) ∧ Twins w' g m r ∧ Only (fun k => k = g ∨ k = m ∨ k = r) W w' := by
  obtain ⟨q, hb, bb, hq, hr, hi, r0, r1⟩ := hT
  obtain ⟨n1, n2, n3, n4, n5, n6, n7⟩ := twins_ne hq hr
  have hk0 := (Only.refl (fun _ => False) W).alloc (.cells #[.int .i64 kd, .int .i64 at_, .int .i64 n, .string s, .bool near] 51)
  have hbx := blk_new W (.cells #[.int .i64 kd, .int .i64 at_, .int .i64 n, .string s, .bool near] 51)
  have hq0 := hq.keep hk0
  have hr0 := hr.only hk0 (fun h => h) (fun h => h) (fun h => h)
  have hglt := hq.lt
  have hrlt := hr.lt
  by_cases hk : kd % 2 = 1
  · have HK := Lib.hid hk
    clear hk
    go_enter Try.func21, Try.ntmps21
    go_wp2_with fail
    refine (among_any kd 2 _ wk (by decide) (by decide)).mono ?_
    rintro e _ ⟨rfl, rfl⟩
    rw [HK.out]
    go_wp2_with fail
    have x2 := blk_cell hbx 2
    simp only [List.getElem?_toArray, List.getElem?_cons_zero, List.getElem?_cons_succ] at x2
    generalize W.alloc (.cells #[.int .i64 kd, .int .i64 at_, .int .i64 n, .string s, .bool near] 51) = w1 at hk0 hbx hq0 hr0 x2 ⊢
    have hs2 : q.s.size ≤ 1099511627776 := by have := hi.sz; omega
    have hqd : QAt w1.drew g m q := hq0.keep ((Only.refl (fun _ => False) w1).drew)
    have hrd : RAt w1.drew r hb bb q := hr0.only ((Only.refl (fun _ => False) w1).drew) (fun h => h) (fun h => h) (fun h => h)
    have x2d : w1.drew.cell? ⟨W.heap.size, 2, none⟩ = some (.int .i64 n) := x2
    have hWg : ¬ W.heap.size = g := by omega
    have hWr : ¬ W.heap.size = r := by omega
    go_region_with (first
      | (go_at_call 17; refine (qread _ g m q n hqd hs2).mono ?_; rintro e wq ⟨rfl, hq2, hk2⟩; have hr2 : RAt wq r hb bb q := hrd.only hk2 n2 n4 n5; have x2q : wq.cell? ⟨W.heap.size, 2, none⟩ = some (.int .i64 n) := cell_only hk2 hWg x2d)
      | (go_at_call 32; refine (rread _ r hb bb q n hr2 hs2).mono ?_; rintro e wr ⟨rfl, hr3, hk3⟩; have x2r : wr.cell? ⟨W.heap.size, 2, none⟩ = some (.int .i64 n) := cell_only hk3 hWr x2q))
    all_goals
      have HTW := Lib.hid (show Twins wr g m r from ⟨q.read n, hb, bb, hq2.only hk3 (fun e => n2 e.symm) (fun e => n3 e.symm), hr3, (hi.read n).1, r0, r1⟩)
      have HOO := Lib.hid (show Only (fun k => k = g ∨ k = m ∨ k = r) W wr from ((hk0.drew.mono (S' := fun k => k = g ∨ k = m ∨ k = r) (fun _ _ h => h.elim)).then hk2 (fun _ _ h => .inl h)).then hk3 (fun _ _ h => .inr (.inr h)))
      clear hk2 hk3 hq2 hr2 hr3 x2q x2r
      go_wp2_with fail
      go_ret
      exact ⟨rfl, HTW.out, HOO.out⟩
  · have hk' : kd % 2 = 0 := by omega
    have HK := Lib.hid hk'
    clear hk hk'
    have hgw : ¬ (W.heap.size = g ∨ W.heap.size = m) := by omega
    cases near with
    | true =>
      go_enter Try.func21, Try.ntmps21
      go_wp2_with fail
      refine (among_any kd 2 _ wk (by decide) (by decide)).mono ?_
      rintro e _ ⟨rfl, rfl⟩
      rw [HK.out]
      have x1 := blk_cell hbx 1
      have x3 := blk_cell hbx 3
      simp only [List.getElem?_toArray, List.getElem?_cons_zero, List.getElem?_cons_succ] at x1 x3
      go_wp2_with fail
      generalize W.alloc (.cells #[.int .i64 kd, .int .i64 at_, .int .i64 n, .string s, .bool true] 51) = w1 at hk0 hbx hq0 hr0 x1 x3 ⊢
      have y0 := hr0.c0
      have b1 : -100000 < at_.tmod 100000 := by have := Int.lt_tmod_of_pos at_ (show (0 : Int) < 100000 by decide); omega
      have b2 : at_.tmod 100000 < 100000 := Int.tmod_lt_of_pos at_ (by decide)
      have c0 := hi.n0
      have c1 := hi.n1
      have hwf : (Lit.int .i64 (q.next + at_.tmod 100000)).wf = true := by
        simp [Lit.wf, IntKind.min, IntKind.max, IntKind.bits, IntKind.signed]; omega
      have hwr : IntKind.i64.wrap (q.next + at_.tmod 100000) = q.next + at_.tmod 100000 := by rw [IntKind.wrap_i64]; omega
      go_quiet ((go_at_call 10; exact Calls.quiet_of_same ((among_any (q.next + at_.tmod 100000) 4294967296 _ hwf (by decide) (by decide)).mono fun _ _ x => ⟨x.1, x.2.symm⟩)))
      have hq2 : QAt (w1.drewN nq) g m q := hq0.keep ((Only.refl _ w1).drewN nq)
      have hr2 : RAt (w1.drewN nq) r hb bb q := hr0.only ((Only.refl (fun _ => False) w1).drewN nq) (fun h => h) (fun h => h) (fun h => h)
      have hO2 : Only (fun k => k = g ∨ k = m ∨ k = r) W (w1.drewN nq) := (hk0.drewN nq).mono (fun _ _ h => h.elim)
      have x32 : (w1.drewN nq).cell? ⟨W.heap.size, 3, none⟩ = some (.string s) := x3
      generalize w1.drewN nq = w2 at hq2 hr2 hO2 x32 ⊢
      clear x1 x3 hq0 hr0 hk0 hbx y0 hwf hwr
      generalize (q.next + at_.tmod 100000) % 4294967296 = atv
      go_wp2_with fail
      refine (step_put _ g m r q hb bb hq2 hr2 hi r0 r1 atv s hs).mono ?_
      rintro e w3 ⟨nn, cc, rfl, hk3, hC⟩
      have x33 : w3.cell? ⟨W.heap.size, 3, none⟩ = some (.string s) := cell_only hk3 hgw x32
      have HC := Lib.hid hC
      clear hC x32
      go_wp2_with fail
      refine HC.out.mono ?_
      rintro e w4 ⟨rfl, hT4, hk4⟩
      have HT4 := Lib.hid hT4
      have HO4 := Lib.hid (show Only (fun k => k = g ∨ k = m ∨ k = r) W w4 from hO2.then hk4 (fun _ _ h => h))
      clear hT4 hk4 hk3 hq2 hr2 x33
      go_wp2_with fail
      go_ret
      exact ⟨rfl, HT4.out, HO4.out⟩
    | false =>
      go_enter Try.func21, Try.ntmps21
      go_wp2_with fail
      refine (among_any kd 2 _ wk (by decide) (by decide)).mono ?_
      rintro e _ ⟨rfl, rfl⟩
      rw [HK.out]
      have x1 := blk_cell hbx 1
      have x32 := blk_cell hbx 3
      simp only [List.getElem?_toArray, List.getElem?_cons_zero, List.getElem?_cons_succ] at x1 x32
      have hq2 := hq0
      have hr2 := hr0
      have hO2 : Only (fun k => k = g ∨ k = m ∨ k = r) W (W.alloc (.cells #[.int .i64 kd, .int .i64 at_, .int .i64 n, .string s, .bool false] 51)) := hk0.mono (fun _ _ h => h.elim)
      go_wp2_with fail
      refine (step_put _ g m r q hb bb hq2 hr2 hi r0 r1 at_ s hs).mono ?_
      rintro e w3 ⟨nn, cc, rfl, hk3, hC⟩
      have x33 : w3.cell? ⟨W.heap.size, 3, none⟩ = some (.string s) := cell_only hk3 hgw x32
      have HC := Lib.hid hC
      clear hC x32
      go_wp2_with fail
      refine HC.out.mono ?_
      rintro e w4 ⟨rfl, hT4, hk4⟩
      have HT4 := Lib.hid hT4
      have HO4 := Lib.hid (show Only (fun k => k = g ∨ k = m ∨ k = r) W w4 from hO2.then hk4 (fun _ _ h => h))
      clear hT4 hk4 hk3 hq2 hr2 x33
      go_wp2_with fail
      go_ret
      exact ⟨rfl, HT4.out, HO4.out⟩

end Go.Proofs.Ytbpmbmidjdhbpaa

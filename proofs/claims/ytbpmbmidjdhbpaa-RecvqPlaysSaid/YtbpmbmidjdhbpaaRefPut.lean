/-
  Put of the reference queue.
  Conditions: rooms of at most 3000; pieces of at most 65536 bytes.
-/
import Derived.Test.YtbpmbmidjdhbpaaRefFork
import Derived.Test.YtbpmbmidjdhbpaaRefPutLaw
import Derived.Deep.CutBlock
import Derived.Deep.CutRange
import Derived.StillTailTactics
set_option linter.unusedVariables false
set_option linter.unusedSimpArgs false
set_option maxRecDepth 100000
namespace Go.Proofs.Ytbpmbmidjdhbpaa
open Go.RowKit

theorem PartAt.form {w : World} {e : TypeId} {v : Value} {n : Nat} {c : Nat → Value} (h : PartAt w e v n c) : ∃ g o c, v = .slice (some ⟨g, o, none⟩) n c := by
  obtain ⟨⟨g, off, cap, cur, e, _⟩⟩ := h
  exact ⟨g, off, cap, e⟩

theorem PartAt.cell {w : World} {e : TypeId} {g off n cap : Nat} {c : Nat → Value} (h : PartAt w e (.slice (some ⟨g, off, none⟩) n cap) n c) (d : Nat) (hd : d < n) : w.cell? ⟨g, off + d, none⟩ = some (c d) ∧ w.frozen? ⟨g, off + d, none⟩ = false := by
  obtain ⟨⟨g', off', cap', cur, e1, hg, h1, h2, h3, h4⟩⟩ := h
  cases e1
  exact ⟨(blk_cell hg _).trans (h4 d hd), blk_free hg _⟩

theorem PartAt.set {w : World} {e : TypeId} {g off n cap : Nat} {c : Nat → Value} (h : PartAt w e (.slice (some ⟨g, off, none⟩) n cap) n c) (d : Nat) (hd : d < n) (v : Value) (c2 : Nat → Value) (hc : ∀ x, x < n → c2 x = if x = d then v else c x) : PartAt (w.setCell ⟨g, off + d, none⟩ v) e (.slice (some ⟨g, off, none⟩) n cap) n c2 := by
  obtain ⟨⟨g', off', cap', cur, e1, hg, h1, h2, h3, h4⟩⟩ := h
  cases e1
  refine ⟨g, off, cap, cur.setIfInBounds (off + d) v, rfl, blk_set hg _ _, h1, by rw [Array.size_setIfInBounds]; exact h2, h3, fun x hx => ?_⟩
  rw [hc x hx, Array.getElem?_setIfInBounds]
  by_cases hxd : x = d
  · subst hxd
    rw [if_pos rfl, if_pos rfl, if_pos (by omega)]
  · rw [if_neg (by omega), if_neg hxd]
    exact h4 x hx

theorem PartAt.congr {w : World} {e : TypeId} {n n' c0 : Nat} {g : Option Addr} {c c' : Nat → Value} (h : PartAt w e (.slice g n c0) n c) (hn : n = n') (hc : ∀ d, d < n' → c d = c' d) : PartAt w e (.slice g n c0) n' c' := by
  subst hn
  obtain ⟨⟨g, off, cap, cur, e1, hg, h1, h2, h3, h4⟩⟩ := h
  exact ⟨g, off, cap, cur, e1, hg, h1, h2, h3, fun d hd => (h4 d hd).trans (by rw [hc d hd])⟩

theorem part_tail {cur : Array Value} {c : Nat → Value} {N n off off' cap : Nat} (h : ∀ d, d < N → cur[off + d]? = some (c d)) (ho : off' = off + n ∨ (cap = n ∧ off' = off)) (hN : N ≤ cap) : ∀ d, d < N - n → cur[off' + d]? = some (c (n + d)) := by
  intro d hd
  rcases ho with ho | ⟨ho, _⟩
  · rw [ho, Nat.add_assoc]
    exact h (n + d) (by omega)
  · omega

theorem ret_came {n m : Nat} (h : n = m) : Ending.returned (.tuple #[.int .i64 (n : Int), .int .i64 0]) = .returned (.tuple #[.int .i64 (m : Int), .int .i64 0]) := by rw [h]

theorem rwindow_quiet (w : World) (r hb bb : Nat) (q : QS) (n : Nat) (h : RAt w r hb bb q) (hr : q.s.size ≤ q.room) (h1 : q.room ≤ 65536) : Calls Try.prog 23 #[.pointer (some ⟨r, 0, none⟩)] (w.drewN n) fun e w' => e = .returned (.int .i64 (q.room - q.s.size)) ∧ ∃ k, w' = w.drewN k :=
  (rwindow (w.drewN n) r hb bb q (h.only ((Only.refl (fun _ => False) w).drewN n) (fun h => h) (fun h => h) (fun h => h)) hr h1).mono fun e w' x => ⟨x.1, by
    obtain ⟨k, hk⟩ := x.2
    exact ⟨n + k, by rw [hk]; simp [World.drewN, Nat.add_assoc]⟩⟩

theorem rput_bad (w : World) (r : Nat) (at_ : Int) (s : ByteArray) (hs : s.size ≤ 1099511627776) (h : ¬ (0 ≤ at_ ∧ at_ < 4294967296) ∨ 65536 < s.size) : Calls Try.prog 33 #[.pointer (some ⟨r, 0, none⟩), .int .i64 at_, .string s] w fun e w' => e = .returned (.tuple #[.int .i64 0, .int .i64 1]) ∧ w = w' := by
  by_cases ha : 0 ≤ at_ ∧ at_ < 4294967296
  · have hl : 65536 < (s.size : Int) := by
      rcases h with h | h
      · exact absurd ha h
      · omega
    clear h
    obtain ⟨a0, a1⟩ := ha
    go_enter Try.func33, Try.ntmps33
    go_wp2_with fail
    refine (rcheck_ok at_ _ a0 a1).mono ?_
    rintro e _ ⟨rfl, rfl⟩
    go_wp2_with fail
    go_ret2
    exact ⟨rfl, rfl⟩
  · have H := Lib.hid ha
    clear h ha
    go_enter Try.func33, Try.ntmps33
    go_wp2_with fail
    refine (rcheck_bad at_ _ H.out).mono ?_
    rintro e _ ⟨rfl, rfl⟩
    go_wp2_with fail
    go_ret2
    exact ⟨rfl, rfl⟩

/-- What the shifted rows are. -/
theorem rput_fin (w : World) (r g7 o7 c7 g9 o9 c9 n : Nat) (q : QS) (at_ : Int) (s T : ByteArray) (B : Nat → Nat) (hi : QInv q) (a0 : 0 ≤ at_) (a1 : at_ < 4294967296) (hs : s.size ≤ 65536) (hn : n = q.came at_ s) (hnN : n ≤ q.room.toNat) (r1 : q.room ≤ 3000)
    (hT : T = bytesOf (q.laid at_ s).drained.2.2)
    (hG : w.heap[r]? = some (.cells #[.int .i64 ((q.next + (n : Int)) % 4294967296), .int .i64 q.room, .string (q.s ++ T), .slice (some ⟨g7, o7, none⟩) q.room.toNat c7, .slice (some ⟨g9, o9, none⟩) q.room.toNat c9] 57 (0, 0)))
    (hH : PartAt w 4 (.slice (some ⟨g7, o7, none⟩) q.room.toNat c7) q.room.toNat (fun d => if d < q.room.toNat - n then .bool (lookA (q.laid at_ s).A (beh q.next (n + d))).isSome else .bool false))
    (hB : PartAt w 5 (.slice (some ⟨g9, o9, none⟩) q.room.toNat c9) q.room.toNat (fun d => if d < q.room.toNat - n then .int .u8 (B (n + d) : Nat) else .int .u8 0))
    (HBL : ∀ x, x < q.room.toNat → B x < 256 ∧ ∀ c, lookA (q.laid at_ s).A (beh q.next x) = some c → B x = c) : RAt w r g7 g9 (q.put at_ s) := by
  obtain ⟨p1, p2, p3, p4, p5, p6⟩ := put_comes q hi at_ s a0 a1 hs
  have hz := hi.sz
  rw [← hn] at p1 p2 p3 p4 p5
  have hpn : (q.put at_ s).next = (q.next + (n : Int)) % 4294967296 := p4
  have hps : (q.put at_ s).s = q.s ++ T := by rw [hT]; rfl
  have hpr : (q.put at_ s).room = q.room := rfl
  clear p4 hi
  refine ⟨.slice (some ⟨g7, o7, none⟩) q.room.toNat c7, .slice (some ⟨g9, o9, none⟩) q.room.toNat c9, rfl, rfl, ?_, ?_, fun d => if d < q.room.toNat - n then B (n + d) else 0, ?_, ?_⟩
  · rw [hpn, hps, hpr]; exact hG
  · rw [hpr]
    refine hH.congr rfl (fun d hd => ?_)
    unfold hereB
    rw [p5 d (by omega)]
    by_cases hdn : d < q.room.toNat - n
    · rw [if_pos hdn]
    · rw [if_neg hdn, p6 (n + d) (by omega) (by omega)]
      rfl
  · rw [hpr]
    refine hB.congr rfl (fun d hd => ?_)
    show _ = Value.int .u8 (((if d < q.room.toNat - n then B (n + d) else 0) : Nat) : Int)
    by_cases hdn : d < q.room.toNat - n
    · rw [if_pos hdn, if_pos hdn]
    · rw [if_neg hdn, if_neg hdn]
      rfl
  · rw [hpr]
    intro d hd
    rw [p5 d (by omega)]
    show (if d < q.room.toNat - n then B (n + d) else 0) < 256 ∧ ∀ c, lookA (q.laid at_ s).A (beh q.next (n + d)) = some c → (if d < q.room.toNat - n then B (n + d) else 0) = c
    by_cases hdn : d < q.room.toNat - n
    · rw [if_pos hdn]
      exact HBL (n + d) (by omega)
    · rw [if_neg hdn, p6 (n + d) (by omega) (by omega)]
      exact ⟨by decide, fun c e => by cases e⟩

set_option maxHeartbeats 16000000 in
theorem rput (W : World) (r hb0 bb0 : Nat) (q : QS) (at_ : Int) (s : ByteArray) (h : RAt W r hb0 bb0 q) (hi : QInv q) (a0 : 0 ≤ at_) (a1 : at_ < 4294967296) (hs : s.size ≤ 65536) (r0 : 1 ≤ q.room) (r1 : q.room ≤ 3000) :
    Calls Try.prog 33 #[.pointer (some ⟨r, 0, none⟩), .int .i64 at_, .string s] W fun e w' => ∃ hb bb, e = .returned (.tuple #[.int .i64 (q.came at_ s), .int .i64 0]) ∧ RAt w' r hb bb (q.put at_ s) ∧ W.heap.size ≤ hb ∧ W.heap.size ≤ bb ∧ Only (fun k => k = r) W w' := by
  obtain ⟨i4, hi4, hi4z, hi4s, hi4b⟩ := info_parts info4b
  obtain ⟨i5, hi5, hi5z, hi5s, hi5b⟩ := info_parts info5
  have hN0 : 0 < q.room.toNat := by omega
  have hN1 : q.room.toNat ≤ 1000000 := by omega
  have d1 : decide (65536 < (s.size : Int)) = false := decide_eq_false (by omega)
  have HI := Lib.hid hi
  have H := Lib.hid h
  have qn0 := hi.n0
  have qn1 := hi.n1
  have x0 := h.c0
  have hz := hi.sz
  have hr2 := hi.r2
  have hbd := cutKeep_bounds (a := at_) (left := q.next) (show (0 : Int) ≤ s.size by omega) (show 0 ≤ q.room - q.s.size by omega)
  have hsz3 : (q.s.size : Int) ≤ q.room := hz
  clear h hi
  go_enter Try.func33, Try.ntmps33
  go_wp2_with fail
  refine (rcheck_ok at_ _ a0 a1).mono ?_
  rintro e _ ⟨rfl, rfl⟩
  go_wp2_with fail
  go_quiet ((first
    | (go_at_call 23; exact rwindow_quiet _ r hb0 bb0 q _ H.out hz hr2)
    | (go_at_call 38; exact Calls.quiet_of_same ((rcut_ok at_ s.size q.next (q.room - q.s.size) _ a0 a1 qn0 qn1 (by omega) (by omega) (by omega) (by omega)).mono fun _ _ x => ⟨x.1, x.2.symm⟩))))
  have H1 : Hid (RAt (W.drewN nq) r hb0 bb0 q) := Lib.hid (H.out.only ((Only.refl (fun _ => False) W).drewN nq) (fun h => h) (fun h => h) (fun h => h))
  have HO1 : Hid (Only (fun k => k = r) W (W.drewN nq)) := Lib.hid ((Only.refl _ W).drewN nq)
  have x0 : (W.drewN nq).cell? ⟨r, 0, none⟩ = some (.int .i64 q.next) := x0
  generalize W.drewN nq = w1 at H1 HO1 x0 ⊢
  have HPW := Lib.hid (put_where q HI.out at_ s a0 a1 hs _ _ rfl rfl)
  have HLA := Lib.hid (show (q.laid at_ s).A = putA s at_ (cutSkip at_ s.size q.next (q.room - q.s.size)) q.A (cutKeep at_ s.size q.next (q.room - q.s.size)).toNat from rfl)
  generalize cutSkip at_ s.size q.next (q.room - q.s.size) = sk at *
  generalize cutKeep at_ s.size q.next (q.room - q.s.size) = kp at *
  obtain ⟨b1, b2, b3, b4, b5⟩ := hbd
  go_wp2_with fail
  go_quiet ((first
    | (go_at_call 34; exact Calls.quiet_of_same ((rmod_any (at_ + sk) _ (by omega) (by omega)).mono fun _ _ x => ⟨x.1, x.2.symm⟩))
    | (go_at_call 39; exact Calls.quiet_of_same ((rdistance_ok q.next ((at_ + sk) % 4294967296) _ qn0 qn1 (by omega) (by omega)).mono fun _ _ x => ⟨x.1, x.2.symm⟩))))
  have H2 : Hid (RAt (w1.drewN nq) r hb0 bb0 q) := Lib.hid (H1.out.only ((Only.refl (fun _ => False) w1).drewN nq) (fun h => h) (fun h => h) (fun h => h))
  have HO2 : Hid (Only (fun k => k = r) W (w1.drewN nq)) := Lib.hid (HO1.out.drewN nq)
  clear H1 HO1 H x0
  generalize w1.drewN nq = w2 at H2 HO2 ⊢
  have hdd : ∃ d : Nat, (at_ + sk - q.next) % 4294967296 = (d : Int) ∧ (d : Int) = ((at_ + sk) % 4294967296 - q.next) % 4294967296 := ⟨((at_ + sk - q.next) % 4294967296).toNat, by omega, by omega⟩
  obtain ⟨d, hd1, hd2⟩ := hdd
  replace HPW := Lib.hid (HPW.out d hd2)
  rw [hd1]
  clear hd1 hd2
  obtain ⟨hv, bv, e1, e2, hg, hh, B, hB, hc⟩ := H2.out
  have hlt := H2.out.lt
  obtain ⟨ne1, ne2, _⟩ := H2.out.ne
  have HC := Lib.hid hc
  clear hc
  obtain ⟨g1, o1, c1, rfl⟩ : ∃ g o c, hv = .slice (some ⟨g, o, none⟩) q.room.toNat c := by
    obtain ⟨⟨g, off, cap, cur, e, _⟩⟩ := hh
    exact ⟨g, off, cap, e⟩
  obtain ⟨g2, o2, c2, rfl⟩ : ∃ g o c, bv = .slice (some ⟨g, o, none⟩) q.room.toNat c := by
    obtain ⟨⟨g, off, cap, cur, e, _⟩⟩ := hB
    exact ⟨g, off, cap, e⟩
  cases e1
  cases e2
  have y3 := blk_cell hg 3
  simp only [List.getElem?_toArray, List.getElem?_cons_zero, List.getElem?_cons_succ] at y3
  have xf := blk_free hg 3
  have hkA := (Only.refl (fun _ => False) w2).alloc (.cells #[] 4)
  have hhA := hh.only hkA (fun _ _ h => h)
  go_upto_region 6 with (at_builtin; refine wpList_append_copy (w2.alloc (.cells #[] 4)) rfl _ _ 55 rfl 4 i4 (.bool false) Try.underlying55 hi4 hi4z rfl hi4s hi4b w2.heap.size _ q.room.toNat _ rfl rfl hhA hN0 hN1 ?_; intro v3 w3 hp3 hk3 hb3; obtain ⟨g3, o3, c3, rfl⟩ := hp3.form; have hg3 := hk3.at (hkA.at hg (fun h => h)) (fun h => h); have xf3 := blk_free hg3 3; have y33 := blk_cell hg3 3; simp only [List.getElem?_toArray, List.getElem?_cons_zero, List.getElem?_cons_succ] at y33)
  have hg3w : w2.heap.size ≤ g3 := by
    have := hb3 g3 rfl
    rw [World.size_alloc] at this
    omega
  have hk4 := (Only.refl (fun k => k = r) w3).setCell ⟨r, 3, none⟩ (.slice (some ⟨g3, o3, none⟩) q.room.toNat c3) (fun _ => rfl)
  have hg4 := (blk_set hg3 3 (.slice (some ⟨g3, o3, none⟩) q.room.toNat c3)).trans rfl
  have hp4 := hp3.only hk4 (fun b e => by cases e; show ¬ (g3 = r); have := hlt.1; omega)
  have hB4 := ((hB.only hkA (fun _ _ h => h)).only hk3 (fun _ _ h => h)).only hk4 (fun b e => by cases e; exact ne2)
  have hO4 : Only (fun k => k = r) W (w3.setCell ⟨r, 3, none⟩ (.slice (some ⟨g3, o3, none⟩) q.room.toNat c3)) := ((HO2.out.then hkA (fun _ _ h => h.elim)).then hk3 (fun _ _ h => h.elim)).trans hk4
  have hs4 : w2.heap.size ≤ (w3.setCell ⟨r, 3, none⟩ (.slice (some ⟨g3, o3, none⟩) q.room.toNat c3)).heap.size := Nat.le_trans (Nat.le_trans hkA.size hk3.size) hk4.size
  have hgl3 := heap_lt hg4
  generalize w3.setCell ⟨r, 3, none⟩ (.slice (some ⟨g3, o3, none⟩) q.room.toNat c3) = w4 at hg4 hp4 hB4 hO4 hs4 hgl3 ⊢
  clear hk4 hp3 hhA hh hB hg xf y3 xf3 y33 hg3 hk3 hkA hb3 H2
  simp only [List.setIfInBounds_toArray, List.set_cons_succ, List.set_cons_zero] at hg4
  have y4 := blk_cell hg4 4
  simp only [List.getElem?_toArray, List.getElem?_cons_zero, List.getElem?_cons_succ] at y4
  have hkA := (Only.refl (fun _ => False) w4).alloc (.cells #[] 5)
  have hhA := hB4.only hkA (fun _ _ h => h)
  go_upto_region 7 with (at_builtin; refine wpList_append_copy (w4.alloc (.cells #[] 5)) rfl _ _ 42 rfl 5 i5 (.int .u8 0) Try.underlying42 hi5 hi5z rfl hi5s hi5b w4.heap.size _ q.room.toNat _ rfl rfl hhA hN0 hN1 ?_; intro v5 w5 hp5 hk5 hb5; obtain ⟨g5, o5, c5, rfl⟩ := hp5.form; have hg5 := hk5.at (hkA.at hg4 (fun h => h)) (fun h => h); have xf5 := blk_free hg5 4; have y5 := blk_cell hg5 4; simp only [List.getElem?_toArray, List.getElem?_cons_zero, List.getElem?_cons_succ] at y5)
  have hg5w : w4.heap.size ≤ g5 := by
    have := hb5 g5 rfl
    rw [World.size_alloc] at this
    omega
  have hk6 := (Only.refl (fun k => k = r) w5).setCell ⟨r, 4, none⟩ (.slice (some ⟨g5, o5, none⟩) q.room.toNat c5) (fun _ => rfl)
  have hg6 := (blk_set hg5 4 (.slice (some ⟨g5, o5, none⟩) q.room.toNat c5)).trans rfl
  have hp6 := hp5.only hk6 (fun b e => by cases e; show ¬ (g5 = r); have := hlt.1; omega)
  have hH6 := ((hp4.only hkA (fun _ _ h => h)).only hk5 (fun _ _ h => h)).only hk6 (fun b e => by cases e; show ¬ (g3 = r); have := hlt.1; omega)
  have hO6 : Only (fun k => k = r) W (w5.setCell ⟨r, 4, none⟩ (.slice (some ⟨g5, o5, none⟩) q.room.toNat c5)) := ((hO4.then hkA (fun _ _ h => h.elim)).then hk5 (fun _ _ h => h.elim)).trans hk6
  generalize w5.setCell ⟨r, 4, none⟩ (.slice (some ⟨g5, o5, none⟩) q.room.toNat c5) = w6 at hg6 hp6 hH6 hO6 ⊢
  have hg35 : g3 < w4.heap.size := by
    obtain ⟨⟨g, off, cap, cur, e, hg, _⟩⟩ := hp4
    cases e
    exact heap_lt hg
  clear hk6 hp5 hp4 hB4 hg4 y4 xf5 y5 hg5 hk5 hkA hhA hb5 hO4
  simp only [List.setIfInBounds_toArray, List.set_cons_succ, List.set_cons_zero] at hg6
  have hg3W : W.heap.size ≤ g3 := Nat.le_trans HO2.out.size hg3w
  have hg5W : W.heap.size ≤ g5 := Nat.le_trans (Nat.le_trans HO2.out.size hs4) hg5w
  have hne : g3 ≠ g5 := by omega
  have hner : g3 ≠ r ∧ g5 ≠ r := by have := hlt.1; omega
  have hwin : q.room - (q.s.size : Int) ≤ (q.room.toNat : Int) := by omega
  clear hg35 hg5w hs4 hgl3 hg3w
  go_wp2_with fail
  go_loopw [13] (fun iv wr => ∃ i : Nat, iv = .int .i64 i ∧ i ≤ kp.toNat ∧ wr.heap[r]? = some (.cells #[.int .i64 q.next, .int .i64 q.room, .string q.s, .slice (some ⟨g3, o3, none⟩) q.room.toNat c3, .slice (some ⟨g5, o5, none⟩) q.room.toNat c5] 57 (0, 0)) ∧ PartAt wr 4 (.slice (some ⟨g3, o3, none⟩) q.room.toNat c3) q.room.toNat (fun x => .bool (lookA (putA s at_ sk q.A i) (beh q.next x)).isSome) ∧ (∃ B : Nat → Nat, PartAt wr 5 (.slice (some ⟨g5, o5, none⟩) q.room.toNat c5) q.room.toNat (fun x => .int .u8 (B x : Nat)) ∧ ∀ x, x < q.room.toNat → B x < 256 ∧ ∀ c, lookA (putA s at_ sk q.A i) (beh q.next x) = some c → B x = c) ∧ Only (fun k => k = r) W wr) (fun i _ => kp.toNat - (intOf i).toNat)
  case atStart => exact ⟨0, rfl, by omega, hg6, hH6, ⟨B, hp6, HC.out⟩, hO6⟩
  case round =>
    clear hg6 hH6 hp6 hO6 HC
    obtain ⟨i, rfl, hik, hg, hH, ⟨B, hB, hc⟩, hO⟩ := hrel
    have HCC := Lib.hid hc
    clear hc
    by_cases hlt2 : i < kp.toNat
    · obtain ⟨hw1, hw2⟩ := HPW.out i hlt2
      have hdi : d + i < q.room.toNat := by omega
      obtain ⟨u0, u1⟩ := hH.cell (d + i) hdi
      obtain ⟨u2, u3⟩ := hB.cell (d + i) hdi
      have z3 := blk_cell hg 3
      have z4 := blk_cell hg 4
      simp only [List.getElem?_toArray, List.getElem?_cons_zero, List.getElem?_cons_succ] at z3 z4
      have hik2 : (i : Int) < kp := by omega
      have hwr : IntKind.i64.wrap ((d : Int) + (i : Int)) = ((d + i : Nat) : Int) := by rw [IntKind.wrap_i64]; omega
      have hput : putA s at_ sk q.A (i + 1) = addA (putA s at_ sk q.A i) (beh q.next (d + i)) (s.data.toList.getD (sk.toNat + i) 0).toNat := by rw [hw2]; rfl
      have HPU := Lib.hid hput
      have HW2 := Lib.hid hw2
      have HH := Lib.hid hH
      have HB := Lib.hid hB
      have HG := Lib.hid hg
      clear hput hw2 hH hB hg hw1
      cases hb : (lookA (putA s at_ sk q.A i) (beh q.next (d + i))).isSome with
      | true =>
        rw [hb] at u0
        have HBT := Lib.hid hb
        clear hb u2 u3 u1
        go_wp2_with fail
        go_roundw
        have hsame : putA s at_ sk q.A (i + 1) = putA s at_ sk q.A i := by rw [HPU.out, addA_same HBT.out]
        case rel => exact ⟨i + 1, by go_num, by omega, HG.out, by rw [hsame]; exact HH.out, ⟨B, HB.out, by rw [hsame]; exact HCC.out⟩, hO⟩
        case measure => simp [intOf]; omega
      | false =>
        rw [hb] at u0
        have hnone : lookA (putA s at_ sk q.A i) (beh q.next (d + i)) = none := by
          cases hx : lookA (putA s at_ sk q.A i) (beh q.next (d + i)) with
          | none => rfl
          | some c => rw [hx] at hb; cases hb
        have HNN := Lib.hid hnone
        clear hb hnone
        go_upto_region 12 with fail
        have hk7 := (Only.refl (fun k => k = g3) wr).setCell ⟨g3, o3 + (d + i), none⟩ (.bool true) (fun _ => rfl)
        have hG7 := hk7.at HG.out (fun e => hner.1 e.symm)
        have hB7 := HB.out.only hk7 (fun b e => by cases e; show ¬ (g5 = g3); exact fun e => hne e.symm)
        have hH7 := HH.out.set (d + i) hdi (.bool true) (fun x => .bool (lookA (putA s at_ sk q.A (i + 1)) (beh q.next x)).isSome) (fun x hx => by
          rw [HPU.out, lay_one q.next _ (d + i) _ x (by omega) (by omega)]
          by_cases hxe : x = d + i
          · rw [if_pos hxe, if_pos hxe, HNN.out]
            rfl
          · rw [if_neg hxe, if_neg hxe])
        have hO7 : Only (fun k => k = r) W (wr.setCell ⟨g3, o3 + (d + i), none⟩ (.bool true)) := hO.then hk7 (fun k hk e => by omega)
        generalize wr.setCell ⟨g3, o3 + (d + i), none⟩ (.bool true) = w7 at hk7 hG7 hB7 hH7 hO7 ⊢
        obtain ⟨sN, rfl⟩ := Int.eq_ofNat_of_zero_le b1
        have hsi : sN + i < s.size := by omega
        have hwr2 : IntKind.i64.wrap ((sN : Int) + (i : Int)) = ((sN + i : Nat) : Int) := by rw [IntKind.wrap_i64]; omega
        have v4 := blk_cell hG7 4
        simp only [List.getElem?_toArray, List.getElem?_cons_zero, List.getElem?_cons_succ] at v4
        obtain ⟨t2, t3⟩ := hB7.cell (d + i) hdi
        have hi0 : 0 ≤ (sN : Int) + (i : Int) := by omega
        have hi1 : (sN : Int) + (i : Int) < (s.size : Int) := by omega
        have hj0 : 0 ≤ (d : Int) + (i : Int) := by omega
        have hj1 : (d : Int) + (i : Int) < max q.room 0 := by omega
        have hjn : ((d : Int) + (i : Int)).toNat = d + i := by omega
        clear hk7 u0 u1 u2 u3 z3 z4 HB HG HH
        refine wp_region_still_tail 13 (by kernel_rfl) (by kernel_rfl) ?_
        simp only [List.take_succ_cons, List.take_zero, List.drop_succ_cons, List.drop_zero]
        change wpStill _ _ (w7.drew) (fun a' => wpList _ _ _ _ _ (w7.drew)) _ _
        replace v4 : w7.drew.cell? ⟨r, 4, none⟩ = some (.slice (some ⟨g5, o5, none⟩) q.room.toNat c5) := v4
        replace t2 : w7.drew.cell? ⟨g5, o5 + (d + i), none⟩ = some (.int .u8 (B (d + i) : Nat)) := t2
        replace t3 : w7.drew.frozen? ⟨g5, o5 + (d + i), none⟩ = false := t3
        have hG8 : w7.drew.heap[r]? = _ := hG7
        have hB8 := hB7.only ((Only.refl (fun _ => False) w7).drewN 1) (fun _ _ h => h)
        have hH8 := hH7.only ((Only.refl (fun _ => False) w7).drewN 1) (fun _ _ h => h)
        have hO8 := hO7.drewN 1
        change PartAt w7.drew _ _ _ _ at hB8
        change PartAt w7.drew _ _ _ _ at hH8
        change Only _ _ w7.drew at hO8
        generalize w7.drew = w8 at v4 t2 t3 hG8 hB8 hH8 hO8 ⊢
        clear hG7 hB7 hH7 hO7
        repeat still_step
        refine wpStill_nil ?_
        go_wp2_with fail
        have hbyte : (s.data.toList.getD (((sN : Nat) : Int).toNat + i) 0).toNat = s[sN + i].toNat := by
          rw [Int.toNat_natCast, List.getD_eq_getElem?_getD, List.getElem?_eq_getElem (by simpa using hsi)]
          rfl
        have hBC : ∀ x, x < q.room.toNat → (if x = d + i then s[sN + i].toNat else B x) < 256 ∧ ∀ c, lookA (putA s at_ (sN : Int) q.A (i + 1)) (beh q.next x) = some c → (if x = d + i then s[sN + i].toNat else B x) = c := by
          intro x hx
          rw [HPU.out, lay_one q.next _ (d + i) _ x (by omega) (by omega), hbyte]
          by_cases hxe : x = d + i
          · rw [if_pos hxe, if_pos hxe, HNN.out]
            exact ⟨UInt8.toNat_lt _, fun c e => Option.some.inj e⟩
          · rw [if_neg hxe, if_neg hxe]
            exact HCC.out x hx
        go_roundw
        have hk9 := (Only.refl (fun k => k = g5) w8).setCell ⟨g5, o5 + (d + i), none⟩ (.int .u8 (s[sN + i].toNat : Nat)) (fun _ => rfl)
        case rel => exact ⟨i + 1, by go_num, by omega, hk9.at hG8 (fun e => hner.2 e.symm), hH8.only hk9 (fun b e => by cases e; exact hne), ⟨fun x => if x = d + i then s[sN + i].toNat else B x, hB8.set (d + i) hdi _ _ (fun x hx => by by_cases hxe : x = d + i <;> simp [hxe]), hBC⟩, hO8.then hk9 (fun k hk e => by omega)⟩
        case measure => simp [intOf]; omega
    · have hie : i = kp.toNat := by omega
      rw [hie, ← HLA.out] at hH
      have hBL : ∀ x, x < q.room.toNat → B x < 256 ∧ ∀ c, lookA (q.laid at_ s).A (beh q.next x) = some c → B x = c := by
        have := HCC.out
        rw [hie, ← HLA.out] at this
        exact this
      obtain ⟨pc1, pc2, pc3, pc4, pc5, pc6⟩ := put_comes q HI.out at_ s a0 a1 hs
      have hcN : q.came at_ s ≤ q.room.toNat := by omega
      have z1 := blk_cell hg 1
      have z3 := blk_cell hg 3
      simp only [List.getElem?_toArray, List.getElem?_cons_zero, List.getElem?_cons_succ] at z1 z3
      have hki : ¬ (i : Int) < kp := by omega
      have HIE := Lib.hid hie
      have HBL := Lib.hid hBL
      have PC := Lib.hid (show _ ∧ _ ∧ _ ∧ _ ∧ _ ∧ _ from ⟨pc1, pc2, pc3, pc4, pc5, pc6⟩)
      have HH := Lib.hid hH
      have HG := Lib.hid hg
      have HB := Lib.hid hB
      clear hie hBL pc1 pc2 pc3 pc4 pc5 pc6 hH hg hB HCC HPW
      go_wp2_with fail
      go_loopw [14] (fun nv wn => ∃ n : Nat, nv = .int .i64 n ∧ n ≤ q.came at_ s ∧ wn = wr) (fun v _ => q.came at_ s - (intOf v).toNat)
      case atStart => exact ⟨0, rfl, by omega, rfl⟩
      case round =>
        obtain ⟨n, rfl, hn, rfl⟩ := hrel
        by_cases hnc : n < q.came at_ s
        · obtain ⟨u0, u1⟩ := HH.out.cell n (by omega)
          rw [PC.out.2.1 n hnc] at u0
          have hnr : (n : Int) < q.room := by omega
          go_wp2_with fail
          go_roundw
          case rel => exact ⟨n + 1, by go_num, by omega, by first | rfl | trivial⟩
          case measure => simp [intOf]; omega
        · have HN := Lib.hid (show n = q.came at_ s by omega)
          have hnN : n ≤ q.room.toNat := by omega
          have hcaps : n ≤ c5 ∧ n ≤ c3 ∧ ¬ c5 = 0 ∧ ¬ c3 = 0 ∧ q.room.toNat ≤ c3 ∧ q.room.toNat ≤ c5 := by
            obtain ⟨⟨ga, offa, capa, cura, ea, _, h1a, _⟩⟩ := HH.out
            obtain ⟨⟨gb, offb, capb, curb, eb, _, h1b, _⟩⟩ := HB.out
            cases ea
            cases eb
            omega
          obtain ⟨hcp5, hcp3, hc50, hc30, hNc3, hNc5⟩ := hcaps
          have hcv := run_convert_bytes_arg (P := Try.prog) wr.drew 42 5 Try.underlying42 Try.underlying5 g5 o5 n c5 ((List.range n).map fun i => ((B i : Nat) : Int)) (by simp) (fun i hi => by
            have h1 : wr.drew.cell? ⟨g5, o5 + i, none⟩ = some (.int .u8 (B i : Nat)) := (HB.out.cell i (by omega)).1
            rw [h1]
            simp [List.getD, hi]) 9 Try.underlying9
          have hTT : strOfNums ((List.range n).map fun i => ((B i : Nat) : Int)) = bytesOf (q.laid at_ s).drained.2.2 := by
            have hnl : n = (q.laid at_ s).drained.2.2.length := HN.out
            unfold bytesOf
            congr 1
            apply List.ext_getElem
            · simp [← hnl]
            · intro j h1 h2
              have hjn : j < n := by simpa using h1
              have h3 := PC.out.2.1 j (by rw [← HN.out]; exact hjn)
              have h4 := (HBL.out j (by omega)).2 _ h3
              simp only [List.getElem_map, List.getElem_range]
              rw [h4, List.getD_eq_getElem?_getD, List.getElem?_eq_getElem (by omega)]
              rfl
          have HTT := Lib.hid hTT
          have hTs : (strOfNums ((List.range n).map fun i => ((B i : Nat) : Int))).size = n := by rw [strOfNums_size]; simp
          clear hTT
          generalize strOfNums ((List.range n).map fun i => ((B i : Nat) : Int)) = T at hcv HTT hTs
          have hTb : q.s.size + T.size ≤ 100000 := by omega
          have HTs := Lib.hid hTs
          clear hTs
          have z2 := blk_cell HG.out 2
          have z4 := blk_cell HG.out 4
          have zf := blk_free HG.out 2
          simp only [List.getElem?_toArray, List.getElem?_cons_zero, List.getElem?_cons_succ] at z2 z4
          have hEX : n < q.room.toNat ∨ ¬ n < q.room.toNat := by omega
          have hn64 : (n : Int) ≤ 3000 := by omega
          rcases hEX with hnr | hnr
          case' inl =>
            obtain ⟨u0, u1⟩ := HH.out.cell n hnr
            have hnone := PC.out.2.2.1
            rw [← HN.out] at hnone
            rw [hnone] at u0
            simp only [Option.isSome_none] at u0
            have hnr2 : (n : Int) < q.room := by omega
            clear hnone
            go_upto_region 16 with fail
            clear u0 u1 hnr2
          case' inr =>
            have hnr2 : ¬ (n : Int) < q.room := by omega
            go_upto_region 16 with fail
            clear hnr2
          all_goals
            go_region
            have hk1 : Only (fun k => k = r) wr (wr.setCell ⟨r, 2, none⟩ (.string (q.s ++ T))).drew := ((Only.refl (fun k => k = r) wr).setCell ⟨r, 2, none⟩ (.string (q.s ++ T)) (fun _ => rfl)).drew
            have hG1 : (wr.setCell ⟨r, 2, none⟩ (.string (q.s ++ T))).drew.heap[r]? = some (.cells #[.int .i64 q.next, .int .i64 q.room, .string (q.s ++ T), .slice (some ⟨g3, o3, none⟩) q.room.toNat c3, .slice (some ⟨g5, o5, none⟩) q.room.toNat c5] 57 (0, 0)) := (blk_set HG.out 2 (.string (q.s ++ T))).trans rfl
            have hH1 := HH.out.only hk1 (fun b e => by cases e; exact hner.1)
            have hB1 := HB.out.only hk1 (fun b e => by cases e; exact hner.2)
            have hO1 := hO.trans hk1
            clear hcv z1 z2 z3 z4 zf HG HH HB
            generalize (wr.setCell ⟨r, 2, none⟩ (.string (q.s ++ T))).drew = wa at hk1 hG1 hH1 hB1 hO1 ⊢
            clear hk1
            have y0 := blk_cell hG1 0
            have yf := blk_free hG1 0
            simp only [List.getElem?_toArray, List.getElem?_cons_zero, List.getElem?_cons_succ] at y0
            have hqn : 0 ≤ q.next + (n : Int) := by omega
            go_wp2_with fail
            refine (rmod_any (q.next + (n : Int)) _ (by omega) (by omega)).mono ?_
            rintro e _ ⟨rfl, rfl⟩
            go_upto_region 18 with fail
            have hk2 : Only (fun k => k = r) wa (wa.setCell ⟨r, 0, none⟩ (.int .i64 ((q.next + (n : Int)) % 4294967296))) := ((Only.refl (fun k => k = r) wa).setCell ⟨r, 0, none⟩ (.int .i64 ((q.next + (n : Int)) % 4294967296)) (fun _ => rfl))
            have hG2 : (wa.setCell ⟨r, 0, none⟩ (.int .i64 ((q.next + (n : Int)) % 4294967296))).heap[r]? = some (.cells #[.int .i64 ((q.next + (n : Int)) % 4294967296), .int .i64 q.room, .string (q.s ++ T), .slice (some ⟨g3, o3, none⟩) q.room.toNat c3, .slice (some ⟨g5, o5, none⟩) q.room.toNat c5] 57 (0, 0)) := (blk_set hG1 0 (.int .i64 ((q.next + (n : Int)) % 4294967296))).trans rfl
            have hH2 := hH1.only hk2 (fun b e => by cases e; exact hner.1)
            have hB2 := hB1.only hk2 (fun b e => by cases e; exact hner.2)
            have hO2 := hO1.trans hk2
            clear hH1 hB1 hO1 y0 yf hG1
            generalize wa.setCell ⟨r, 0, none⟩ (.int .i64 ((q.next + (n : Int)) % 4294967296)) = wb at hk2 hG2 hH2 hB2 hO2 ⊢
            clear hk2
            have y3 := blk_cell hG2 3
            simp only [List.getElem?_toArray, List.getElem?_cons_zero, List.getElem?_cons_succ] at y3
            obtain ⟨ga, offa, capa, cur3, ea, hg3, h13, h23, h33, h43⟩ := hH2.lies
            cases ea
            obtain ⟨o3', ho3, ho3b⟩ : ∃ o' : Nat, (if c3 = n then (some ⟨g3, o3, none⟩ : Option Addr) else some ⟨g3, o3 + n, none⟩) = some ⟨g3, o', none⟩ ∧ (o' = o3 + n ∨ (c3 = n ∧ o' = o3)) := by
              by_cases hcn : c3 = n
              · exact ⟨o3, by rw [if_pos hcn], .inr ⟨hcn, rfl⟩⟩
              · exact ⟨o3 + n, by rw [if_neg hcn], .inl rfl⟩
            have HO3 := Lib.hid ho3
            clear ho3
            have hM1 : q.room.toNat - n ≤ c3 - n := by omega
            have hM2 : o3' + (c3 - n) ≤ cur3.size := by omega
            have hM3 : c3 - n ≤ maxLen := by omega
            have hM4 : q.room.toNat - n + n ≤ 1000000 := by omega
            have HPT3 := Lib.hid (part_tail h43 ho3b h13)
            clear ho3b h43
            go_upto_region 19 with (at_builtin; refine wpList_append_zeros wb rfl _ _ 55 3 rfl 4 i4 (.bool false) Try.underlying55 Try.underlying3 hi4 hi4z rfl rfl hi4s hi4b g3 o3' (q.room.toNat - n) (c3 - n) n cur3 (fun x => .bool (lookA (q.laid at_ s).A (beh q.next (n + x))).isSome) ?_ rfl hg3 hM1 hM2 hM3 HPT3.out hM4 ?_; (· first | (go_simp; done) | (go_simp; exact HO3.out)); intro v7 w7 hp7 hk7 hb7; rw [Nat.sub_add_cancel hnN] at hp7; obtain ⟨g7, o7, c7, rfl⟩ := hp7.form; have hG7 := hk7.at hG2 (fun e => hner.1 e.symm); have xf7 := blk_free hG7 3; have y73 := blk_cell hG7 3; simp only [List.getElem?_toArray, List.getElem?_cons_zero, List.getElem?_cons_succ] at y73)
            have hb7' := hb7 g7 rfl
            have hwb : W.heap.size ≤ wb.heap.size := hO2.size
            have hr7 : g7 ≠ r := by
              rcases hb7' with h | h
              · rw [h]; exact hner.1
              · have := heap_lt hG2; omega
            have h75 : g5 ≠ g7 := by
              have hl5 : g5 < wb.heap.size := by
                obtain ⟨⟨g, off, cap, cur, e, hg, _⟩⟩ := hB2
                cases e
                exact heap_lt hg
              rcases hb7' with h | h
              · rw [h]; exact fun e => hne e.symm
              · omega
            have h7W : W.heap.size ≤ g7 := by
              rcases hb7' with h | h
              · rw [h]; exact hg3W
              · omega
            have hk8 : Only (fun k => k = r) w7 (w7.setCell ⟨r, 3, none⟩ (.slice (some ⟨g7, o7, none⟩) q.room.toNat c7)) := (Only.refl (fun k => k = r) w7).setCell ⟨r, 3, none⟩ _ (fun _ => rfl)
            have hG8 : (w7.setCell ⟨r, 3, none⟩ (.slice (some ⟨g7, o7, none⟩) q.room.toNat c7)).heap[r]? = some (.cells #[.int .i64 ((q.next + (n : Int)) % 4294967296), .int .i64 q.room, .string (q.s ++ T), .slice (some ⟨g7, o7, none⟩) q.room.toNat c7, .slice (some ⟨g5, o5, none⟩) q.room.toNat c5] 57 (0, 0)) := (blk_set hG7 3 (.slice (some ⟨g7, o7, none⟩) q.room.toNat c7)).trans rfl
            have hH8 := hp7.only hk8 (fun b e => by cases e; exact hr7)
            have hB8 := (hB2.only hk7 (fun b e => by cases e; exact fun e => hne e.symm)).only hk8 (fun b e => by cases e; exact hner.2)
            have hO8 := (hO2.then hk7 (fun k hk e => by omega)).trans hk8
            clear hp7 hk7 hb7 hG7 xf7 y73 hG2 hH2 hB2 hO2 hwb y3 hg3
            generalize w7.setCell ⟨r, 3, none⟩ (.slice (some ⟨g7, o7, none⟩) q.room.toNat c7) = w8 at hk8 hG8 hH8 hB8 hO8 ⊢
            clear hk8
            have y4 := blk_cell hG8 4
            simp only [List.getElem?_toArray, List.getElem?_cons_zero, List.getElem?_cons_succ] at y4
            obtain ⟨gb, offb, capb, cur5, eb, hg5, h15, h25, h35, h45⟩ := hB8.lies
            cases eb
            obtain ⟨o5', ho5, ho5b⟩ : ∃ o' : Nat, (if c5 = n then (some ⟨g5, o5, none⟩ : Option Addr) else some ⟨g5, o5 + n, none⟩) = some ⟨g5, o', none⟩ ∧ (o' = o5 + n ∨ (c5 = n ∧ o' = o5)) := by
              by_cases hcn : c5 = n
              · exact ⟨o5, by rw [if_pos hcn], .inr ⟨hcn, rfl⟩⟩
              · exact ⟨o5 + n, by rw [if_neg hcn], .inl rfl⟩
            have HO5 := Lib.hid ho5
            clear ho5
            have hM5 : q.room.toNat - n ≤ c5 - n := by omega
            have hM6 : o5' + (c5 - n) ≤ cur5.size := by omega
            have hM7 : c5 - n ≤ maxLen := by omega
            have HPT5 := Lib.hid (part_tail h45 ho5b h15)
            clear ho5b h45 hb7'
            go_wp2_with (at_builtin; refine wpList_append_zeros w8 rfl _ _ 42 3 rfl 5 i5 (.int .u8 0) Try.underlying42 Try.underlying3 hi5 hi5z rfl rfl hi5s hi5b g5 o5' (q.room.toNat - n) (c5 - n) n cur5 (fun x => .int .u8 (B (n + x) : Nat)) ?_ rfl hg5 hM5 hM6 hM7 HPT5.out hM4 ?_; (· first | (go_simp; done) | (go_simp; exact HO5.out)); intro v9 w9 hp9 hk9 hb9; rw [Nat.sub_add_cancel hnN] at hp9; obtain ⟨g9, o9, c9, rfl⟩ := hp9.form; have hG9 := hk9.at hG8 (fun e => hner.2 e.symm); have xf9 := blk_free hG9 4; have y94 := blk_cell hG9 4; simp only [List.getElem?_toArray, List.getElem?_cons_zero, List.getElem?_cons_succ] at y94)
            all_goals
              have hb9' := hb9 g9 rfl
              have hr9 : g9 ≠ r := by
                rcases hb9' with h | h
                · rw [h]; exact hner.2
                · have := heap_lt hG8; omega
              have h9W : W.heap.size ≤ g9 := by
                rcases hb9' with h | h
                · rw [h]; exact hg5W
                · have := hO8.size; omega
              have hkA : Only (fun k => k = r) w9 (w9.setCell ⟨r, 4, none⟩ (.slice (some ⟨g9, o9, none⟩) q.room.toNat c9)) := (Only.refl (fun k => k = r) w9).setCell ⟨r, 4, none⟩ _ (fun _ => rfl)
              have hGA : (w9.setCell ⟨r, 4, none⟩ (.slice (some ⟨g9, o9, none⟩) q.room.toNat c9)).heap[r]? = some (.cells #[.int .i64 ((q.next + (n : Int)) % 4294967296), .int .i64 q.room, .string (q.s ++ T), .slice (some ⟨g7, o7, none⟩) q.room.toNat c7, .slice (some ⟨g9, o9, none⟩) q.room.toNat c9] 57 (0, 0)) := (blk_set hG9 4 (.slice (some ⟨g9, o9, none⟩) q.room.toNat c9)).trans rfl
              have hHA := (hH8.only hk9 (fun b e => by cases e; exact fun e => h75 e.symm)).only hkA (fun b e => by cases e; exact hr7)
              have hBA := hp9.only hkA (fun b e => by cases e; exact hr9)
              have hOA := (hO8.then hk9 (fun k hk e => by omega)).trans hkA
              have hfin := rput_fin _ r g7 o7 c7 g9 o9 c9 n q at_ s T B HI.out a0 a1 hs HN.out hnN r1 HTT.out hGA hHA hBA HBL.out
              have HF := Lib.hid hfin
              have HOA := Lib.hid hOA
              clear hfin hOA hHA hBA hGA hkA hp9 hk9 hb9 hG9 y94 hG8 hH8 hB8 hO8
              go_ret2
              first | exact ⟨g7, g9, ret_came HN.out, HF.out, h7W, h9W, HOA.out⟩ | exact ⟨ret_came HN.out, g7, g9, HF.out, h7W, h9W, HOA.out⟩

end Go.Proofs.Ytbpmbmidjdhbpaa

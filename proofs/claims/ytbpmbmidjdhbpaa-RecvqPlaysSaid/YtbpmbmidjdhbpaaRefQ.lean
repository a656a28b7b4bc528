/-
  The reference queue of sternpostref16 in memory: New.
  Conditions: rooms of at most 3000.
-/
import Derived.Test.YtbpmbmidjdhbpaaRefSeq
import Derived.Test.YtbpmbmidjdhbpaaZeros
import Derived.Test.YtbpmbmidjdhbpaaFacts
import Derived.Test.YtbpmbmidjdhbpaaApartLaw
import Derived.Test.YtbpmbmidjdhbpaaRecvPut
set_option linter.unusedVariables false
set_option linter.unusedSimpArgs false
set_option maxRecDepth 100000
namespace Go.Proofs.Ytbpmbmidjdhbpaa
open Go.RowKit
attribute [local go_sem] max_ii min_ii

theorem info4b : (Try.prog.info? 4).map (fun i => (i.zero, i.size, i.bytes)) = some (some (.bool false), 1, 1) := by kernel_rfl

theorem make_part {P : Program} (w : World) (t e : TypeId) (i : TypeInfo) (z : Value) (ht : P.underlying t = some (.slice e)) (hi : P.info? e = some i) (hz : i.zero = some z) (hs : i.size = 1) (hb : i.bytes = 1) (hzc : z.cells = #[z])
    (n : Nat) (hn : n ≤ 1000000) :
    ∃ w', (Instr.makeSlice t (.int .i64 (n : Int)) (.int .i64 (n : Int))).run P w = .ok (.slice (some ⟨w.heap.size, 0, none⟩) n n) w' ∧
      PartAt w' e (.slice (some ⟨w.heap.size, 0, none⟩) n n) n (fun _ => z) ∧ Only (fun _ => False) w w' := by
  obtain ⟨w', h1, h2, h3⟩ := run_make_full (P := P) w w.heap.size t e i z 1 ht hi hz hs .i64 .i64 n (by rw [hb]; omega) (by simp only [maxLen]; omega) (Nat.le_refl _)
  refine ⟨w', h1, ?_, (Only.refl (fun _ => False) w).then (Only.of_grown h3) (fun _ _ e => by cases e)⟩
  obtain ⟨h4, ⟨h5, _⟩ | ⟨g, cap, cur, h5, _, hg, hc, hm, hs2, ht2⟩⟩ := h2
  · cases h5
  · injection h5 with e1 e2 e3
    injection e1 with e1
    injection e1 with e1
    subst e1
    subst e3
    refine ⟨_, 0, n, cur, rfl, hg, Nat.le_refl _, by omega, hm, fun d hd => ?_⟩
    rw [hzc, Nat.mul_one, toList_madeCells_one] at ht2
    have h6 : (cur.toList.take n)[d]? = some z := by rw [ht2, List.getElem?_replicate, if_pos hd]
    rw [List.getElem?_take, if_pos hd, Array.getElem?_toList] at h6
    rw [Nat.zero_add]
    exact h6

/-- Whether the number so far behind next is there. -/
def hereB (q : QS) (d : Nat) : Bool := (lookA q.A (beh q.next d)).isSome

/-- The reference queue. -/
def RAt (w : World) (r hb bb : Nat) (q : QS) : Prop := ∃ hv bv, hv.ownBlock = some hb ∧ bv.ownBlock = some bb ∧ w.heap[r]? = some (.cells #[.int .i64 q.next, .int .i64 q.room, .string q.s, hv, bv] 57 (0, 0)) ∧
  PartAt w 4 hv q.room.toNat (fun d => .bool (hereB q d)) ∧ ∃ B : Nat → Nat, PartAt w 5 bv q.room.toNat (fun d => .int .u8 (B d : Nat)) ∧ ∀ d, d < q.room.toNat → B d < 256 ∧ ∀ c, lookA q.A (beh q.next d) = some c → B d = c

theorem RAt.only {w w' : World} {r hb bb : Nat} {q : QS} {S : Nat → Prop} (h : RAt w r hb bb q) (hk : Only S w w') (hr : ¬ S r) (h1 : ¬ S hb) (h2 : ¬ S bb) : RAt w' r hb bb q := by
  obtain ⟨hv, bv, e1, e2, hg, hh, B, hB, hc⟩ := h
  exact ⟨hv, bv, e1, e2, hk.at hg hr, hh.only hk (fun b e => by rw [e1] at e; cases e; exact h1), B, hB.only hk (fun b e => by rw [e2] at e; cases e; exact h2), hc⟩

def rnG (W : World) (q : QS) : Nat → Value → World → Prop
  | 0, v, w' => v = .int .i64 q.next
  | 1, v, w' => v = .int .i64 q.room
  | 2, v, w' => v = .int .i64 q.room
  | 3, v, w' => ∃ b, v = .slice (some ⟨b, 0, none⟩) q.room.toNat q.room.toNat ∧ W.heap.size ≤ b ∧ PartAt w' 4 v q.room.toNat (fun _ => .bool false)
  | 4, v, w' => v = .int .i64 q.room
  | 5, v, w' => ∃ b, v = .slice (some ⟨b, 0, none⟩) q.room.toNat q.room.toNat ∧ W.heap.size ≤ b ∧ PartAt w' 5 v q.room.toNat (fun _ => .int .u8 0)
  | _, _, _ => True
def rnDs : List Nat := [17, 18, 19, 20, 21, 22]
def rnNeed : List (List Nat) := [[], [], [], [2], [], [4]]
def rnGs : List (Option Bool) := []
theorem rnG.keep {W : World} {q : QS} : ∀ j v w w', rnG W q j v w → Only (fun _ => False) w w' → rnG W q j v w' := by
  intro j v w w' h hO
  match j with
  | 0 => exact h
  | 1 => exact h
  | 2 => exact h
  | 3 => exact (by obtain ⟨b, e1, e2, e3⟩ := h; exact ⟨b, e1, e2, e3.only hO (fun _ _ h => h)⟩)
  | 4 => exact h
  | 5 => exact (by obtain ⟨b, e1, e2, e3⟩ := h; exact ⟨b, e1, e2, e3.only hO (fun _ _ h => h)⟩)
  | n + 6 => trivial
theorem rnG.guard {W : World} {q : QS} : ∀ g' b', rnGs.getD g' none = some b' → ∀ v w, rnG W q g' v w → v = .bool b' := by
  intro g' b' hbb v w hgg
  match g', hbb, hgg with
  | n' + 0, hbb, hgg => exact absurd hbb (by simp [rnGs])

theorem rnew_bad (first room : Int) (w : World) (h : ¬ ((0 ≤ first ∧ first < 4294967296) ∧ 1 ≤ room ∧ room ≤ 65536)) :
    Calls Try.prog 19 #[.int .i64 first, .int .i64 room] w fun e w' => e = .returned (.tuple #[.pointer none, .int .i64 1]) ∧ w = w' := by
  by_cases hf : 0 ≤ first ∧ first < 4294967296
  · have hr : room < 1 ∨ (1 ≤ room ∧ 65536 < room) := by omega
    clear h
    obtain ⟨h0, h1⟩ := hf
    rcases hr with hr | ⟨hr, hr2⟩
    · have d1 : decide (room < 1) = true := decide_eq_true hr
      go_enter Try.func19, Try.ntmps19
      go_wp2_with fail
      refine (rcheck_ok first _ h0 h1).mono ?_
      rintro e _ ⟨rfl, rfl⟩
      go_wp2_with fail
      go_ret2
      exact ⟨rfl, rfl⟩
    · have d1 : decide (room < 1) = false := decide_eq_false (by omega)
      have d2 : decide (65536 < room) = true := decide_eq_true hr2
      go_enter Try.func19, Try.ntmps19
      go_wp2_with fail
      refine (rcheck_ok first _ h0 h1).mono ?_
      rintro e _ ⟨rfl, rfl⟩
      go_wp2_with fail
      go_ret2
      exact ⟨rfl, rfl⟩
  · have HF := Lib.hid hf
    clear h hf
    go_enter Try.func19, Try.ntmps19
    go_wp2_with fail
    refine (rcheck_bad first _ HF.out).mono ?_
    rintro e _ ⟨rfl, rfl⟩
    go_wp2_with fail
    go_ret2
    exact ⟨rfl, rfl⟩

theorem RAt.c0 {w : World} {r hb bb : Nat} {q : QS} (h : RAt w r hb bb q) : w.cell? ⟨r, 0, none⟩ = some (.int .i64 q.next) := by
  obtain ⟨_, _, _, _, hg, _⟩ := h
  exact (blk_cell hg 0).trans rfl
theorem RAt.c1 {w : World} {r hb bb : Nat} {q : QS} (h : RAt w r hb bb q) : w.cell? ⟨r, 1, none⟩ = some (.int .i64 q.room) := by
  obtain ⟨_, _, _, _, hg, _⟩ := h
  exact (blk_cell hg 1).trans rfl
theorem RAt.c2 {w : World} {r hb bb : Nat} {q : QS} (h : RAt w r hb bb q) : w.cell? ⟨r, 2, none⟩ = some (.string q.s) := by
  obtain ⟨_, _, _, _, hg, _⟩ := h
  exact (blk_cell hg 2).trans rfl
theorem RAt.lt {w : World} {r hb bb : Nat} {q : QS} (h : RAt w r hb bb q) : r < w.heap.size ∧ hb < w.heap.size ∧ bb < w.heap.size := by
  obtain ⟨hv, bv, e1, e2, hg, ⟨_, _, _, _, rfl, h1, _⟩, _, ⟨_, _, _, _, rfl, h2, _⟩, _⟩ := h
  cases e1
  cases e2
  exact ⟨heap_lt hg, heap_lt h1, heap_lt h2⟩

theorem RAt.ne {w : World} {r hb bb : Nat} {q : QS} (h : RAt w r hb bb q) : hb ≠ r ∧ bb ≠ r ∧ hb ≠ bb := by
  obtain ⟨hv, bv, e1, e2, hg, ⟨_, _, _, _, rfl, h1, _⟩, _, ⟨_, _, _, _, rfl, h2, _⟩, _⟩ := h
  cases e1
  cases e2
  refine ⟨fun e => ?_, fun e => ?_, fun e => ?_⟩
  · simp only at e
    rw [e, hg] at h1
    injection h1 with h1
    injection h1 with _ h1
    revert h1
    decide
  · simp only at e
    rw [e, hg] at h2
    injection h2 with h2
    injection h2 with _ h2
    revert h2
    decide
  · simp only at e
    rw [e, h2] at h1
    injection h1 with h1
    injection h1 with _ h1
    revert h1
    decide

/-- A field of the reference queue that is turned. -/
theorem RAt.set {w : World} {r hb bb : Nat} {q : QS} (h : RAt w r hb bb q) (s : ByteArray) : RAt (w.setCell ⟨r, 2, none⟩ (.string s)) r hb bb { q with s := s } := by
  obtain ⟨n1, n2, _⟩ := h.ne
  have hk := (Only.refl (fun k => k = r) w).setCell ⟨r, 2, none⟩ (.string s) (fun _ => rfl)
  obtain ⟨hv, bv, e1, e2, hg, hh, B, hB, hc⟩ := h
  refine ⟨hv, bv, e1, e2, ?_, hh.only hk (fun b e => by rw [e1] at e; cases e; exact n1), B, hB.only hk (fun b e => by rw [e2] at e; cases e; exact n2), hc⟩
  exact (blk_set hg 2 _).trans rfl

theorem rread (w : World) (r hb bb : Nat) (q : QS) (most : Int) (h : RAt w r hb bb q) (hs : q.s.size ≤ 1099511627776) : Calls Try.prog 32 #[.pointer (some ⟨r, 0, none⟩), .int .i64 most] w fun e w' => e = .returned (.string (q.s.extract 0 (q.many most))) ∧ RAt w' r hb bb (q.read most) ∧ Only (fun k => k = r) w w' := by
  have x2 := h.c2
  have xf : w.frozen? ⟨r, 2, none⟩ = false := by
    obtain ⟨_, _, _, _, hg, _⟩ := h
    exact blk_free hg 2
  have H := Lib.hid h
  have m0 : 0 ≤ mx 0 (mn most q.s.size) := by unfold mx; omega
  have m1 : mx 0 (mn most q.s.size) ≤ (q.s.size : Int) := by unfold mx mn; omega
  clear h
  go_enter Try.func32, Try.ntmps32
  go_wp2_with fail
  go_ret
  exact ⟨rfl, H.out.set _, (Only.refl _ w).setCell _ _ (fun _ => rfl)⟩

theorem rwindow (w : World) (r hb bb : Nat) (q : QS) (h : RAt w r hb bb q) (hr : q.s.size ≤ q.room) (h1 : q.room ≤ 65536) : Calls Try.prog 23 #[.pointer (some ⟨r, 0, none⟩)] w fun e w' => e = .returned (.int .i64 (q.room - q.s.size)) ∧ ∃ n, w' = w.drewN n := by
  have x1 := h.c1
  have x2 := h.c2
  clear h
  go_enter Try.func23, Try.ntmps23
  go_wp2_with fail
  go_quiet (fail)
  go_wp2_with fail
  go_ret
  exact ⟨rfl, _, rfl⟩

set_option maxHeartbeats 2000000 in
theorem rnew (first room : Int) (W : World) (h0 : 0 ≤ first) (h1 : first < 4294967296) (r0 : 1 ≤ room) (r1 : room ≤ 3000) :
    Calls Try.prog 19 #[.int .i64 first, .int .i64 room] W fun e w' => ∃ r hb bb, e = .returned (.tuple #[.pointer (some ⟨r, 0, none⟩), .int .i64 0]) ∧ W.heap.size ≤ r ∧ W.heap.size ≤ hb ∧ W.heap.size ≤ bb ∧ RAt w' r hb bb ⟨first, room, ⟨#[]⟩, []⟩ ∧ Only (fun _ => False) W w' := by
  obtain ⟨i4, hi4, hi4z, hi4s, hi4b⟩ := info_parts info4b
  obtain ⟨i5, hi5, hi5z, hi5s, hi5b⟩ := info_parts info5
  have d1 : decide (room < 1) = false := decide_eq_false (by omega)
  have d2 : decide (65536 < room) = false := decide_eq_false (by omega)
  have HO : Hid (Only (fun _ => False) W W.drew) := Lib.hid ((Only.refl (fun _ => False) W).drewN 1)
  have R0 := Lib.hid r0
  have R1 := Lib.hid r1
  go_enter Try.func19, Try.ntmps19
  go_wp2_with fail
  refine (rcheck_ok first _ h0 h1).mono ?_
  rintro e _ ⟨rfl, rfl⟩
  clear r0 r1
  go_wp2_with fail
  have hq : (⟨first, room, ⟨#[]⟩, []⟩ : QS).next = first ∧ (⟨first, room, ⟨#[]⟩, []⟩ : QS).room = room := ⟨rfl, rfl⟩
  obtain ⟨hq1, hq2⟩ := hq
  have HQ1 := Lib.hid hq1
  have HQ2 := Lib.hid hq2
  clear hq1 hq2
  refine wp_region_facts_tail 6 rnDs rnNeed rnGs (fun w' => Only (fun _ => False) W w' ∧ True) (Only (fun _ => False)) (rnG W ⟨first, room, ⟨#[]⟩, []⟩) rfl rfl (by kernel_rfl) (by kernel_rfl) (by kernel_rfl) (by kernel_rfl) (by kernel_rfl) ⟨HO.out, trivial⟩ rnG.keep rnG.guard ?_ ?_
  · refine And.intro ?op0 (And.intro ?op1 (And.intro ?op2 (And.intro ?op3 (And.intro ?op4 (And.intro ?op5 trivial)))))
    case op0 =>
      intro ev w1 hT1 hc hf hfr hG
      rw [if_pos (by decide)]
      obtain ⟨hO, _⟩ := hT1
      have h0 : ev (.tmp 0) = .int .i64 first := hfr 0 (by decide)
      clear hG hfr
      refine OpSays.value (v := .int .i64 first) (w' := w1) ?_ ⟨⟨hO, trivial⟩, Only.refl _ _, rfl⟩
      go_simp
    case op1 =>
      intro ev w1 hT1 hc hf hfr hG
      rw [if_pos (by decide)]
      obtain ⟨hO, _⟩ := hT1
      have h1 : ev (.tmp 1) = .int .i64 room := hfr 1 (by decide)
      clear hG hfr
      refine OpSays.value (v := .int .i64 room) (w' := w1) ?_ ⟨⟨hO, trivial⟩, Only.refl _ _, rfl⟩
      go_simp
    case op2 =>
      intro ev w1 hT1 hc hf hfr hG
      rw [if_pos (by decide)]
      obtain ⟨hO, _⟩ := hT1
      have h1 : ev (.tmp 1) = .int .i64 room := hfr 1 (by decide)
      clear hG hfr
      refine OpSays.value (v := .int .i64 room) (w' := w1) ?_ ⟨⟨hO, trivial⟩, Only.refl _ _, rfl⟩
      go_simp
    case op3 =>
      intro ev w1 hT1 hc hf hfr hG
      rw [if_pos (by decide)]
      obtain ⟨hO, _⟩ := hT1
      have hg : (ev (.tmp 19) = .int .i64 room) ∧ True := hG
      obtain ⟨g2, _⟩ := hg
      clear hG hfr
      obtain ⟨w2, hr, hp, hk⟩ := make_part w1 55 4 i4 (.bool false) Try.underlying55 hi4 hi4z hi4s hi4b rfl room.toNat (by have := R1.out; omega)
      rw [show ((room.toNat : Nat) : Int) = room from Int.toNat_of_nonneg (by have := R0.out; omega)] at hr
      refine OpSays.value (v := .slice (some ⟨w1.heap.size, 0, none⟩) room.toNat room.toNat) (w' := w2) ?_ ⟨⟨hO.trans hk, trivial⟩, hk, w1.heap.size, rfl, hO.size, hp⟩
      go_simp
    case op4 =>
      intro ev w1 hT1 hc hf hfr hG
      rw [if_pos (by decide)]
      obtain ⟨hO, _⟩ := hT1
      have h1 : ev (.tmp 1) = .int .i64 room := hfr 1 (by decide)
      clear hG hfr
      refine OpSays.value (v := .int .i64 room) (w' := w1) ?_ ⟨⟨hO, trivial⟩, Only.refl _ _, rfl⟩
      go_simp
    case op5 =>
      intro ev w1 hT1 hc hf hfr hG
      rw [if_pos (by decide)]
      obtain ⟨hO, _⟩ := hT1
      have hg : (ev (.tmp 21) = .int .i64 room) ∧ True := hG
      obtain ⟨g4, _⟩ := hg
      clear hG hfr
      obtain ⟨w2, hr, hp, hk⟩ := make_part w1 42 5 i5 (.int .u8 0) Try.underlying42 hi5 hi5z hi5s hi5b rfl room.toNat (by have := R1.out; omega)
      rw [show ((room.toNat : Nat) : Int) = room from Int.toNat_of_nonneg (by have := R0.out; omega)] at hr
      refine OpSays.value (v := .slice (some ⟨w1.heap.size, 0, none⟩) room.toNat room.toNat) (w' := w2) ?_ ⟨⟨hO.trans hk, trivial⟩, hk, w1.heap.size, rfl, hO.size, hp⟩
      go_simp
  rintro ⟨tm, df⟩ w1 ⟨hO1, _⟩ hsz hdf hfr hG
  have k0 : tm.getD 0 undef = .int .i64 first := hfr 0 (by decide)
  have k1 : tm.getD 1 undef = .int .i64 room := hfr 1 (by decide)
  have k4 : tm.getD 4 undef = .pointer none := hfr 4 (by decide)
  have k5 : tm.getD 5 undef = .int .i64 0 := hfr 5 (by decide)
  have k17 : tm.getD 17 undef = .int .i64 first := AllG.get hG 0 (by decide)
  have k18 : tm.getD 18 undef = .int .i64 room := AllG.get hG 1 (by decide)
  obtain ⟨hb, k20, hb2, hM2⟩ : ∃ b, tm.getD 20 undef = .slice (some ⟨b, 0, none⟩) room.toNat room.toNat ∧ W.heap.size ≤ b ∧ PartAt w1 4 (tm.getD 20 undef) room.toNat (fun _ => .bool false) := AllG.get hG 3 (by decide)
  obtain ⟨bb, k22, bb2, bM2⟩ : ∃ b, tm.getD 22 undef = .slice (some ⟨b, 0, none⟩) room.toNat room.toNat ∧ W.heap.size ≤ b ∧ PartAt w1 5 (tm.getD 22 undef) room.toNat (fun _ => .int .u8 0) := AllG.get hG 5 (by decide)
  rw [k20] at hM2
  rw [k22] at bM2
  have he : tm = #[tm.getD 0 undef, tm.getD 1 undef, tm.getD 2 undef, tm.getD 3 undef, tm.getD 4 undef, tm.getD 5 undef, tm.getD 6 undef, tm.getD 7 undef, tm.getD 8 undef, tm.getD 9 undef, tm.getD 10 undef, tm.getD 11 undef, tm.getD 12 undef, tm.getD 13 undef, tm.getD 14 undef, tm.getD 15 undef, tm.getD 16 undef, tm.getD 17 undef, tm.getD 18 undef, tm.getD 19 undef, tm.getD 20 undef, tm.getD 21 undef, tm.getD 22 undef, tm.getD 23 undef, tm.getD 24 undef] := arr_eta (n := 25) hsz
  replace hdf : df = [] := hdf
  subst hdf
  clear hsz hfr hG
  rw [he, k0, k1, k4, k5, k17, k18, k20, k22]
  clear he k0 k1 k4 k5 k17 k18 k20 k22
  generalize tm.getD 2 undef = x2
  generalize tm.getD 3 undef = x3
  generalize tm.getD 6 undef = x6
  generalize tm.getD 7 undef = x7
  generalize tm.getD 8 undef = x8
  generalize tm.getD 9 undef = x9
  generalize tm.getD 10 undef = x10
  generalize tm.getD 11 undef = x11
  generalize tm.getD 12 undef = x12
  generalize tm.getD 13 undef = x13
  generalize tm.getD 14 undef = x14
  generalize tm.getD 15 undef = x15
  generalize tm.getD 16 undef = x16
  generalize tm.getD 19 undef = x19
  generalize tm.getD 21 undef = x21
  generalize tm.getD 23 undef = x23
  generalize tm.getD 24 undef = x24
  clear HO HQ1 HQ2
  have hk := (Only.refl (fun _ => False) w1).alloc (.cells #[.int .i64 first, .int .i64 room, .string ⟨#[]⟩, .slice (some ⟨hb, 0, none⟩) room.toNat room.toNat, .slice (some ⟨bb, 0, none⟩) room.toNat room.toNat] 57)
  have hp := blk_new w1 (.cells #[.int .i64 first, .int .i64 room, .string ⟨#[]⟩, .slice (some ⟨hb, 0, none⟩) room.toNat room.toNat, .slice (some ⟨bb, 0, none⟩) room.toNat room.toNat] 57)
  have hs := hO1.size
  have HA : Hid (RAt (w1.alloc (.cells #[.int .i64 first, .int .i64 room, .string ⟨#[]⟩, .slice (some ⟨hb, 0, none⟩) room.toNat room.toNat, .slice (some ⟨bb, 0, none⟩) room.toNat room.toNat] 57)) w1.heap.size hb bb ⟨first, room, ⟨#[]⟩, []⟩) :=
    Lib.hid ⟨_, _, rfl, rfl, hp, hM2.only hk (fun _ _ h => h), fun _ => 0, bM2.only hk (fun _ _ h => h), fun d hd => ⟨Nat.zero_lt_succ _, fun c e => by cases e⟩⟩
  have HB := Lib.hid (hO1.trans hk)
  clear hk hp hM2 bM2 hO1
  go_wp2_with fail
  go_ret2
  exact ⟨_, _, _, rfl, hs, hb2, bb2, HA.out, HB.out⟩

end Go.Proofs.Ytbpmbmidjdhbpaa

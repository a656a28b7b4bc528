/-
  Fork of the reference queue.
  Conditions: rooms of at most 3000.
-/
import Derived.Test.YtbpmbmidjdhbpaaRefQ
set_option linter.unusedVariables false
set_option linter.unusedSimpArgs false
set_option maxRecDepth 100000
namespace Go.Proofs.Ytbpmbmidjdhbpaa
open Go.RowKit

structure RMem (w : World) (r : Nat) (hv bv : Value) (q : QS) (B : Nat → Nat) : Prop where
  blk : w.heap[r]? = some (.cells #[.int .i64 q.next, .int .i64 q.room, .string q.s, hv, bv] 57 (0, 0))
  here : PartAt w 4 hv q.room.toNat (fun d => .bool (hereB q d))
  byte : PartAt w 5 bv q.room.toNat (fun d => .int .u8 (B d : Nat))

theorem RMem.keep {w w' : World} {r : Nat} {hv bv : Value} {q : QS} {B : Nat → Nat} (h : RMem w r hv bv q B) (hk : Only (fun _ => False) w w') : RMem w' r hv bv q B :=
  ⟨hk.at h.blk (fun h => h), h.here.only hk (fun _ _ h => h), h.byte.only hk (fun _ _ h => h)⟩

def rfG (W : World) (r : Nat) (hv bv : Value) (q : QS) (B : Nat → Nat) : Nat → Value → World → Prop
  | 0, v, w' => v = .pointer (some ⟨r, 0, none⟩)
  | 1, v, w' => v = .pointer (some ⟨r, 0, none⟩)
  | 2, v, w' => v = .pointer (some ⟨r, 0, none⟩)
  | 3, v, w' => v = .int .i64 q.next
  | 4, v, w' => v = .pointer (some ⟨r, 0, none⟩)
  | 5, v, w' => v = .pointer (some ⟨r, 0, none⟩)
  | 6, v, w' => v = .pointer (some ⟨r, 1, none⟩)
  | 7, v, w' => v = .int .i64 q.room
  | 8, v, w' => v = .pointer (some ⟨r, 0, none⟩)
  | 9, v, w' => v = .pointer (some ⟨r, 0, none⟩)
  | 10, v, w' => v = .pointer (some ⟨r, 2, none⟩)
  | 11, v, w' => v = .string q.s
  | 12, v, w' => ∃ k, v = .slice (some ⟨k, 0, none⟩) 0 0
  | 13, v, w' => v = .pointer (some ⟨r, 0, none⟩)
  | 14, v, w' => v = .pointer (some ⟨r, 0, none⟩)
  | 15, v, w' => v = .pointer (some ⟨r, 3, none⟩)
  | 16, v, w' => v = hv
  | 17, v, w' => ∃ b, v.ownBlock = some b ∧ W.heap.size ≤ b ∧ PartAt w' 4 v q.room.toNat (fun d => .bool (hereB q d))
  | 18, v, w' => ∃ k, v = .slice (some ⟨k, 0, none⟩) 0 0
  | 19, v, w' => v = .pointer (some ⟨r, 0, none⟩)
  | 20, v, w' => v = .pointer (some ⟨r, 0, none⟩)
  | 21, v, w' => v = .pointer (some ⟨r, 4, none⟩)
  | 22, v, w' => v = bv
  | 23, v, w' => ∃ b, v.ownBlock = some b ∧ W.heap.size ≤ b ∧ PartAt w' 5 v q.room.toNat (fun d => .int .u8 (B d : Nat))
  | _, _, _ => True
def rfDs : List Nat := [3, 4, 5, 6, 7, 8, 9, 10, 11, 12, 13, 14, 15, 16, 17, 18, 19, 20, 21, 22, 23, 24, 25, 26]
def rfNeed : List (List Nat) := [[], [0], [1], [2], [], [4], [5], [6], [], [8], [9], [10], [], [], [13], [14], [15], [12, 16], [], [], [19], [20], [21], [18, 22]]
def rfGs : List (Option Bool) := []
theorem rfG.keep {W : World} {r : Nat} {hv bv : Value} {q : QS} {B : Nat → Nat} : ∀ j v w w', rfG W r hv bv q B j v w → Only (fun _ => False) w w' → rfG W r hv bv q B j v w' := by
  intro j v w w' h hO
  match j with
  | 0 => exact h
  | 1 => exact h
  | 2 => exact h
  | 3 => exact h
  | 4 => exact h
  | 5 => exact h
  | 6 => exact h
  | 7 => exact h
  | 8 => exact h
  | 9 => exact h
  | 10 => exact h
  | 11 => exact h
  | 12 => exact h
  | 13 => exact h
  | 14 => exact h
  | 15 => exact h
  | 16 => exact h
  | 17 => exact (by obtain ⟨b, e1, e2, e3⟩ := h; exact ⟨b, e1, e2, e3.only hO (fun _ _ h => h)⟩)
  | 18 => exact h
  | 19 => exact h
  | 20 => exact h
  | 21 => exact h
  | 22 => exact h
  | 23 => exact (by obtain ⟨b, e1, e2, e3⟩ := h; exact ⟨b, e1, e2, e3.only hO (fun _ _ h => h)⟩)
  | n + 24 => trivial
theorem rfG.guard {W : World} {r : Nat} {hv bv : Value} {q : QS} {B : Nat → Nat} : ∀ g' b', rfGs.getD g' none = some b' → ∀ v w, rfG W r hv bv q B g' v w → v = .bool b' := by
  intro g' b' hbb v w hgg
  match g', hbb, hgg with
  | n' + 0, hbb, hgg => exact absurd hbb (by simp [rfGs])

set_option maxHeartbeats 4000000 in
theorem rfork (W : World) (r hb0 bb0 : Nat) (q : QS) (h : RAt W r hb0 bb0 q) (r0 : 1 ≤ q.room) (r1 : q.room ≤ 3000) :
    Calls Try.prog 22 #[.pointer (some ⟨r, 0, none⟩)] W fun e w' => ∃ r' hb bb, e = .returned (.pointer (some ⟨r', 0, none⟩)) ∧ W.heap.size ≤ r' ∧ W.heap.size ≤ hb ∧ W.heap.size ≤ bb ∧ RAt w' r' hb bb q ∧ Only (fun _ => False) W w' := by
  obtain ⟨i4, hi4, hi4z, hi4s, hi4b⟩ := info_parts info4b
  obtain ⟨i5, hi5, hi5z, hi5s, hi5b⟩ := info_parts info5
  have hN0 : 0 < q.room.toNat := by omega
  have hN1 : q.room.toNat ≤ 1000000 := by omega
  have HO : Hid (Only (fun _ => False) W W.drew) := Lib.hid ((Only.refl (fun _ => False) W).drewN 1)
  obtain ⟨hv, bv, e1, e2, hg, hh, B, hB, hc⟩ := h
  have HT : Hid (RMem W.drew r hv bv q B) := Lib.hid (RMem.keep ⟨hg, hh, hB⟩ HO.out)
  have HC := Lib.hid hc
  clear r0 r1 e1 e2 hg hh hB hc
  go_enter Try.func22, Try.ntmps22
  go_wp2_with fail
  refine wp_region_facts_tail 24 rfDs rfNeed rfGs (fun w' => RMem w' r hv bv q B ∧ Only (fun _ => False) W w') (Only (fun _ => False)) (rfG W r hv bv q B) rfl rfl (by kernel_rfl) (by kernel_rfl) (by kernel_rfl) (by kernel_rfl) (by kernel_rfl) ⟨HT.out, HO.out⟩ rfG.keep rfG.guard ?_ ?_
  · refine And.intro ?op0 (And.intro ?op1 (And.intro ?op2 (And.intro ?op3 (And.intro ?op4 (And.intro ?op5 (And.intro ?op6 (And.intro ?op7 (And.intro ?op8 (And.intro ?op9 (And.intro ?op10 (And.intro ?op11 (And.intro ?op12 (And.intro ?op13 (And.intro ?op14 (And.intro ?op15 (And.intro ?op16 (And.intro ?op17 (And.intro ?op18 (And.intro ?op19 (And.intro ?op20 (And.intro ?op21 (And.intro ?op22 (And.intro ?op23 trivial)))))))))))))))))))))))
    case op0 =>
      intro ev w1 hT1 hc hf hfr hG
      rw [if_pos (by decide)]
      obtain ⟨hT, hO⟩ := hT1
      have h0 : ev (.tmp 0) = .pointer (some ⟨r, 0, none⟩) := hfr 0 (by decide)
      clear hG hfr
      refine OpSays.value (v := .pointer (some ⟨r, 0, none⟩)) (w' := w1) ?_ ⟨⟨hT, hO⟩, Only.refl _ _, rfl⟩
      go_simp
    case op1 =>
      intro ev w1 hT1 hc hf hfr hG
      rw [if_pos (by decide)]
      obtain ⟨hT, hO⟩ := hT1
      have hg : (ev (.tmp 3) = .pointer (some ⟨r, 0, none⟩)) ∧ True := hG
      obtain ⟨g0, _⟩ := hg
      clear hG hfr
      refine OpSays.value (v := .pointer (some ⟨r, 0, none⟩)) (w' := w1) ?_ ⟨⟨hT, hO⟩, Only.refl _ _, rfl⟩
      go_simp
    case op2 =>
      intro ev w1 hT1 hc hf hfr hG
      rw [if_pos (by decide)]
      obtain ⟨hT, hO⟩ := hT1
      have hg : (ev (.tmp 4) = .pointer (some ⟨r, 0, none⟩)) ∧ True := hG
      obtain ⟨g1, _⟩ := hg
      clear hG hfr
      refine OpSays.value (v := .pointer (some ⟨r, 0, none⟩)) (w' := w1) ?_ ⟨⟨hT, hO⟩, Only.refl _ _, rfl⟩
      go_simp
    case op3 =>
      intro ev w1 hT1 hc hf hfr hG
      rw [if_pos (by decide)]
      obtain ⟨hT, hO⟩ := hT1
      have hg : (ev (.tmp 5) = .pointer (some ⟨r, 0, none⟩)) ∧ True := hG
      obtain ⟨g2, _⟩ := hg
      clear hG hfr
      have x0 := blk_cell hT.blk 0
      simp only [List.getElem?_toArray, List.getElem?_cons_zero, List.getElem?_cons_succ] at x0
      refine OpSays.value (v := .int .i64 q.next) (w' := w1) ?_ ⟨⟨hT, hO⟩, Only.refl _ _, rfl⟩
      go_simp
    case op4 =>
      intro ev w1 hT1 hc hf hfr hG
      rw [if_pos (by decide)]
      obtain ⟨hT, hO⟩ := hT1
      have h0 : ev (.tmp 0) = .pointer (some ⟨r, 0, none⟩) := hfr 0 (by decide)
      clear hG hfr
      refine OpSays.value (v := .pointer (some ⟨r, 0, none⟩)) (w' := w1) ?_ ⟨⟨hT, hO⟩, Only.refl _ _, rfl⟩
      go_simp
    case op5 =>
      intro ev w1 hT1 hc hf hfr hG
      rw [if_pos (by decide)]
      obtain ⟨hT, hO⟩ := hT1
      have hg : (ev (.tmp 7) = .pointer (some ⟨r, 0, none⟩)) ∧ True := hG
      obtain ⟨g4, _⟩ := hg
      clear hG hfr
      refine OpSays.value (v := .pointer (some ⟨r, 0, none⟩)) (w' := w1) ?_ ⟨⟨hT, hO⟩, Only.refl _ _, rfl⟩
      go_simp
    case op6 =>
      intro ev w1 hT1 hc hf hfr hG
      rw [if_pos (by decide)]
      obtain ⟨hT, hO⟩ := hT1
      have hg : (ev (.tmp 8) = .pointer (some ⟨r, 0, none⟩)) ∧ True := hG
      obtain ⟨g5, _⟩ := hg
      clear hG hfr
      refine OpSays.value (v := .pointer (some ⟨r, 1, none⟩)) (w' := w1) ?_ ⟨⟨hT, hO⟩, Only.refl _ _, rfl⟩
      go_simp
    case op7 =>
      intro ev w1 hT1 hc hf hfr hG
      rw [if_pos (by decide)]
      obtain ⟨hT, hO⟩ := hT1
      have hg : (ev (.tmp 9) = .pointer (some ⟨r, 1, none⟩)) ∧ True := hG
      obtain ⟨g6, _⟩ := hg
      clear hG hfr
      have x1 := blk_cell hT.blk 1
      simp only [List.getElem?_toArray, List.getElem?_cons_zero, List.getElem?_cons_succ] at x1
      refine OpSays.value (v := .int .i64 q.room) (w' := w1) ?_ ⟨⟨hT, hO⟩, Only.refl _ _, rfl⟩
      go_simp
    case op8 =>
      intro ev w1 hT1 hc hf hfr hG
      rw [if_pos (by decide)]
      obtain ⟨hT, hO⟩ := hT1
      have h0 : ev (.tmp 0) = .pointer (some ⟨r, 0, none⟩) := hfr 0 (by decide)
      clear hG hfr
      refine OpSays.value (v := .pointer (some ⟨r, 0, none⟩)) (w' := w1) ?_ ⟨⟨hT, hO⟩, Only.refl _ _, rfl⟩
      go_simp
    case op9 =>
      intro ev w1 hT1 hc hf hfr hG
      rw [if_pos (by decide)]
      obtain ⟨hT, hO⟩ := hT1
      have hg : (ev (.tmp 11) = .pointer (some ⟨r, 0, none⟩)) ∧ True := hG
      obtain ⟨g8, _⟩ := hg
      clear hG hfr
      refine OpSays.value (v := .pointer (some ⟨r, 0, none⟩)) (w' := w1) ?_ ⟨⟨hT, hO⟩, Only.refl _ _, rfl⟩
      go_simp
    case op10 =>
      intro ev w1 hT1 hc hf hfr hG
      rw [if_pos (by decide)]
      obtain ⟨hT, hO⟩ := hT1
      have hg : (ev (.tmp 12) = .pointer (some ⟨r, 0, none⟩)) ∧ True := hG
      obtain ⟨g9, _⟩ := hg
      clear hG hfr
      refine OpSays.value (v := .pointer (some ⟨r, 2, none⟩)) (w' := w1) ?_ ⟨⟨hT, hO⟩, Only.refl _ _, rfl⟩
      go_simp
    case op11 =>
      intro ev w1 hT1 hc hf hfr hG
      rw [if_pos (by decide)]
      obtain ⟨hT, hO⟩ := hT1
      have hg : (ev (.tmp 13) = .pointer (some ⟨r, 2, none⟩)) ∧ True := hG
      obtain ⟨g10, _⟩ := hg
      clear hG hfr
      have x2 := blk_cell hT.blk 2
      simp only [List.getElem?_toArray, List.getElem?_cons_zero, List.getElem?_cons_succ] at x2
      refine OpSays.value (v := .string q.s) (w' := w1) ?_ ⟨⟨hT, hO⟩, Only.refl _ _, rfl⟩
      go_simp
    case op12 =>
      intro ev w1 hT1 hc hf hfr hG
      rw [if_pos (by decide)]
      obtain ⟨hT, hO⟩ := hT1
      clear hG hfr
      have hk := (Only.refl (fun _ => False) w1).alloc (.cells #[] 4)
      refine OpSays.value (v := .slice (some ⟨w1.heap.size, 0, none⟩) 0 0) (w' := w1.alloc (.cells #[] 4)) ?_ ⟨⟨hT.keep hk, hO.trans hk⟩, hk, _, rfl⟩
      go_simp
    case op13 =>
      intro ev w1 hT1 hc hf hfr hG
      rw [if_pos (by decide)]
      obtain ⟨hT, hO⟩ := hT1
      have h0 : ev (.tmp 0) = .pointer (some ⟨r, 0, none⟩) := hfr 0 (by decide)
      clear hG hfr
      refine OpSays.value (v := .pointer (some ⟨r, 0, none⟩)) (w' := w1) ?_ ⟨⟨hT, hO⟩, Only.refl _ _, rfl⟩
      go_simp
    case op14 =>
      intro ev w1 hT1 hc hf hfr hG
      rw [if_pos (by decide)]
      obtain ⟨hT, hO⟩ := hT1
      have hg : (ev (.tmp 16) = .pointer (some ⟨r, 0, none⟩)) ∧ True := hG
      obtain ⟨g13, _⟩ := hg
      clear hG hfr
      refine OpSays.value (v := .pointer (some ⟨r, 0, none⟩)) (w' := w1) ?_ ⟨⟨hT, hO⟩, Only.refl _ _, rfl⟩
      go_simp
    case op15 =>
      intro ev w1 hT1 hc hf hfr hG
      rw [if_pos (by decide)]
      obtain ⟨hT, hO⟩ := hT1
      have hg : (ev (.tmp 17) = .pointer (some ⟨r, 0, none⟩)) ∧ True := hG
      obtain ⟨g14, _⟩ := hg
      clear hG hfr
      refine OpSays.value (v := .pointer (some ⟨r, 3, none⟩)) (w' := w1) ?_ ⟨⟨hT, hO⟩, Only.refl _ _, rfl⟩
      go_simp
    case op16 =>
      intro ev w1 hT1 hc hf hfr hG
      rw [if_pos (by decide)]
      obtain ⟨hT, hO⟩ := hT1
      have hg : (ev (.tmp 18) = .pointer (some ⟨r, 3, none⟩)) ∧ True := hG
      obtain ⟨g15, _⟩ := hg
      clear hG hfr
      have x3 := blk_cell hT.blk 3
      simp only [List.getElem?_toArray, List.getElem?_cons_zero, List.getElem?_cons_succ] at x3
      refine OpSays.value (v := hv) (w' := w1) ?_ ⟨⟨hT, hO⟩, Only.refl _ _, rfl⟩
      go_simp
    case op17 =>
      intro ev w1 hT1 hc hf hfr hG
      rw [if_pos (by decide)]
      obtain ⟨hT, hO⟩ := hT1
      have hg : (∃ k, ev (.tmp 15) = .slice (some ⟨k, 0, none⟩) 0 0) ∧ (ev (.tmp 19) = hv) ∧ True := hG
      obtain ⟨g12, g16, _⟩ := hg
      clear hG hfr
      obtain ⟨k, g12⟩ := g12
      obtain ⟨v2, w2, hr, hp, hk, hb⟩ := run_append_copy (P := Try.prog) w1 55 55 4 i4 (.bool false) Try.underlying55 hi4 hi4z rfl hi4s hi4b k hv q.room.toNat (fun d => .bool (hereB q d)) hT.here hN0 hN1
      have hown : ∃ b, v2.ownBlock = some b := by
        obtain ⟨⟨g, off, cap, cur, rfl, _⟩⟩ := hp
        exact ⟨g, rfl⟩
      obtain ⟨b, hb2⟩ := hown
      refine OpSays.value (v := v2) (w' := w2) ?_ ⟨⟨hT.keep hk, hO.trans hk⟩, hk, b, hb2, Nat.le_trans hO.size (hb b hb2), hp⟩
      unfold execOp
      simp only [resolve, invoke, builtin, Sem.run_bind, Sem.run_pure, Result.andThen_ok, List.map_toArray, List.map_cons, List.map_nil, g12, g16, hr]
    case op18 =>
      intro ev w1 hT1 hc hf hfr hG
      rw [if_pos (by decide)]
      obtain ⟨hT, hO⟩ := hT1
      clear hG hfr
      have hk := (Only.refl (fun _ => False) w1).alloc (.cells #[] 5)
      refine OpSays.value (v := .slice (some ⟨w1.heap.size, 0, none⟩) 0 0) (w' := w1.alloc (.cells #[] 5)) ?_ ⟨⟨hT.keep hk, hO.trans hk⟩, hk, _, rfl⟩
      go_simp
    case op19 =>
      intro ev w1 hT1 hc hf hfr hG
      rw [if_pos (by decide)]
      obtain ⟨hT, hO⟩ := hT1
      have h0 : ev (.tmp 0) = .pointer (some ⟨r, 0, none⟩) := hfr 0 (by decide)
      clear hG hfr
      refine OpSays.value (v := .pointer (some ⟨r, 0, none⟩)) (w' := w1) ?_ ⟨⟨hT, hO⟩, Only.refl _ _, rfl⟩
      go_simp
    case op20 =>
      intro ev w1 hT1 hc hf hfr hG
      rw [if_pos (by decide)]
      obtain ⟨hT, hO⟩ := hT1
      have hg : (ev (.tmp 22) = .pointer (some ⟨r, 0, none⟩)) ∧ True := hG
      obtain ⟨g19, _⟩ := hg
      clear hG hfr
      refine OpSays.value (v := .pointer (some ⟨r, 0, none⟩)) (w' := w1) ?_ ⟨⟨hT, hO⟩, Only.refl _ _, rfl⟩
      go_simp
    case op21 =>
      intro ev w1 hT1 hc hf hfr hG
      rw [if_pos (by decide)]
      obtain ⟨hT, hO⟩ := hT1
      have hg : (ev (.tmp 23) = .pointer (some ⟨r, 0, none⟩)) ∧ True := hG
      obtain ⟨g20, _⟩ := hg
      clear hG hfr
      refine OpSays.value (v := .pointer (some ⟨r, 4, none⟩)) (w' := w1) ?_ ⟨⟨hT, hO⟩, Only.refl _ _, rfl⟩
      go_simp
    case op22 =>
      intro ev w1 hT1 hc hf hfr hG
      rw [if_pos (by decide)]
      obtain ⟨hT, hO⟩ := hT1
      have hg : (ev (.tmp 24) = .pointer (some ⟨r, 4, none⟩)) ∧ True := hG
      obtain ⟨g21, _⟩ := hg
      clear hG hfr
      have x4 := blk_cell hT.blk 4
      simp only [List.getElem?_toArray, List.getElem?_cons_zero, List.getElem?_cons_succ] at x4
      refine OpSays.value (v := bv) (w' := w1) ?_ ⟨⟨hT, hO⟩, Only.refl _ _, rfl⟩
      go_simp
    case op23 =>
      intro ev w1 hT1 hc hf hfr hG
      rw [if_pos (by decide)]
      obtain ⟨hT, hO⟩ := hT1
      have hg : (∃ k, ev (.tmp 21) = .slice (some ⟨k, 0, none⟩) 0 0) ∧ (ev (.tmp 25) = bv) ∧ True := hG
      obtain ⟨g18, g22, _⟩ := hg
      clear hG hfr
      obtain ⟨k, g18⟩ := g18
      obtain ⟨v2, w2, hr, hp, hk, hb⟩ := run_append_copy (P := Try.prog) w1 42 42 5 i5 (.int .u8 0) Try.underlying42 hi5 hi5z rfl hi5s hi5b k bv q.room.toNat (fun d => .int .u8 (B d : Nat)) hT.byte hN0 hN1
      have hown : ∃ b, v2.ownBlock = some b := by
        obtain ⟨⟨g, off, cap, cur, rfl, _⟩⟩ := hp
        exact ⟨g, rfl⟩
      obtain ⟨b, hb2⟩ := hown
      refine OpSays.value (v := v2) (w' := w2) ?_ ⟨⟨hT.keep hk, hO.trans hk⟩, hk, b, hb2, Nat.le_trans hO.size (hb b hb2), hp⟩
      unfold execOp
      simp only [resolve, invoke, builtin, Sem.run_bind, Sem.run_pure, Result.andThen_ok, List.map_toArray, List.map_cons, List.map_nil, g18, g22, hr]
  rintro ⟨tm, df⟩ w1 ⟨hT1, hO1⟩ hsz hdf hfr hG
  have k2 : tm.getD 2 undef = .pointer none := hfr 2 (by decide)
  have k6 : tm.getD 6 undef = .int .i64 q.next := AllG.get hG 3 (by decide)
  have k10 : tm.getD 10 undef = .int .i64 q.room := AllG.get hG 7 (by decide)
  have k14 : tm.getD 14 undef = .string q.s := AllG.get hG 11 (by decide)
  obtain ⟨hb, hown1, hb2, hM2⟩ : ∃ b, (tm.getD 20 undef).ownBlock = some b ∧ W.heap.size ≤ b ∧ PartAt w1 4 (tm.getD 20 undef) q.room.toNat (fun d => .bool (hereB q d)) := AllG.get hG 17 (by decide)
  obtain ⟨bb, hown2, bb2, bM2⟩ : ∃ b, (tm.getD 26 undef).ownBlock = some b ∧ W.heap.size ≤ b ∧ PartAt w1 5 (tm.getD 26 undef) q.room.toNat (fun d => .int .u8 (B d : Nat)) := AllG.get hG 23 (by decide)
  have he : tm = #[tm.getD 0 undef, tm.getD 1 undef, tm.getD 2 undef, tm.getD 3 undef, tm.getD 4 undef, tm.getD 5 undef, tm.getD 6 undef, tm.getD 7 undef, tm.getD 8 undef, tm.getD 9 undef, tm.getD 10 undef, tm.getD 11 undef, tm.getD 12 undef, tm.getD 13 undef, tm.getD 14 undef, tm.getD 15 undef, tm.getD 16 undef, tm.getD 17 undef, tm.getD 18 undef, tm.getD 19 undef, tm.getD 20 undef, tm.getD 21 undef, tm.getD 22 undef, tm.getD 23 undef, tm.getD 24 undef, tm.getD 25 undef, tm.getD 26 undef, tm.getD 27 undef, tm.getD 28 undef] := arr_eta (n := 29) hsz
  replace hdf : df = [] := hdf
  subst hdf
  clear hsz hfr hG
  rw [he, k2, k6, k10, k14]
  clear he k2 k6 k10 k14
  generalize tm.getD 0 undef = x0
  generalize tm.getD 1 undef = x1
  generalize tm.getD 3 undef = x3
  generalize tm.getD 4 undef = x4
  generalize tm.getD 5 undef = x5
  generalize tm.getD 7 undef = x7
  generalize tm.getD 8 undef = x8
  generalize tm.getD 9 undef = x9
  generalize tm.getD 11 undef = x11
  generalize tm.getD 12 undef = x12
  generalize tm.getD 13 undef = x13
  generalize tm.getD 15 undef = x15
  generalize tm.getD 16 undef = x16
  generalize tm.getD 17 undef = x17
  generalize tm.getD 18 undef = x18
  generalize tm.getD 19 undef = x19
  generalize tm.getD 20 undef = v20 at hown1 hM2 ⊢
  generalize tm.getD 21 undef = x21
  generalize tm.getD 22 undef = x22
  generalize tm.getD 23 undef = x23
  generalize tm.getD 24 undef = x24
  generalize tm.getD 25 undef = x25
  generalize tm.getD 26 undef = v26 at hown2 bM2 ⊢
  generalize tm.getD 27 undef = x27
  generalize tm.getD 28 undef = x28
  clear HO HT
  obtain ⟨g1, o1, c1, rfl⟩ : ∃ g o c, v20 = .slice (some ⟨g, o, none⟩) q.room.toNat c := by
    obtain ⟨⟨g, off, cap, cur, e, _⟩⟩ := hM2
    exact ⟨g, off, cap, e⟩
  obtain ⟨g2, o2, c2, rfl⟩ : ∃ g o c, v26 = .slice (some ⟨g, o, none⟩) q.room.toNat c := by
    obtain ⟨⟨g, off, cap, cur, e, _⟩⟩ := bM2
    exact ⟨g, off, cap, e⟩
  have hk := (Only.refl (fun _ => False) w1).alloc (.cells #[.int .i64 q.next, .int .i64 q.room, .string q.s, (.slice (some ⟨g1, o1, none⟩) q.room.toNat c1), (.slice (some ⟨g2, o2, none⟩) q.room.toNat c2)] 57)
  have hp := blk_new w1 (.cells #[.int .i64 q.next, .int .i64 q.room, .string q.s, (.slice (some ⟨g1, o1, none⟩) q.room.toNat c1), (.slice (some ⟨g2, o2, none⟩) q.room.toNat c2)] 57)
  have hs := hO1.size
  have HA : Hid (RAt (w1.alloc (.cells #[.int .i64 q.next, .int .i64 q.room, .string q.s, (.slice (some ⟨g1, o1, none⟩) q.room.toNat c1), (.slice (some ⟨g2, o2, none⟩) q.room.toNat c2)] 57)) w1.heap.size hb bb q) :=
    Lib.hid ⟨_, _, hown1, hown2, hp, hM2.only hk (fun _ _ h => h), B, bM2.only hk (fun _ _ h => h), HC.out⟩
  have HB := Lib.hid (hO1.trans hk)
  clear hk hp hM2 bM2 hO1 hT1
  go_wp2_with fail
  go_ret
  exact ⟨_, _, _, rfl, hs, hb2, bb2, HA.out, HB.out⟩

end Go.Proofs.Ytbpmbmidjdhbpaa

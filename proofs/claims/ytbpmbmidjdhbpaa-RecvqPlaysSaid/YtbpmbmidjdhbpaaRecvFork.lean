/-
  The contracts of recvq.New's bad case, maps.Clone and (*Queue).Fork.
  No conditions.
-/
import Derived.Test.YtbpmbmidjdhbpaaRecvPut
import Derived.Shelf.SlMaps.Clone
import Derived.Test.YtbpmbmidjdhbpaaFacts
set_option linter.unusedVariables false
set_option linter.unusedSimpArgs false
set_option maxRecDepth 100000
namespace Go.Proofs.Ytbpmbmidjdhbpaa
open Go.RowKit Go.Maps

theorem qnew_bad (first room : Int) (w : World) (h : ¬ ((0 ≤ first ∧ first < 4294967296) ∧ 1 ≤ room ∧ room ≤ 65536)) :
    Calls Try.prog 7 #[.int .i64 first, .int .i64 room] w fun e w' => e = .returned (.tuple #[.pointer none, .int .i64 1]) ∧ w = w' := by
  by_cases hf : 0 ≤ first ∧ first < 4294967296
  · have hr : room < 1 ∨ (1 ≤ room ∧ 65536 < room) := by omega
    clear h
    obtain ⟨h0, h1⟩ := hf
    rcases hr with hr | ⟨hr, hr2⟩
    all_goals
      go_enter Try.func7, Try.ntmps7
      go_wp2_with fail
      refine (check_ok first _ h0 h1).mono ?_
      rintro e _ ⟨rfl, rfl⟩
      go_wp2_with fail
      go_ret2
      exact ⟨rfl, rfl⟩
  · have HF := Lib.hid hf
    clear h hf
    go_enter Try.func7, Try.ntmps7
    go_wp2_with fail
    refine (check_bad first _ HF.out).mono ?_
    rintro e _ ⟨rfl, rfl⟩
    go_wp2_with fail
    go_ret2
    exact ⟨rfl, rfl⟩

theorem clone_any (w : World) (b : Nat) (l : List (Int × Value)) (h : MapI w b l) :
    Calls Try.prog 31 #[.map (some b)] w fun e w' => e = .returned (.map (some w.heap.size)) ∧ MapI w' w.heap.size l ∧ Only (fun _ => False) w w' := by
  obtain ⟨es, clock, hb, he⟩ := h
  have hq := fun w => run_eql_map_nil_sl (P := Try.prog) w 60 _ _ (some b) und_map
  go_enter Try.func31, Try.ntmps31
  go_wp2
  rw [run_callFunc_extern Try.func37 (by kernel_rfl) (by kernel_rfl) (by kernel_rfl) (e := Extern.MapsClone.clone) (by kernel_rfl), run_maps_clone_sl w 60 hb]
  simp only [Result.andThen]
  rw [Oper.upon_value]
  go_wp2
  rw [run_typeAssert_map_sl _ 60 20 _ _ _ und_map]
  simp only [Result.andThen]
  rw [Oper.upon_value]
  go_wp2
  go_ret
  exact ⟨rfl, ⟨es, clock, blk_new w _, he⟩, (Only.refl _ w).alloc _⟩

def fkG (W : World) (g m : Nat) (q : QS) : Nat → Value → World → Prop
  | 0, v, w' => v = .pointer (some ⟨g, 0, none⟩)
  | 1, v, w' => v = .pointer (some ⟨g, 0, none⟩)
  | 2, v, w' => v = .pointer (some ⟨g, 0, none⟩)
  | 3, v, w' => v = .int .i64 q.next
  | 4, v, w' => v = .pointer (some ⟨g, 0, none⟩)
  | 5, v, w' => v = .pointer (some ⟨g, 0, none⟩)
  | 6, v, w' => v = .pointer (some ⟨g, 1, none⟩)
  | 7, v, w' => v = .int .i64 q.room
  | 8, v, w' => v = .pointer (some ⟨g, 0, none⟩)
  | 9, v, w' => v = .pointer (some ⟨g, 0, none⟩)
  | 10, v, w' => v = .pointer (some ⟨g, 2, none⟩)
  | 11, v, w' => v = .string q.s
  | 12, v, w' => v = .pointer (some ⟨g, 0, none⟩)
  | 13, v, w' => v = .pointer (some ⟨g, 0, none⟩)
  | 14, v, w' => v = .pointer (some ⟨g, 3, none⟩)
  | 15, v, w' => v = .map (some m)
  | 16, v, w' => ∃ m2, v = .map (some m2) ∧ W.heap.size ≤ m2 ∧ MapI w' m2 (encA q.A)
  | _, _, _ => True
def fkDs : List Nat := [3, 4, 5, 6, 7, 8, 9, 10, 11, 12, 13, 14, 15, 16, 17, 18, 19]
def fkNeed : List (List Nat) := [[], [0], [1], [2], [], [4], [5], [6], [], [8], [9], [10], [], [12], [13], [14], [15]]
def fkGs : List (Option Bool) := []
theorem fkG.keep {W : World} {g m : Nat} {q : QS} : ∀ j v w w', fkG W g m q j v w → Only (fun _ => False) w w' → fkG W g m q j v w' := by
  intro j v w w' h hO
  match j with
  | 0 => exact h
  | 1 => exact h
  | 2 => exact h
  | 3 => exact h
  | 4 => exact h
  | 5 => exact h
  | 6 => exact h
  | 7 => exact h
  | 8 => exact h
  | 9 => exact h
  | 10 => exact h
  | 11 => exact h
  | 12 => exact h
  | 13 => exact h
  | 14 => exact h
  | 15 => exact h
  | 16 => exact (by obtain ⟨m2, e1, e2, e3⟩ := h; exact ⟨m2, e1, e2, e3.only hO (fun h => h)⟩)
  | n + 17 => trivial
theorem fkG.guard {W : World} {g m : Nat} {q : QS} : ∀ g' b', fkGs.getD g' none = some b' → ∀ v w, fkG W g m q g' v w → v = .bool b' := by
  intro g' b' hbb v w hgg
  match g', hbb, hgg with
  | n' + 0, hbb, hgg => exact absurd hbb (by simp [fkGs])

set_option maxHeartbeats 2000000 in
theorem qfork (W : World) (g m : Nat) (q : QS) (h : QAt W g m q) :
    Calls Try.prog 20 #[.pointer (some ⟨g, 0, none⟩)] W fun e w' => ∃ g' m', e = .returned (.pointer (some ⟨g', 0, none⟩)) ∧ W.heap.size ≤ g' ∧ W.heap.size ≤ m' ∧ QAt w' g' m' q ∧ Only (fun _ => False) W w' := by
  have HQ := Lib.hid (show QAt W.drew g m q from h.keep ((Only.refl (fun _ => False) W).drewN 1))
  have HO : Hid (Only (fun _ => False) W W.drew) := Lib.hid ((Only.refl (fun _ => False) W).drewN 1)
  clear h
  go_enter Try.func20, Try.ntmps20
  go_wp2_with fail
  refine wp_region_facts_tail 17 fkDs fkNeed fkGs (fun w' => QAt w' g m q ∧ Only (fun _ => False) W w') (Only (fun _ => False)) (fkG W g m q) rfl rfl (by kernel_rfl) (by kernel_rfl) (by kernel_rfl) (by kernel_rfl) (by kernel_rfl) ⟨HQ.out, HO.out⟩ fkG.keep fkG.guard ?_ ?_
  · refine And.intro ?op0 (And.intro ?op1 (And.intro ?op2 (And.intro ?op3 (And.intro ?op4 (And.intro ?op5 (And.intro ?op6 (And.intro ?op7 (And.intro ?op8 (And.intro ?op9 (And.intro ?op10 (And.intro ?op11 (And.intro ?op12 (And.intro ?op13 (And.intro ?op14 (And.intro ?op15 (And.intro ?op16 trivial))))))))))))))))
    case op0 =>
      intro ev w1 hT1 hc hf hfr hG
      rw [if_pos (by decide)]
      obtain ⟨hQ, hO⟩ := hT1
      have h0 : ev (.tmp 0) = .pointer (some ⟨g, 0, none⟩) := hfr 0 (by decide)
      clear hG hfr
      refine OpSays.value (v := .pointer (some ⟨g, 0, none⟩)) (w' := w1) ?_ ⟨⟨hQ, hO⟩, Only.refl _ _, rfl⟩
      go_simp
    case op1 =>
      intro ev w1 hT1 hc hf hfr hG
      rw [if_pos (by decide)]
      obtain ⟨hQ, hO⟩ := hT1
      have hg : (ev (.tmp 3) = .pointer (some ⟨g, 0, none⟩)) ∧ True := hG
      obtain ⟨g0, _⟩ := hg
      clear hG hfr
      refine OpSays.value (v := .pointer (some ⟨g, 0, none⟩)) (w' := w1) ?_ ⟨⟨hQ, hO⟩, Only.refl _ _, rfl⟩
      go_simp
    case op2 =>
      intro ev w1 hT1 hc hf hfr hG
      rw [if_pos (by decide)]
      obtain ⟨hQ, hO⟩ := hT1
      have hg : (ev (.tmp 4) = .pointer (some ⟨g, 0, none⟩)) ∧ True := hG
      obtain ⟨g1, _⟩ := hg
      clear hG hfr
      refine OpSays.value (v := .pointer (some ⟨g, 0, none⟩)) (w' := w1) ?_ ⟨⟨hQ, hO⟩, Only.refl _ _, rfl⟩
      go_simp
    case op3 =>
      intro ev w1 hT1 hc hf hfr hG
      rw [if_pos (by decide)]
      obtain ⟨hQ, hO⟩ := hT1
      have hg : (ev (.tmp 5) = .pointer (some ⟨g, 0, none⟩)) ∧ True := hG
      obtain ⟨g2, _⟩ := hg
      clear hG hfr
      have x0 := hQ.c0
      refine OpSays.value (v := .int .i64 q.next) (w' := w1) ?_ ⟨⟨hQ, hO⟩, Only.refl _ _, rfl⟩
      go_simp
    case op4 =>
      intro ev w1 hT1 hc hf hfr hG
      rw [if_pos (by decide)]
      obtain ⟨hQ, hO⟩ := hT1
      have h0 : ev (.tmp 0) = .pointer (some ⟨g, 0, none⟩) := hfr 0 (by decide)
      clear hG hfr
      refine OpSays.value (v := .pointer (some ⟨g, 0, none⟩)) (w' := w1) ?_ ⟨⟨hQ, hO⟩, Only.refl _ _, rfl⟩
      go_simp
    case op5 =>
      intro ev w1 hT1 hc hf hfr hG
      rw [if_pos (by decide)]
      obtain ⟨hQ, hO⟩ := hT1
      have hg : (ev (.tmp 7) = .pointer (some ⟨g, 0, none⟩)) ∧ True := hG
      obtain ⟨g4, _⟩ := hg
      clear hG hfr
      refine OpSays.value (v := .pointer (some ⟨g, 0, none⟩)) (w' := w1) ?_ ⟨⟨hQ, hO⟩, Only.refl _ _, rfl⟩
      go_simp
    case op6 =>
      intro ev w1 hT1 hc hf hfr hG
      rw [if_pos (by decide)]
      obtain ⟨hQ, hO⟩ := hT1
      have hg : (ev (.tmp 8) = .pointer (some ⟨g, 0, none⟩)) ∧ True := hG
      obtain ⟨g5, _⟩ := hg
      clear hG hfr
      refine OpSays.value (v := .pointer (some ⟨g, 1, none⟩)) (w' := w1) ?_ ⟨⟨hQ, hO⟩, Only.refl _ _, rfl⟩
      go_simp
    case op7 =>
      intro ev w1 hT1 hc hf hfr hG
      rw [if_pos (by decide)]
      obtain ⟨hQ, hO⟩ := hT1
      have hg : (ev (.tmp 9) = .pointer (some ⟨g, 1, none⟩)) ∧ True := hG
      obtain ⟨g6, _⟩ := hg
      clear hG hfr
      have x1 := hQ.c1
      refine OpSays.value (v := .int .i64 q.room) (w' := w1) ?_ ⟨⟨hQ, hO⟩, Only.refl _ _, rfl⟩
      go_simp
    case op8 =>
      intro ev w1 hT1 hc hf hfr hG
      rw [if_pos (by decide)]
      obtain ⟨hQ, hO⟩ := hT1
      have h0 : ev (.tmp 0) = .pointer (some ⟨g, 0, none⟩) := hfr 0 (by decide)
      clear hG hfr
      refine OpSays.value (v := .pointer (some ⟨g, 0, none⟩)) (w' := w1) ?_ ⟨⟨hQ, hO⟩, Only.refl _ _, rfl⟩
      go_simp
    case op9 =>
      intro ev w1 hT1 hc hf hfr hG
      rw [if_pos (by decide)]
      obtain ⟨hQ, hO⟩ := hT1
      have hg : (ev (.tmp 11) = .pointer (some ⟨g, 0, none⟩)) ∧ True := hG
      obtain ⟨g8, _⟩ := hg
      clear hG hfr
      refine OpSays.value (v := .pointer (some ⟨g, 0, none⟩)) (w' := w1) ?_ ⟨⟨hQ, hO⟩, Only.refl _ _, rfl⟩
      go_simp
    case op10 =>
      intro ev w1 hT1 hc hf hfr hG
      rw [if_pos (by decide)]
      obtain ⟨hQ, hO⟩ := hT1
      have hg : (ev (.tmp 12) = .pointer (some ⟨g, 0, none⟩)) ∧ True := hG
      obtain ⟨g9, _⟩ := hg
      clear hG hfr
      refine OpSays.value (v := .pointer (some ⟨g, 2, none⟩)) (w' := w1) ?_ ⟨⟨hQ, hO⟩, Only.refl _ _, rfl⟩
      go_simp
    case op11 =>
      intro ev w1 hT1 hc hf hfr hG
      rw [if_pos (by decide)]
      obtain ⟨hQ, hO⟩ := hT1
      have hg : (ev (.tmp 13) = .pointer (some ⟨g, 2, none⟩)) ∧ True := hG
      obtain ⟨g10, _⟩ := hg
      clear hG hfr
      have x2 := hQ.c2
      refine OpSays.value (v := .string q.s) (w' := w1) ?_ ⟨⟨hQ, hO⟩, Only.refl _ _, rfl⟩
      go_simp
    case op12 =>
      intro ev w1 hT1 hc hf hfr hG
      rw [if_pos (by decide)]
      obtain ⟨hQ, hO⟩ := hT1
      have h0 : ev (.tmp 0) = .pointer (some ⟨g, 0, none⟩) := hfr 0 (by decide)
      clear hG hfr
      refine OpSays.value (v := .pointer (some ⟨g, 0, none⟩)) (w' := w1) ?_ ⟨⟨hQ, hO⟩, Only.refl _ _, rfl⟩
      go_simp
    case op13 =>
      intro ev w1 hT1 hc hf hfr hG
      rw [if_pos (by decide)]
      obtain ⟨hQ, hO⟩ := hT1
      have hg : (ev (.tmp 15) = .pointer (some ⟨g, 0, none⟩)) ∧ True := hG
      obtain ⟨g12, _⟩ := hg
      clear hG hfr
      refine OpSays.value (v := .pointer (some ⟨g, 0, none⟩)) (w' := w1) ?_ ⟨⟨hQ, hO⟩, Only.refl _ _, rfl⟩
      go_simp
    case op14 =>
      intro ev w1 hT1 hc hf hfr hG
      rw [if_pos (by decide)]
      obtain ⟨hQ, hO⟩ := hT1
      have hg : (ev (.tmp 16) = .pointer (some ⟨g, 0, none⟩)) ∧ True := hG
      obtain ⟨g13, _⟩ := hg
      clear hG hfr
      refine OpSays.value (v := .pointer (some ⟨g, 3, none⟩)) (w' := w1) ?_ ⟨⟨hQ, hO⟩, Only.refl _ _, rfl⟩
      go_simp
    case op15 =>
      intro ev w1 hT1 hc hf hfr hG
      rw [if_pos (by decide)]
      obtain ⟨hQ, hO⟩ := hT1
      have hg : (ev (.tmp 17) = .pointer (some ⟨g, 3, none⟩)) ∧ True := hG
      obtain ⟨g14, _⟩ := hg
      clear hG hfr
      have x3 := hQ.c3
      refine OpSays.value (v := .map (some m)) (w' := w1) ?_ ⟨⟨hQ, hO⟩, Only.refl _ _, rfl⟩
      go_simp
    case op16 =>
      intro ev w1 hT1 hc hf hfr hG
      rw [if_pos (by decide)]
      obtain ⟨hQ, hO⟩ := hT1
      have hg : (ev (.tmp 18) = .map (some m)) ∧ True := hG
      obtain ⟨g15, _⟩ := hg
      clear hG hfr
      refine OpSays.enter (f := 31) (args := #[.map (some m)]) (w' := w1) ?_ ?_
      · go_simp
      · refine (clone_any w1 m _ hQ.amap).mono ?_
        rintro e' w2 ⟨rfl, hm, hk⟩
        exact ⟨_, rfl, ⟨hQ.keep hk, hO.trans hk⟩, hk, ⟨_, rfl, hO.size, hm⟩⟩
  rintro ⟨tm, df⟩ w1 ⟨hQ1, hO1⟩ hsz hdf hfr hG
  have k2 : tm.getD 2 undef = .pointer none := hfr 2 (by decide)
  have k6 : tm.getD 6 undef = .int .i64 q.next := AllG.get hG 3 (by decide)
  have k10 : tm.getD 10 undef = .int .i64 q.room := AllG.get hG 7 (by decide)
  have k14 : tm.getD 14 undef = .string q.s := AllG.get hG 11 (by decide)
  obtain ⟨m2, k19, hm2, hM2⟩ : ∃ m2, tm.getD 19 undef = .map (some m2) ∧ W.heap.size ≤ m2 ∧ MapI w1 m2 (encA q.A) := AllG.get hG 16 (by decide)
  have he : tm = #[tm.getD 0 undef, tm.getD 1 undef, tm.getD 2 undef, tm.getD 3 undef, tm.getD 4 undef, tm.getD 5 undef, tm.getD 6 undef, tm.getD 7 undef, tm.getD 8 undef, tm.getD 9 undef, tm.getD 10 undef, tm.getD 11 undef, tm.getD 12 undef, tm.getD 13 undef, tm.getD 14 undef, tm.getD 15 undef, tm.getD 16 undef, tm.getD 17 undef, tm.getD 18 undef, tm.getD 19 undef, tm.getD 20 undef, tm.getD 21 undef] := arr_eta (n := 22) hsz
  replace hdf : df = [] := hdf
  subst hdf
  clear hsz hfr hG
  rw [he, k2, k6, k10, k14, k19]
  clear he k2 k6 k10 k14 k19
  generalize tm.getD 0 undef = x0
  generalize tm.getD 1 undef = x1
  generalize tm.getD 3 undef = x3
  generalize tm.getD 4 undef = x4
  generalize tm.getD 5 undef = x5
  generalize tm.getD 7 undef = x7
  generalize tm.getD 8 undef = x8
  generalize tm.getD 9 undef = x9
  generalize tm.getD 11 undef = x11
  generalize tm.getD 12 undef = x12
  generalize tm.getD 13 undef = x13
  generalize tm.getD 15 undef = x15
  generalize tm.getD 16 undef = x16
  generalize tm.getD 17 undef = x17
  generalize tm.getD 18 undef = x18
  generalize tm.getD 20 undef = x20
  generalize tm.getD 21 undef = x21
  clear HQ HO
  have hk := (Only.refl (fun _ => False) w1).alloc (.cells #[.int .i64 q.next, .int .i64 q.room, .string q.s, .map (some m2)] 62)
  have hp := blk_new w1 (.cells #[.int .i64 q.next, .int .i64 q.room, .string q.s, .map (some m2)] 62)
  have hs := hO1.size
  have HA : Hid (QAt (w1.alloc (.cells #[.int .i64 q.next, .int .i64 q.room, .string q.s, .map (some m2)] 62)) w1.heap.size m2 q) := Lib.hid ⟨hp, hM2.only hk (fun h => h)⟩
  have HB := Lib.hid (hO1.trans hk)
  clear hk hp hM2 hQ1 hO1
  go_wp2_with fail
  go_ret
  exact ⟨_, _, rfl, hs, hm2, HA.out, HB.out⟩

end Go.Proofs.Ytbpmbmidjdhbpaa

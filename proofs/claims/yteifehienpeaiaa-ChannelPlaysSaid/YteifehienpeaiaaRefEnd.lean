/-
  The reference end of a channel (sternpostref24) in memory: New, time, Role, text, ack, early.
  Conditions: numbers are of the kind int.
-/
import Derived.Test.YteifehienpeaiaaTakeAll
import Derived.Test.YteifehienpeaiaaRefText
set_option linter.unusedVariables false
set_option linter.unusedSimpArgs false
set_option maxRecDepth 100000
namespace Go.Proofs.Yteifehienpeaiaa
open Go.RowKit
attribute [local go_sem] max_ii min_ii min_iii

theorem info_sent : (Try.prog.info? 135).map (fun i => (i.zero, i.size, i.bytes)) = some (some (.agg #[.int .i64 0, .int .i64 0, .string ⟨#[]⟩]), 3, 32) := by kernel_rfl

/-- A letter that was, as the reference keeps it: its number, when, its bytes. -/
abbrev St := Int × Int × ByteArray
def sentCells (L : List St) : List Value := (L.map fun p => [Value.int .i64 p.1, Value.int .i64 p.2.1, Value.string p.2.2]).flatten
theorem sentCells_length (L : List St) : (sentCells L).length = L.length * 3 := by
  unfold sentCells
  induction L with
  | nil => rfl
  | cons p L ih => simp only [List.map_cons, List.flatten_cons, List.length_append, List.length_cons, List.length_nil] at ih ⊢; omega
theorem sentCells_append (L M : List St) : sentCells (L ++ M) = sentCells L ++ sentCells M := by simp [sentCells]
def st0 : St := (0, 0, ⟨#[]⟩)
theorem sentCells_at : ∀ (L : List St) (i : Nat), i < L.length → (sentCells L)[i * 3]? = some (.int .i64 (L.getD i st0).1) ∧ (sentCells L)[i * 3 + 1]? = some (.int .i64 (L.getD i st0).2.1) ∧ (sentCells L)[i * 3 + 2]? = some (.string (L.getD i st0).2.2)
  | [], i, h => absurd h (Nat.not_lt_zero _)
  | p :: L, 0, _ => ⟨rfl, rfl, rfl⟩
  | p :: L, i + 1, h => by
    have ih := sentCells_at L i (by simpa using h)
    have e : sentCells (p :: L) = .int .i64 p.1 :: .int .i64 p.2.1 :: .string p.2.2 :: sentCells L := rfl
    have h0 : (i + 1) * 3 = i * 3 + 1 + 1 + 1 := by omega
    rw [e, h0]
    exact ih

/-- A list of letters that were, in a row of its own. -/
def SRow (w : World) (base : Nat) (v : Value) (L : List St) : Prop := w.ownsRow base 135 3 v L.length (sentCells L)
theorem SRow.nil (w : World) (base : Nat) : SRow w base (.slice none 0 0) [] := World.ownsRow_nil _ _ _ _
theorem SRow.form {w : World} {base : Nat} {v : Value} {L : List St} (h : SRow w base v L) : ∃ a cap, v = .slice a L.length cap := by
  obtain ⟨_, ⟨rfl, h0⟩ | ⟨gb, cap, cur, rfl, _⟩⟩ := h
  · exact ⟨none, 0, by rw [h0]⟩
  · exact ⟨_, _, rfl⟩
theorem SRow.only {w w' : World} {base : Nat} {v : Value} {L : List St} {S : Nat → Prop} (h : SRow w base v L) (hk : Only S w w') (hn : ∀ b, v.ownBlock = some b → ¬ S b) : SRow w' base v L := by
  obtain ⟨h1, ⟨rfl, h0⟩ | ⟨gb, cap, cur, rfl, hb, hg, hc, hm, hs, ht⟩⟩ := h
  · exact ⟨h1, .inl ⟨rfl, h0⟩⟩
  · exact ⟨h1, .inr ⟨gb, cap, cur, rfl, hb, hk.at hg (hn gb rfl), hc, hm, hs, ht⟩⟩
theorem SRow.block {w : World} {base : Nat} {v : Value} {L : List St} (h : SRow w base v L) {b : Nat} (hb : v.ownBlock = some b) : ∃ cur, w.heap[b]? = some (.cells cur 135 (0, 0)) := by
  obtain ⟨h1, ⟨rfl, h0⟩ | ⟨gb, cap, cur, rfl, _, hg, _⟩⟩ := h
  · cases hb
  · cases hb
    exact ⟨cur, hg⟩
theorem SRow.cells {w : World} {base : Nat} {a : Option Addr} {cap : Nat} {L : List St} (h : SRow w base (.slice a L.length cap) L) (i : Nat) (hi : i < L.length) :
    ∃ g, a = some ⟨g, 0, none⟩ ∧ g < w.heap.size ∧ w.cell? ⟨g, i * 3, none⟩ = some (.int .i64 (L.getD i st0).1) ∧ w.cell? ⟨g, i * 3 + 1, none⟩ = some (.int .i64 (L.getD i st0).2.1) ∧ w.cell? ⟨g, i * 3 + 2, none⟩ = some (.string (L.getD i st0).2.2) := by
  obtain ⟨_, ⟨h1, h0⟩ | ⟨gb, cap2, cur, h1, hgb, hgg, _⟩⟩ := id h
  · omega
  · injection h1 with e1 e2 e3
    subst e1
    have hc := sentCells_at L i hi
    have hlen := sentCells_length L
    refine ⟨gb, rfl, heap_lt hgg, ?_, ?_, ?_⟩
    · exact (World.ownsRow.cellAt h (i * 3) (by omega)).trans hc.1
    · exact (World.ownsRow.cellAt h (i * 3 + 1) (by omega)).trans hc.2.1
    · exact (World.ownsRow.cellAt h (i * 3 + 2) (by omega)).trans hc.2.2
theorem SRow.snoc {w' : World} {B : Nat} {v : Value} {L : List St} {x : St} (h : w'.ownsRow B 135 3 v (L.length + 1) (sentCells L ++ [.int .i64 x.1, .int .i64 x.2.1, .string x.2.2])) : SRow w' B v (L ++ [x]) := by
  unfold SRow
  rw [List.length_append, sentCells_append]
  exact h
theorem cell_three_new (w : World) (x y z : Value) (t : TypeId) : ∀ j u, [x, y, z][j]? = some u → (w.alloc (.cells #[x, y, z] t)).cell? ((⟨w.heap.size, 0, none⟩ : Addr).add j) = some u := by
  intro j u hj
  have hb := blk_new w (.cells #[x, y, z] t)
  match j, hj with
  | 0, hj => exact (blk_cell hb 0).trans hj
  | 1, hj => exact (blk_cell hb 1).trans hj
  | 2, hj => exact (blk_cell hb 2).trans hj
  | j + 3, hj => simp at hj

/-- What is not acknowledged, what came ahead of its turn. -/
def CS.W (s : CS) : List St := s.O.map fun x => (x.key, x.at_, x.data)
def CS.Y (s : CS) : List St := s.E.map fun p => (p.1, 0, p.2)
def CS.rcells (s : CS) (wv ev : Value) : Array Value := #[.int .i64 s.room, .int .i64 s.wait, .int .i64 s.beat, .int .i64 s.epoch, .int .i64 s.role, .int .i64 s.mark, .int .i64 s.now, .int .i64 s.last, .int .i64 s.acked, .int .i64 s.taken, .int .i64 s.bat, .int .i64 s.hat, .int .i64 s.hrole, .int .i64 s.hmark, wv, ev]

/-- The reference end in memory. -/
def REAt (w : World) (r : Nat) (s : CS) : Prop := ∃ (wv ev : Value) (wb eb : Nat), w.heap[r]? = some (.cells (s.rcells wv ev) 75 (0, 0)) ∧ SRow w wb wv s.W ∧ SRow w eb ev s.Y

theorem REAt.only {w w' : World} {r : Nat} {s : CS} {S : Nat → Prop} (h : REAt w r s) (hk : Only S w w') (hr : ¬ S r) (hn : ∀ b cur, w.heap[b]? = some (.cells cur 135 (0, 0)) → ¬ S b) : REAt w' r s := by
  obtain ⟨wv, ev, wb, eb, hg, h1, h2⟩ := h
  refine ⟨wv, ev, wb, eb, hk.at hg hr, h1.only hk (fun b hb => ?_), h2.only hk (fun b hb => ?_)⟩
  · obtain ⟨cur, hc⟩ := h1.block hb
    exact hn b cur hc
  · obtain ⟨cur, hc⟩ := h2.block hb
    exact hn b cur hc
theorem REAt.keep {w w' : World} {r : Nat} {s : CS} (h : REAt w r s) (hk : Only (fun _ => False) w w') : REAt w' r s := h.only hk (fun h => h) (fun _ _ _ h => h)
theorem REAt.lt {w : World} {r : Nat} {s : CS} (h : REAt w r s) : r < w.heap.size := by
  obtain ⟨_, _, _, _, hg, _⟩ := h
  exact heap_lt hg
theorem rblock_ne {w : World} {r b : Nat} {cs cur : Array Value} (h : w.heap[r]? = some (.cells cs 75 (0, 0))) (hb : w.heap[b]? = some (.cells cur 135 (0, 0))) : b ≠ r := by
  intro e
  rw [e, h] at hb
  injection hb with hb
  injection hb with _ hb
  revert hb
  decide
/-- A cell of the end's own block, stored. -/
theorem REAt.set {w : World} {r : Nat} {s s' : CS} (h : REAt w r s) (i : Nat) (v : Value) (hc : ∀ wv ev, (s.rcells wv ev).setIfInBounds i v = s'.rcells wv ev) (hO : s'.O = s.O) (hE : s'.E = s.E) : REAt (w.setCell ⟨r, i, none⟩ v) r s' := by
  have hk := (Only.refl (fun k => k = r) w).setCell ⟨r, i, none⟩ v (fun _ => rfl)
  obtain ⟨wv, ev, wb, eb, hg, h1, h2⟩ := h
  refine ⟨wv, ev, wb, eb, by rw [← hc]; exact blk_set hg i v, ?_, ?_⟩
  · unfold CS.W
    rw [hO]
    exact h1.only hk (fun b hb => by obtain ⟨cur, hcc⟩ := h1.block hb; exact rblock_ne hg hcc)
  · unfold CS.Y
    rw [hE]
    exact h2.only hk (fun b hb => by obtain ⟨cur, hcc⟩ := h2.block hb; exact rblock_ne hg hcc)

theorem rtime_any (w : World) (r : Nat) (s : CS) (now : Int) (h : REAt w r s) : Calls Try.prog 74 #[.pointer (some ⟨r, 0, none⟩), .int .i64 now] w fun e w' => e = .returned (.tuple #[]) ∧ REAt w' r (s.ticked now) ∧ Only (fun k => k = r) w w' := by
  obtain ⟨wv, ev, wb, eb, hg, h1, h2⟩ := id h
  have x6 := (blk_cell hg 6).trans (show (s.rcells wv ev)[6]? = some (.int .i64 s.now) from rfl)
  have xf := blk_free hg 6
  have H := Lib.hid h
  clear h hg h1 h2
  go_enter Try.func74, Try.ntmps74
  go_wp2_with fail
  go_end0
  exact ⟨rfl, H.out.set (s' := s.ticked now) 6 _ (fun _ _ => rfl) rfl rfl, (Only.refl _ w).setCell _ _ (fun _ => rfl)⟩

theorem rrole_ok (w : World) (r : Nat) (s : CS) (ro : Int) (h : REAt w r s) (h0 : 0 ≤ ro) (h1 : ro ≤ 5) : Calls Try.prog 59 #[.pointer (some ⟨r, 0, none⟩), .int .i64 ro] w fun e w' => e = .returned (.int .i64 0) ∧ REAt w' r { s with role := ro } ∧ Only (fun k => k = r) w w' := by
  obtain ⟨wv, ev, wb, eb, hg, k1, k2⟩ := id h
  have x4 := (blk_cell hg 4).trans (show (s.rcells wv ev)[4]? = some (.int .i64 s.role) from rfl)
  have xf := blk_free hg 4
  have H := Lib.hid h
  have hr := Lib.hid (show roleB ro = true from by unfold roleB; simp; omega)
  clear h hg k1 k2
  go_enter Try.func59, Try.ntmps59
  go_wp2_with fail
  refine (rrole_any ro _).mono ?_
  rintro e w1 ⟨rfl, rfl⟩
  rw [hr.out]
  go_wp2_with fail
  go_ret
  exact ⟨rfl, H.out.set (s' := { s with role := ro }) 4 _ (fun _ _ => rfl) rfl rfl, (Only.refl _ w).setCell _ _ (fun _ => rfl)⟩
theorem rrole_bad (w : World) (r : Nat) (ro : Int) (h0 : ¬ (0 ≤ ro ∧ ro ≤ 5)) : Calls Try.prog 59 #[.pointer (some ⟨r, 0, none⟩), .int .i64 ro] w fun e w' => e = .returned (.int .i64 1) ∧ w = w' := by
  have hr := Lib.hid (show roleB ro = false from by unfold roleB; simp; omega)
  clear h0
  go_enter Try.func59, Try.ntmps59
  go_wp2_with fail
  refine (rrole_any ro _).mono ?_
  rintro e w1 ⟨rfl, rfl⟩
  rw [hr.out]
  go_wp2_with fail
  go_ret
  exact ⟨rfl, rfl⟩

theorem retext_any (w : World) (r : Nat) (s : CS) (k n : Int) (d : ByteArray) (h : REAt w r s) (hl : letterB k s.epoch s.role n s.taken d = true) : Calls Try.prog 75 #[.pointer (some ⟨r, 0, none⟩), .int .i64 k, .int .i64 n, .string d] w fun e w' => e = .returned (.string (s.letter k n d)) ∧ Only (fun _ => False) w w' := by
  obtain ⟨wv, ev, wb, eb, hg, k1, k2⟩ := h
  have x3 := (blk_cell hg 3).trans (show (s.rcells wv ev)[3]? = some (.int .i64 s.epoch) from rfl)
  have x4 := (blk_cell hg 4).trans (show (s.rcells wv ev)[4]? = some (.int .i64 s.role) from rfl)
  have x9 := (blk_cell hg 9).trans (show (s.rcells wv ev)[9]? = some (.int .i64 s.taken) from rfl)
  have HL := Lib.hid hl
  unfold CS.letter
  clear hg k1 k2 hl
  go_enter Try.func75, Try.ntmps75
  go_wp2_with fail
  refine wp_region_still_tail 16 (by kernel_rfl) (by kernel_rfl) ?_
  simp only [List.take_succ_cons, List.take_zero, List.drop_succ_cons, List.drop_zero]
  change wpStill _ _ (w.drew) (fun a' => wpList _ _ _ _ _ (w.drew)) _ _
  replace x3 : w.drew.cell? ⟨r, 3, none⟩ = _ := x3
  replace x4 : w.drew.cell? ⟨r, 4, none⟩ = _ := x4
  replace x9 : w.drew.cell? ⟨r, 9, none⟩ = _ := x9
  have hO := (Only.refl (fun _ => False) w).drew
  generalize w.drew = w1 at x3 x4 x9 hO ⊢
  repeat still_step
  refine wpStill_nil ?_
  go_wp2_with fail
  refine (rletter_any k s.epoch s.role n s.taken d _ HL.out).mono ?_
  rintro e w2 ⟨rfl, hk⟩
  go_wp2_with fail
  go_ret
  exact ⟨rfl, hO.trans hk⟩

theorem st_take_succ (P : St → Bool) (L : List St) (i : Nat) (h : i < L.length) : (L.take (i + 1)).filter P = (L.take i).filter P ++ (if P (L.getD i st0) = true then [L.getD i st0] else []) := by
  rw [List.take_succ_eq_append_getElem h, List.filter_append]
  congr 1
  rw [List.getD_eq_getElem?_getD, List.getElem?_eq_getElem h]
  simp only [Option.getD_some]
  cases hP : P L[i] <;> simp [hP]
theorem st_take_le (P : St → Bool) (L : List St) (i : Nat) : ((L.take i).filter P).length ≤ L.length := by
  have h1 := List.length_filter_le P (L.take i)
  have h3 : (L.take i).length ≤ L.length := by rw [List.length_take]; omega
  omega

theorem acks_W (s : CS) (n : Int) : ({ s with acked := n, O := s.O.filter (fun x => decide (n < x.key)) } : CS).W = s.W.filter (fun p => decide (n < p.1)) := by
  unfold CS.W
  rw [List.filter_map]
  rfl

set_option maxHeartbeats 2000000 in
theorem rack_any (w : World) (r : Nat) (s : CS) (n : Int) (h : REAt w r s) (hl : s.O.length ≤ 1000000) :
    Calls Try.prog 76 #[.pointer (some ⟨r, 0, none⟩), .int .i64 n] w fun e w' => e = .returned (.tuple #[]) ∧ REAt w' r (s.acks n) ∧ Only (fun k => k = r) w w' := by
  obtain ⟨ih, hih, hz0, hz1, hz2⟩ := info_parts info_sent
  obtain ⟨wv, ev, wb, eb, hg, h1, h2⟩ := id h
  have x7 := (blk_cell hg 7).trans (show (s.rcells wv ev)[7]? = some (.int .i64 s.last) from rfl)
  have x8 := (blk_cell hg 8).trans (show (s.rcells wv ev)[8]? = some (.int .i64 s.acked) from rfl)
  have H := Lib.hid h
  by_cases c1 : s.last < n
  · have HA := Lib.hid (show s.acks n = s from if_pos (.inl c1))
    clear h hg h1 h2
    go_enter Try.func76, Try.ntmps76
    go_wp2_with fail
    refine bodyPost_ret (results_none rfl _ _ _) rfl ?_
    exact ⟨rfl, by rw [HA.out]; exact H.out, Only.refl _ _⟩
  · by_cases c2 : n ≤ s.acked
    · have HA := Lib.hid (show s.acks n = s from if_pos (.inr c2))
      clear h hg h1 h2
      go_enter Try.func76, Try.ntmps76
      go_wp2_with fail
      refine bodyPost_ret (results_none rfl _ _ _) rfl ?_
      exact ⟨rfl, by rw [HA.out]; exact H.out, Only.refl _ _⟩
    · have HA := Lib.hid (show s.acks n = { s with acked := n, O := s.O.filter (fun x => decide (n < x.key)) } from if_neg (by omega))
      have f8 := blk_free hg 8
      have hrlt := heap_lt hg
      have hkk := (Only.refl (fun k => k = r) w).setCell ⟨r, 8, none⟩ (.int .i64 n) (fun _ => rfl)
      have HG := Lib.hid hg
      have H1 := Lib.hid h1
      have H2 := Lib.hid h2
      clear h hg h1 h2 H
      go_enter Try.func76, Try.ntmps76
      go_upto_region 2 with fail
      have hg1 : (w.setCell ⟨r, 8, none⟩ (.int .i64 n)).heap[r]? = some (.cells (({ s with acked := n } : CS).rcells wv ev) 75 (0, 0)) := (blk_set HG.out 8 (.int .i64 n)).trans rfl
      have h11 := H1.out.only hkk (fun b hb => by obtain ⟨cur, hcc⟩ := H1.out.block hb; exact rblock_ne HG.out hcc)
      have h21 := H2.out.only hkk (fun b hb => by obtain ⟨cur, hcc⟩ := H2.out.block hb; exact rblock_ne HG.out hcc)
      generalize w.setCell ⟨r, 8, none⟩ (.int .i64 n) = w1 at hkk hg1 h11 h21 ⊢
      obtain ⟨va, cap, rfl⟩ := h11.form
      have x14 := (blk_cell hg1 14).trans (show (({ s with acked := n } : CS).rcells (.slice va s.W.length cap) ev)[14]? = some (.slice va s.W.length cap) from rfl)
      have HROW := Lib.hid h11
      have HG1 := Lib.hid hg1
      have HE1 := Lib.hid h21
      have hNl : s.W.length ≤ 1000000 := by unfold CS.W; rw [List.length_map]; exact hl
      have hw1 := hkk.size
      generalize hN : s.W.length = N at x14 hNl
      have HN := Lib.hid hN
      have hrow0 := SRow.nil w1 w1.heap.size
      clear x7 x8 f8 HG H1 H2 hg1 h11 h21 hN
      go_wp2_with fail
      go_loopw [4, 5] (fun lv iv wr => ∃ i : Nat, iv = .int .i64 i ∧ i ≤ N ∧ SRow wr w1.heap.size lv ((s.W.take i).filter (fun p => decide (n < p.1))) ∧ Only (fun _ => False) w1 wr) (fun _ iv _ => N - (intOf iv).toNat)
      case atStart => exact ⟨0, rfl, by omega, hrow0, Only.refl _ _⟩
      case round =>
        clear hrow0
        obtain ⟨i, rfl, hiN, hr, hO⟩ := hrel
        have y14 := cell_only hO (fun h => h) x14
        have hlen := st_take_le (fun p => decide (n < p.1)) s.W i
        have hHsz := hO.size
        by_cases hi : i < N
        · obtain ⟨g, rfl, hgl, hc0, hc1, hc2⟩ := HROW.out.cells i (by rw [HN.out]; exact hi)
          have y5 := cell_only hO (fun h => h) hc0
          have y6 := cell_only hO (fun h => h) hc1
          have y7 := cell_only hO (fun h => h) hc2
          clear hc0 hc1 hc2
          have HS := Lib.hid (st_take_succ (fun p => decide (n < p.1)) s.W i (by rw [HN.out]; exact hi))
          have hlen2 : ((s.W.take i).filter (fun p => decide (n < p.1))).length ≤ N := by rw [HN.out] at hlen; exact hlen
          generalize (s.W.take i).filter (fun p => decide (n < p.1)) = K at HS hr hlen2 ⊢
          generalize s.W.getD i st0 = x at *
          obtain ⟨lva, lcap, rfl⟩ := hr.form
          clear hlen
          by_cases he : n < x.1
          · have hk : decide (n < x.1) = true := decide_eq_true he
            simp only [hk] at HS
            have HR := Lib.hid hr
            have hr2 := hr
            clear hr
            go_wp2_with (at_builtin; refine wpList_append_own _ rfl _ _ 73 rfl w1.heap.size 135 ih (.agg #[.int .i64 0, .int .i64 0, .string ⟨#[]⟩]) 3 32 Try.underlying73 hih hz0 hz1 hz2 rfl (by decide) _ K.length _ rfl (hr2.alloc _) ⟨wr.heap.size, 0, none⟩ 1 1 [.int .i64 x.1, .int .i64 x.2.1, .string x.2.2] rfl rfl (cell_three_new _ _ _ _ _) (by simp [Value.oneCell']) (by simp [maxLen]; omega) (by omega) (by rw [World.size_alloc]; omega) ?_; intro v3 w3 hown hgr _)
            have hrow3 : SRow w3 w1.heap.size v3 ((s.W.take (i + 1)).filter (fun p => decide (n < p.1))) := by
              rw [HS.out]
              simp only [if_true]
              exact SRow.snoc hown
            have hO3 : Only (fun _ => False) w1 w3 := (hO.alloc (.cells #[.int .i64 x.1, .int .i64 x.2.1, .string x.2.2] 135)).then (Only.of_grown hgr) (fun k hk e => by have := (hr2.lt _ e.symm).1; omega)
            clear hown hgr hr2
            go_roundw
            case rel => exact ⟨i + 1, by go_num, by omega, hrow3, hO3⟩
            case measure => simp [intOf]; omega
          · have hk : decide (n < x.1) = false := decide_eq_false he
            simp only [hk] at HS
            have HR := Lib.hid hr
            clear hr
            go_wp2_with fail
            go_roundw
            case rel => exact ⟨i + 1, by go_num, by omega, by rw [HS.out]; simpa using HR.out, hO⟩
            case measure => simp [intOf]; omega
        · obtain rfl : i = N := by omega
          have hK : (s.W.take i).filter (fun p => decide (n < p.1)) = s.W.filter (fun p => decide (n < p.1)) := by
            rw [← HN.out, List.take_length]
          rw [hK] at hr
          obtain ⟨lva, lcap, rfl⟩ := hr.form
          have hG := hO.at HG1.out (fun h => h)
          have hf14 := blk_free hG 14
          have HWW := Lib.hid (acks_W s n)
          clear hlen hK
          generalize s.W.filter (fun p => decide (n < p.1)) = K at *
          have hk4 := (Only.refl (fun k => k = r) wr).setCell ⟨r, 14, none⟩ (.slice lva K.length lcap) (fun _ => rfl)
          have hG4 := (blk_set hG 14 (.slice lva K.length lcap)).trans (show _ = some (.cells (({ s with acked := n } : CS).rcells (.slice lva K.length lcap) ev) 75 (0, 0)) from rfl)
          have hrow4 := hr.only hk4 (fun b hb => by have := (hr.lt _ hb).1; show ¬ b = r; omega)
          have hev4 := (HE1.out.only hO (fun _ _ h => h)).only hk4 (fun b hb => by obtain ⟨cur, hcc⟩ := (HE1.out.only hO (fun _ _ h => h)).block hb; exact rblock_ne hG hcc)
          have HFIN := Lib.hid (show REAt (wr.setCell ⟨r, 14, none⟩ (.slice lva K.length lcap)) r (s.acks n) from by
            rw [HA.out]
            exact ⟨_, ev, w1.heap.size, eb, hG4, by rw [HWW.out]; exact hrow4, hev4⟩)
          have HOF := Lib.hid (show Only (fun k => k = r) w (wr.setCell ⟨r, 14, none⟩ (.slice lva K.length lcap)) from (hkk.then hO (fun _ _ h => h.elim)).trans hk4)
          clear hr hk4 hG4 hrow4 hev4
          go_wp2_with fail
          go_end0
          exact ⟨rfl, HFIN.out, HOF.out⟩

/-- The place of a number that came ahead of its turn. -/
def placeE : List St → Int → Option Nat
  | [], _ => none
  | p :: L, n => if p.1 = n then some 0 else (placeE L n).map (· + 1)
theorem placeE_none : ∀ {L : List St} {n : Int}, (∀ m, m < L.length → (L.getD m st0).1 ≠ n) → placeE L n = none
  | [], _, _ => rfl
  | p :: L, n, h => by
    have h0 : p.1 ≠ n := h 0 (by simp)
    have ih := placeE_none (L := L) (n := n) (fun m hm => h (m + 1) (by simpa using hm))
    unfold placeE
    rw [if_neg h0, ih]
    rfl
theorem placeE_at : ∀ {L : List St} {n : Int} {i : Nat}, i < L.length → (∀ m, m < i → (L.getD m st0).1 ≠ n) → (L.getD i st0).1 = n → placeE L n = some i
  | [], _, i, hi, _, _ => absurd hi (Nat.not_lt_zero _)
  | p :: L, n, 0, _, _, h => if_pos h
  | p :: L, n, i + 1, hi, hpre, h => by
    have h0 : p.1 ≠ n := hpre 0 (by omega)
    have ih := placeE_at (L := L) (n := n) (i := i) (by simpa using hi) (fun m hm => hpre (m + 1) (by omega)) h
    unfold placeE
    rw [if_neg h0, ih]
    rfl
def earlyN (L : List St) (n : Int) : Int := match placeE L n with | some i => (i : Int) | none => -1

set_option maxHeartbeats 1000000 in
theorem rearly_any (w : World) (r : Nat) (s : CS) (n : Int) (h : REAt w r s) (hl : s.E.length ≤ 1000000) :
    Calls Try.prog 77 #[.pointer (some ⟨r, 0, none⟩), .int .i64 n] w fun e w' => e = .returned (.int .i64 (earlyN s.Y n)) ∧ w = w' := by
  obtain ⟨wv, ev, wb, eb, hg, h1, h2⟩ := h
  obtain ⟨va, cap, rfl⟩ := h2.form
  have x15 := (blk_cell hg 15).trans (show (s.rcells wv (.slice va s.Y.length cap))[15]? = some (.slice va s.Y.length cap) from rfl)
  have HROW := Lib.hid h2
  have hNl : s.Y.length ≤ 1000000 := by unfold CS.Y; rw [List.length_map]; exact hl
  generalize hN : s.Y.length = N at x15 hNl
  have HN := Lib.hid hN
  clear hg h1 h2 hN
  go_enter Try.func77, Try.ntmps77
  go_wp2_with fail
  go_loopw [5] (fun iv wr => ∃ i : Nat, iv = .int .i64 i ∧ i ≤ N ∧ (∀ m, m < i → (s.Y.getD m st0).1 ≠ n) ∧ wr = w) (fun iv _ => N - (intOf iv).toNat)
  case atStart => exact ⟨0, rfl, by omega, fun m hm => absurd hm (Nat.not_lt_zero _), rfl⟩
  case round =>
    obtain ⟨i, rfl, hiN, hpre, rfl⟩ := hrel
    have HPRE := Lib.hid hpre
    clear hpre
    by_cases hi : i < N
    · obtain ⟨g, rfl, hgl, hc0, hc1, hc2⟩ := HROW.out.cells i (by rw [HN.out]; exact hi)
      have HAT := Lib.hid (fun h => placeE_at (L := s.Y) (n := n) (by rw [HN.out]; exact hi) HPRE.out h)
      have HNX := Lib.hid (show (s.Y.getD i st0).1 ≠ n → ∀ m, m < i + 1 → (s.Y.getD m st0).1 ≠ n from fun hx m hm => by
        by_cases e : m = i
        · rw [e]; exact hx
        · exact HPRE.out m (by omega))
      generalize s.Y.getD i st0 = x at *
      by_cases he : x.1 = n
      · have de : (x.1 == n) = true := by simpa using he
        have HF := Lib.hid (show earlyN s.Y n = (i : Int) from by unfold earlyN; rw [HAT.out he])
        clear he
        go_wp2_with fail
        go_ret
        exact ⟨by rw [HF.out]; rfl, rfl⟩
      · have de : (x.1 == n) = false := by simpa using he
        have HNX2 := Lib.hid (HNX.out he)
        clear he
        go_wp2_with fail
        go_roundw
        case rel => exact ⟨i + 1, by go_num, by omega, HNX2.out, by first | rfl | trivial⟩
        case measure => simp [intOf]; omega
    · have HF := Lib.hid (show earlyN s.Y n = -1 from by
        unfold earlyN
        rw [placeE_none (fun m hm => HPRE.out m (by rw [HN.out] at hm; omega))])
      go_wp2_with fail
      go_ret
      exact ⟨by rw [HF.out]; rfl, rfl⟩

end Go.Proofs.Yteifehienpeaiaa

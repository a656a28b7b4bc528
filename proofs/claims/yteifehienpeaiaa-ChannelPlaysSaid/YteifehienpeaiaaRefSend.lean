/-
  Send of the reference end of a channel.
  Conditions: numbers are of the kind int, the end's own in their bounds.
-/
import Derived.Test.YteifehienpeaiaaSentRows
import Derived.Test.YteifehienpeaiaaPhasedK
set_option linter.unusedVariables false
set_option linter.unusedSimpArgs false
set_option maxRecDepth 100000
namespace Go.Proofs.Yteifehienpeaiaa
open Go.RowKit

theorem SRow.full {w : World} {B : Nat} {v : Value} {L : List St} (h : SRow w B v L) (hl : L ≠ []) {b : Nat} (hb : v.ownBlock = some b) : w.heap[b]? ≠ some (.cells #[] 135 (0, 0)) := by
  obtain ⟨h1, ⟨rfl, h0⟩ | ⟨gb, cap, cur, rfl, _, hg, hc, _, hs, _⟩⟩ := h
  · cases hb
  · cases hb
    have : 0 < L.length := List.length_pos_iff.2 hl
    rw [hg]
    intro e
    injection e with e
    injection e with e
    rw [e] at hs
    simp at hs
    omega

/-- The reference end, its rows named, all below B. -/
structure RSt (w : World) (r : Nat) (s : CS) (wv yv : Value) (wb eb B : Nat) : Prop where
  blk : w.heap[r]? = some (.cells (s.rcells wv yv) 75 (0, 0))
  wrow : SRow w wb wv s.W
  erow : SRow w eb yv s.Y
  wlt : ∀ b, wv.ownBlock = some b → b < B
  elt : ∀ b, yv.ownBlock = some b → b < B
  rlt : r < B
theorem RSt.only {w w' : World} {r : Nat} {s : CS} {wv yv : Value} {wb eb B : Nat} {S : Nat → Prop} (h : RSt w r s wv yv wb eb B) (hk : Only S w w') (hS : ∀ z, z < B → ¬ S z) : RSt w' r s wv yv wb eb B :=
  ⟨hk.at h.blk (hS r h.rlt), h.wrow.only hk (fun b hb => hS b (h.wlt b hb)), h.erow.only hk (fun b hb => hS b (h.elt b hb)), h.wlt, h.elt, h.rlt⟩
theorem RSt.keep {w w' : World} {r : Nat} {s : CS} {wv yv : Value} {wb eb B : Nat} (h : RSt w r s wv yv wb eb B) (hk : Only (fun _ => False) w w') : RSt w' r s wv yv wb eb B := h.only hk (fun _ _ h => h)
theorem RSt.of {w : World} {r : Nat} {s : CS} (h : REAt w r s) : ∃ wv yv wb eb, RSt w r s wv yv wb eb w.heap.size := by
  obtain ⟨wv, yv, wb, eb, hg, h1, h2⟩ := h
  exact ⟨wv, yv, wb, eb, hg, h1, h2, fun b hb => by obtain ⟨cur, hc⟩ := h1.block hb; exact heap_lt hc, fun b hb => by obtain ⟨cur, hc⟩ := h2.block hb; exact heap_lt hc, heap_lt hg⟩
theorem RSt.c14 {w : World} {r : Nat} {s : CS} {wv yv : Value} {wb eb B : Nat} (h : RSt w r s wv yv wb eb B) : w.cell? ⟨r, 14, none⟩ = some wv := (blk_cell h.blk 14).trans rfl
theorem RSt.c15 {w : World} {r : Nat} {s : CS} {wv yv : Value} {wb eb B : Nat} (h : RSt w r s wv yv wb eb B) : w.cell? ⟨r, 15, none⟩ = some yv := (blk_cell h.blk 15).trans rfl
theorem RSt.c7 {w : World} {r : Nat} {s : CS} {wv yv : Value} {wb eb B : Nat} (h : RSt w r s wv yv wb eb B) : w.cell? ⟨r, 7, none⟩ = some (.int .i64 s.last) := (blk_cell h.blk 7).trans rfl
theorem RSt.c6 {w : World} {r : Nat} {s : CS} {wv yv : Value} {wb eb B : Nat} (h : RSt w r s wv yv wb eb B) : w.cell? ⟨r, 6, none⟩ = some (.int .i64 s.now) := (blk_cell h.blk 6).trans rfl

def rsPh (W : World) (B r : Nat) (s : CS) (wv yv : Value) (wb eb : Nat) (_ _ : Bool) (w : World) : Prop := Only (fun _ => False) W w ∧ B ≤ w.heap.size ∧ RSt w r s wv yv wb eb B
def rsSt (B : Nat) (w : World) (i k : Nat) : Prop := (i = 6 ∧ w.heap[k]? = some (.cells #[] 135 (0, 0))) ∨ (i = 18 ∧ B ≤ k)

def rsG (B r : Nat) (s : CS) (d : ByteArray) (wv yv : Value) (wb eb : Nat) (L : Nat → Bool) : Nat → Value → World → Prop
  | 0, v, w' => v = .pointer (some ⟨r, 0, none⟩)
  | 1, v, w' => ∃ k, v = .slice (some ⟨k, 0, none⟩) 0 0 ∧ B ≤ k ∧ (L 6 = false → L 18 = false → w'.heap[k]? = some (.cells #[] 135 (0, 0)))
  | 2, v, w' => v = .pointer (some ⟨r, 0, none⟩)
  | 3, v, w' => v = .pointer (some ⟨r, 0, none⟩)
  | 4, v, w' => v = .pointer (some ⟨r, 14, none⟩)
  | 5, v, w' => v = wv
  | 6, v, w' => (∀ b, (v).ownBlock = some b → B ≤ b) ∧ (L 18 = false → SRow w' B (v) s.W)
  | 7, v, w' => v = .pointer (some ⟨r, 0, none⟩)
  | 8, v, w' => v = .pointer (some ⟨r, 0, none⟩)
  | 9, v, w' => v = .pointer (some ⟨r, 7, none⟩)
  | 10, v, w' => v = .int .i64 s.last
  | 11, v, w' => v = .pointer (some ⟨r, 0, none⟩)
  | 12, v, w' => v = .pointer (some ⟨r, 0, none⟩)
  | 13, v, w' => v = .pointer (some ⟨r, 6, none⟩)
  | 14, v, w' => v = .int .i64 s.now
  | 15, v, w' => v = .string d
  | 16, v, w' => v = .agg #[.int .i64 s.last, .int .i64 s.now, .string d]
  | 17, v, w' => ∃ k, v = .slice (some ⟨k, 0, none⟩) 1 1 ∧ B ≤ k ∧ (L 18 = false → w'.heap[k]? = some (.cells #[.int .i64 s.last, .int .i64 s.now, .string d] 135 (0, 0)))
  | 18, v, w' => (∀ b, (v).ownBlock = some b → B ≤ b) ∧ SRow w' B (v) (s.W ++ [(s.last, s.now, d)])
  | 19, v, w' => v = .pointer (some ⟨r, 0, none⟩)
  | 20, v, w' => v = .pointer (some ⟨r, 14, none⟩)
  | _, _, _ => True
def rsDs : List Nat := [32, 33, 34, 35, 36, 37, 38, 39, 40, 41, 42, 43, 44, 45, 46, 47, 48, 49, 50, 51, 52]
def rsNeed : List (List Nat) := [[], [], [], [2], [3], [4], [1, 5], [], [7], [8], [9], [], [11], [12], [13], [], [10, 14, 15], [16], [6, 17], [0], [19]]
def rsGs : List (Option Bool) := []
def rsLate : List (List Nat) := [[], [6, 18], [6, 18], [6, 18], [6, 18], [6, 18], [18], [18], [18], [18], [18], [18], [18], [18], [18], [18], [18], [18], [], [], []]
def rsEarly : List (List Nat) := [[], [], [], [], [], [], [], [], [], [], [], [], [], [], [], [], [], [], [6], [], []]
theorem rsG.keep {B r : Nat} {s : CS} {d : ByteArray} {wv yv : Value} {wb eb : Nat} : ∀ L i jx v w w', i ≠ jx → L i = false → L jx = true → rsG B r s d wv yv wb eb L jx v w → Only (rsSt B w i) w w' → rsG B r s d wv yv wb eb (upd L i) jx v w' := by
  intro L i jx v w w' hij hLi hLj h hO
  match jx, hij, hLj, h with
  | 0, hij, hLj, h => exact h
  | 1, hij, hLj, h => exact (by
    obtain ⟨k, e1, e2, e3⟩ := h
    refine ⟨k, e1, e2, fun h6 h18 => ?_⟩
    have hi6 : i ≠ 6 := fun e => by subst e; simp [upd] at h6
    have hi18 : i ≠ 18 := fun e => by subst e; simp [upd] at h18
    have h6' : L 6 = false := by unfold upd at h6; rwa [if_neg (fun e => hi6 e.symm)] at h6
    have h18' : L 18 = false := by unfold upd at h18; rwa [if_neg (fun e => hi18 e.symm)] at h18
    exact hO.at (e3 h6' h18') (by rintro (⟨h, _⟩ | ⟨h, _⟩) <;> first | exact hi6 h | exact hi18 h))
  | 2, hij, hLj, h => exact h
  | 3, hij, hLj, h => exact h
  | 4, hij, hLj, h => exact h
  | 5, hij, hLj, h => exact h
  | 6, hij, hLj, h => exact (by
    obtain ⟨e1, e2⟩ := h
    refine ⟨e1, fun h18 => ?_⟩
    have hi18 : i ≠ 18 := fun e => by subst e; simp [upd] at h18
    have h18' : L 18 = false := by unfold upd at h18; rwa [if_neg (fun e => hi18 e.symm)] at h18
    exact (e2 h18').only hO (by rintro b hb (⟨h, _⟩ | ⟨h, _⟩) <;> first | exact hij h | exact hi18 h))
  | 7, hij, hLj, h => exact h
  | 8, hij, hLj, h => exact h
  | 9, hij, hLj, h => exact h
  | 10, hij, hLj, h => exact h
  | 11, hij, hLj, h => exact h
  | 12, hij, hLj, h => exact h
  | 13, hij, hLj, h => exact h
  | 14, hij, hLj, h => exact h
  | 15, hij, hLj, h => exact h
  | 16, hij, hLj, h => exact h
  | 17, hij, hLj, h => exact (by
    obtain ⟨k, e1, e2, e3⟩ := h
    refine ⟨k, e1, e2, fun h18 => ?_⟩
    have hi18 : i ≠ 18 := fun e => by subst e; simp [upd] at h18
    have h18' : L 18 = false := by unfold upd at h18; rwa [if_neg (fun e => hi18 e.symm)] at h18
    refine hO.at (e3 h18') ?_
    rintro (⟨_, h⟩ | ⟨h, _⟩)
    · rw [e3 h18'] at h
      injection h with h
      injection h with h
      injection h with h
      cases h
    · exact hi18 h)
  | 18, hij, hLj, h => exact (by
    obtain ⟨e1, e2⟩ := h
    exact ⟨e1, e2.only hO (by rintro b hb (⟨h, hx⟩ | ⟨h, _⟩); exact e2.full (by simp) hb hx; exact hij h)⟩)
  | 19, hij, hLj, h => exact h
  | 20, hij, hLj, h => exact h
  | n + 21, hij, hLj, h => trivial
theorem rsG.guard {B r : Nat} {s : CS} {d : ByteArray} {wv yv : Value} {wb eb : Nat} : ∀ g' b', rsGs.getD g' none = some b' → ∀ L v w, rsG B r s d wv yv wb eb L g' v w → v = .bool b' := by
  intro g' b' hbb L v w hgg
  match g', hbb, hgg with
  | n' + 0, hbb, hgg => exact absurd hbb (by simp [rsGs])

theorem rsend_long (w : World) (r : Nat) (d : ByteArray) (now : Int) (hd : 4096 < d.size) (hd2 : d.size ≤ 140737488355328) : Calls Try.prog 56 #[.pointer (some ⟨r, 0, none⟩), .string d, .int .i64 now] w fun e w' => e = .returned (.tuple #[.string ⟨#[]⟩, .int .i64 2]) ∧ w = w' := by
  have d1 : decide (4096 < (d.size : Int)) = true := decide_eq_true (by omega)
  go_enter Try.func56, Try.ntmps56
  go_wp2_with fail
  go_ret2
  exact ⟨rfl, rfl⟩

theorem rsend_full (w : World) (r : Nat) (s0 : CS) (d : ByteArray) (now : Int) (h : REAt w r s0) (hd : d.size ≤ 4096) (hf : s0.room ≤ s0.O.length) : Calls Try.prog 56 #[.pointer (some ⟨r, 0, none⟩), .string d, .int .i64 now] w fun e w' => e = .returned (.tuple #[.string ⟨#[]⟩, .int .i64 150]) ∧ Only (fun _ => False) w w' := by
  have d1 : decide (4096 < (d.size : Int)) = false := decide_eq_false (by omega)
  have hlen : s0.W.length = s0.O.length := by unfold CS.W; rw [List.length_map]
  have d2 : decide (s0.room ≤ (s0.O.length : Int)) = true := decide_eq_true hf
  obtain ⟨wv, yv, wb, eb, hst⟩ := RSt.of h
  obtain ⟨va, cap, rfl⟩ := hst.wrow.form
  have x14 := hst.c14
  have x0 := (blk_cell hst.blk 0).trans (show (s0.rcells (.slice va s0.W.length cap) yv)[0]? = some (.int .i64 s0.room) from rfl)
  rw [hlen] at x14
  clear h hst hlen
  go_enter Try.func56, Try.ntmps56
  go_wp2_with fail
  go_quiet (fail)
  go_wp2_with fail
  go_ret2
  exact ⟨rfl, (Only.refl _ w).drewN _⟩

set_option maxHeartbeats 4000000 in
theorem rsend_any (w : World) (r : Nat) (s0 : CS) (d : ByteArray) (now : Int) (h : REAt w r s0) (ho : COk s0) (hd : d.size ≤ 4096) (hf : s0.O.length < s0.room) (hl : 0 ≤ s0.last ∧ s0.last < 4294967295) (b0 : Nat) :
    Calls Try.prog 56 #[.pointer (some ⟨r, 0, none⟩), .string d, .int .i64 now] w fun e w' => e = .returned (.tuple #[.string ((s0.ticked now).letter 1 (s0.last + 1) d), .int .i64 0]) ∧ REAt w' r (s0.sent d now b0) ∧ Only (fun k => k = r) w w' := by
  have d1 : decide (4096 < (d.size : Int)) = false := decide_eq_false (by omega)
  have hlen : s0.W.length = s0.O.length := by unfold CS.W; rw [List.length_map]
  have d2 : decide (s0.room ≤ (s0.O.length : Int)) = false := decide_eq_false (by omega)
  have hol := ho.len
  have hlett : letterB 1 s0.epoch s0.role (s0.last + 1) s0.taken d = true := by
    have := ho.e0; have := ho.e1; have := ho.o0; have := ho.o1; have := ho.t0; have := ho.t1
    obtain ⟨l0, l1⟩ := hl
    unfold letterB wordB roleB
    simp only [Bool.and_eq_true, Bool.or_eq_true, decide_eq_true_eq, beq_iff_eq]
    refine ⟨⟨⟨⟨⟨?_, ?_⟩, ?_⟩, ?_⟩, ?_⟩, .inl ⟨trivial, ?_⟩⟩ <;> omega
  have HLET := Lib.hid hlett
  obtain ⟨wv, yv, wb, eb, hst⟩ := RSt.of h
  obtain ⟨va, cap, rfl⟩ := hst.wrow.form
  have x14 := hst.c14
  have x0 := (blk_cell hst.blk 0).trans (show (s0.rcells (.slice va s0.W.length cap) yv)[0]? = some (.int .i64 s0.room) from rfl)
  rw [hlen] at x14
  have H := Lib.hid h
  obtain ⟨l0, l1⟩ := hl
  clear h hst hlett hlen ho
  go_enter Try.func56, Try.ntmps56
  go_wp2_with fail
  go_quiet (fail)
  have H1 := Lib.hid (H.out.keep ((Only.refl (fun _ => False) w).drewN nq))
  have hO1 : Only (fun k => k = r) w (w.drewN nq) := (Only.refl _ w).drewN nq
  generalize w.drewN nq = w1 at H1 hO1 ⊢
  clear x14 x0 H
  go_wp2_with fail
  refine (rtime_any w1 r s0 now H1.out).mono ?_
  rintro e w2 ⟨rfl, h2, hk2⟩
  have hO2 := hO1.trans hk2
  obtain ⟨wv2, ev2, wb2, eb2, hg2, _, _⟩ := id h2
  have x7 := (blk_cell hg2 7).trans (show ((s0.ticked now).rcells wv2 ev2)[7]? = some (.int .i64 s0.last) from rfl)
  have f7 := blk_free hg2 7
  have h3 := h2.set (s' := ({ s0.ticked now with last := s0.last + 1 } : CS)) 7 (.int .i64 (s0.last + 1)) (fun _ _ => rfl) rfl rfl
  have hk3 := (Only.refl (fun k => k = r) w2).setCell ⟨r, 7, none⟩ (.int .i64 (s0.last + 1)) (fun _ => rfl)
  clear hg2 hO1 hk2 H1 h2
  go_upto_region 7 with fail
  generalize w2.setCell ⟨r, 7, none⟩ (.int .i64 (s0.last + 1)) = w3 at h3 hk3 ⊢
  have hO3 := hO2.trans hk3
  clear x7 f7 hk3 hO2
  obtain ⟨wv, yv, wb, eb, hst⟩ := RSt.of (h3.keep (Only.refl (fun _ => False) w3).drew)
  have hsent : ∀ v bv, (s0.sent d now b0).rcells v bv = (({ s0.ticked now with last := s0.last + 1 } : CS)).rcells v bv := fun _ _ => rfl
  have hW : (s0.sent d now b0).W = (({ s0.ticked now with last := s0.last + 1 } : CS)).W ++ [(s0.last + 1, (s0.ticked now).now, d)] := by
    unfold CS.W
    show (s0.O ++ [(⟨s0.last + 1, b0, (s0.ticked now).now, d⟩ : Sn)]).map _ = _
    rw [List.map_append]
    rfl
  have hY : (s0.sent d now b0).Y = (({ s0.ticked now with last := s0.last + 1 } : CS)).Y := rfl
  have hlet2 : (s0.ticked now).letter 1 (s0.last + 1) d = (s0.sent d now b0).letter 1 (s0.last + 1) d := rfl
  have HX := Lib.hid (show _ ∧ _ ∧ _ ∧ _ from ⟨hsent, hW, hY, hlet2⟩)
  have hll : ({ s0.ticked now with last := s0.last + 1 } : CS).last = s0.last + 1 := rfl
  have hnn : ({ s0.ticked now with last := s0.last + 1 } : CS).now = (s0.ticked now).now := rfl
  have HL : Hid (({ s0.ticked now with last := s0.last + 1 } : CS).W.length ≤ 64) := Lib.hid (by unfold CS.W; rw [List.length_map]; exact hol)
  rw [← hnn, ← hll] at HX
  have HLL := Lib.hid hll
  generalize ({ s0.ticked now with last := s0.last + 1 } : CS) = s at h3 hst HX HL HLL
  have HT : Hid (rsPh w3 w3.heap.size r s wv yv wb eb false false w3.drew) := Lib.hid ⟨(Only.refl _ w3).drew, Nat.le_refl _, hst⟩
  have HBW : Hid (w3.heap.size ≤ w3.heap.size) := Lib.hid (Nat.le_refl _)
  have hBd : ∃ B, B = w3.heap.size := ⟨_, rfl⟩
  obtain ⟨B, hB⟩ := hBd
  have HBW : Hid (w3.heap.size ≤ B) := Lib.hid (Nat.le_of_eq hB.symm)
  rw [← hB] at HT
  have HB := Lib.hid hB
  have HOO := Lib.hid hO3
  clear h3 hst hsent hW hY hlet2 hll hnn hB hO3 hol
  refine wp_region_phasedk_tail 21 rsDs rsNeed rsGs rsLate rsEarly (fun L w' => rsPh w3 B r s wv yv wb eb (L 6) (L 18) w') (fun i w w' => Only (rsSt B w i) w w') (rsG B r s d wv yv wb eb) rfl rfl (by kernel_rfl) (by kernel_rfl) (by kernel_rfl) (by kernel_rfl) (by kernel_rfl) (by kernel_rfl) HT.out rsG.keep rsG.guard (fun _ _ => Only.refl _ _) ?_ ?_
  · refine And.intro ?op0 (And.intro ?op1 (And.intro ?op2 (And.intro ?op3 (And.intro ?op4 (And.intro ?op5 (And.intro ?op6 (And.intro ?op7 (And.intro ?op8 (And.intro ?op9 (And.intro ?op10 (And.intro ?op11 (And.intro ?op12 (And.intro ?op13 (And.intro ?op14 (And.intro ?op15 (And.intro ?op16 (And.intro ?op17 (And.intro ?op18 (And.intro ?op19 (And.intro ?op20 trivial))))))))))))))))))))
    case op0 =>
      intro L ev w1 hLi hlate hearly hT1 hc hf hfr hG
      rw [if_pos (by decide)]
      have hP : rsPh w3 B r s wv yv wb eb (L 6) (L 18) w1 := hT1
      have h0 : ev (.tmp 0) = .pointer (some ⟨r, 0, none⟩) := hfr 0 (by decide)
      clear hG hfr
      refine OpSays.value (v := .pointer (some ⟨r, 0, none⟩)) (w' := w1) ?_ ⟨hT1, Only.refl _ _, rfl⟩
      go_simp
    case op1 =>
      intro L ev w1 hLi hlate hearly hT1 hc hf hfr hG
      rw [if_pos (by decide)]
      have hP : rsPh w3 B r s wv yv wb eb (L 6) (L 18) w1 := hT1
      obtain ⟨hl6, hl18, _⟩ := hlate
      rw [hl6] at hP
      rw [hl18] at hP
      change OpSays _ _ _ _ (fun v w' => rsPh w3 B r s wv yv wb eb (L 6) (L 18) w' ∧ _ ∧ _)
      rw [hl6]
      rw [hl18]
      clear hG hfr
      obtain ⟨hO, hBw, hRE⟩ := hP
      have hk := (Only.refl (fun _ => False) w1).alloc (.cells #[] 135)
      refine OpSays.value (v := .slice (some ⟨w1.heap.size, 0, none⟩) 0 0) (w' := w1.alloc (.cells #[] 135)) ?_ ⟨⟨hO.trans hk, Nat.le_trans hBw hk.size, hRE.keep hk⟩, hk.mono (fun _ _ h => h.elim), w1.heap.size, rfl, hBw, fun _ _ => blk_new w1 _⟩
      go_simp
    case op2 =>
      intro L ev w1 hLi hlate hearly hT1 hc hf hfr hG
      rw [if_pos (by decide)]
      have hP : rsPh w3 B r s wv yv wb eb (L 6) (L 18) w1 := hT1
      obtain ⟨hl6, hl18, _⟩ := hlate
      rw [hl6] at hP
      rw [hl18] at hP
      have h0 : ev (.tmp 0) = .pointer (some ⟨r, 0, none⟩) := hfr 0 (by decide)
      clear hG hfr
      refine OpSays.value (v := .pointer (some ⟨r, 0, none⟩)) (w' := w1) ?_ ⟨hT1, Only.refl _ _, rfl⟩
      go_simp
    case op3 =>
      intro L ev w1 hLi hlate hearly hT1 hc hf hfr hG
      rw [if_pos (by decide)]
      have hP : rsPh w3 B r s wv yv wb eb (L 6) (L 18) w1 := hT1
      obtain ⟨hl6, hl18, _⟩ := hlate
      rw [hl6] at hP
      rw [hl18] at hP
      have hg : (ev (.tmp 34) = .pointer (some ⟨r, 0, none⟩)) ∧ True := hG
      obtain ⟨g2, _⟩ := hg
      clear hG hfr
      refine OpSays.value (v := .pointer (some ⟨r, 0, none⟩)) (w' := w1) ?_ ⟨hT1, Only.refl _ _, rfl⟩
      go_simp
    case op4 =>
      intro L ev w1 hLi hlate hearly hT1 hc hf hfr hG
      rw [if_pos (by decide)]
      have hP : rsPh w3 B r s wv yv wb eb (L 6) (L 18) w1 := hT1
      obtain ⟨hl6, hl18, _⟩ := hlate
      rw [hl6] at hP
      rw [hl18] at hP
      have hg : (ev (.tmp 35) = .pointer (some ⟨r, 0, none⟩)) ∧ True := hG
      obtain ⟨g3, _⟩ := hg
      clear hG hfr
      refine OpSays.value (v := .pointer (some ⟨r, 14, none⟩)) (w' := w1) ?_ ⟨hT1, Only.refl _ _, rfl⟩
      go_simp
    case op5 =>
      intro L ev w1 hLi hlate hearly hT1 hc hf hfr hG
      rw [if_pos (by decide)]
      have hP : rsPh w3 B r s wv yv wb eb (L 6) (L 18) w1 := hT1
      obtain ⟨hl6, hl18, _⟩ := hlate
      rw [hl6] at hP
      rw [hl18] at hP
      have hg : (ev (.tmp 36) = .pointer (some ⟨r, 14, none⟩)) ∧ True := hG
      obtain ⟨g4, _⟩ := hg
      clear hG hfr
      have x14 := hP.2.2.c14
      refine OpSays.value (v := wv) (w' := w1) ?_ ⟨hT1, Only.refl _ _, rfl⟩
      go_simp
    case op6 =>
      intro L ev w1 hLi hlate hearly hT1 hc hf hfr hG
      rw [if_pos (by decide)]
      have hP : rsPh w3 B r s wv yv wb eb (L 6) (L 18) w1 := hT1
      obtain ⟨hl18, _⟩ := hlate
      rw [hLi] at hP
      rw [hl18] at hP
      change OpSays _ _ _ _ (fun v w' => rsPh w3 B r s wv yv wb eb (true) (L 18) w' ∧ _ ∧ _)
      rw [hl18]
      have hg : (∃ k, ev (.tmp 33) = .slice (some ⟨k, 0, none⟩) 0 0 ∧ B ≤ k ∧ (L 6 = false → L 18 = false → w1.heap[k]? = some (.cells #[] 135 (0, 0)))) ∧ (ev (.tmp 37) = wv) ∧ True := hG
      obtain ⟨g1, g5, _⟩ := hg
      clear hG hfr
      obtain ⟨hO, hBw, hRE⟩ := hP
      obtain ⟨k, g1, hBk, hk1⟩ := g1
      have hemp := hk1 hLi hl18
      have hD : SRow w1 B (.slice (some ⟨k, 0, none⟩) 0 0) [] := ⟨by simp [sentCells], .inr ⟨k, 0, #[], rfl, hBk, hemp, Nat.le_refl _, by decide, by simp, by simp [sentCells]⟩⟩
      obtain ⟨v2, w2, hr, hrow, hk, hbb⟩ := append_src w1 73 B _ wv [] s.W hD hRE.wrow.src hBw (by have := HL.out; simp only [List.length_nil]; omega)
      rw [List.nil_append] at hrow
      refine OpSays.value (v := v2) (w' := w2) ?_ ⟨⟨hO.then hk (fun z h1 h2 => by have e : k = z := Option.some.inj h2; have := HBW.out; omega), Nat.le_trans hBw hk.size, hRE.only hk (fun z hz h2 => by have e : k = z := Option.some.inj h2; omega)⟩, hk.mono (fun z _ h => .inl ⟨rfl, by have e : k = z := Option.some.inj h; rw [← e]; exact hemp⟩), hbb, fun _ => hrow⟩
      unfold execOp
      simp only [resolve, invoke, builtin, Sem.run_bind, Sem.run_pure, Result.andThen_ok, List.map_toArray, List.map_cons, List.map_nil, g1, g5, hr]
    case op7 =>
      intro L ev w1 hLi hlate hearly hT1 hc hf hfr hG
      rw [if_pos (by decide)]
      have hP : rsPh w3 B r s wv yv wb eb (L 6) (L 18) w1 := hT1
      obtain ⟨hl18, _⟩ := hlate
      rw [hl18] at hP
      have h0 : ev (.tmp 0) = .pointer (some ⟨r, 0, none⟩) := hfr 0 (by decide)
      clear hG hfr
      refine OpSays.value (v := .pointer (some ⟨r, 0, none⟩)) (w' := w1) ?_ ⟨hT1, Only.refl _ _, rfl⟩
      go_simp
    case op8 =>
      intro L ev w1 hLi hlate hearly hT1 hc hf hfr hG
      rw [if_pos (by decide)]
      have hP : rsPh w3 B r s wv yv wb eb (L 6) (L 18) w1 := hT1
      obtain ⟨hl18, _⟩ := hlate
      rw [hl18] at hP
      have hg : (ev (.tmp 39) = .pointer (some ⟨r, 0, none⟩)) ∧ True := hG
      obtain ⟨g7, _⟩ := hg
      clear hG hfr
      refine OpSays.value (v := .pointer (some ⟨r, 0, none⟩)) (w' := w1) ?_ ⟨hT1, Only.refl _ _, rfl⟩
      go_simp
    case op9 =>
      intro L ev w1 hLi hlate hearly hT1 hc hf hfr hG
      rw [if_pos (by decide)]
      have hP : rsPh w3 B r s wv yv wb eb (L 6) (L 18) w1 := hT1
      obtain ⟨hl18, _⟩ := hlate
      rw [hl18] at hP
      have hg : (ev (.tmp 40) = .pointer (some ⟨r, 0, none⟩)) ∧ True := hG
      obtain ⟨g8, _⟩ := hg
      clear hG hfr
      refine OpSays.value (v := .pointer (some ⟨r, 7, none⟩)) (w' := w1) ?_ ⟨hT1, Only.refl _ _, rfl⟩
      go_simp
    case op10 =>
      intro L ev w1 hLi hlate hearly hT1 hc hf hfr hG
      rw [if_pos (by decide)]
      have hP : rsPh w3 B r s wv yv wb eb (L 6) (L 18) w1 := hT1
      obtain ⟨hl18, _⟩ := hlate
      rw [hl18] at hP
      have hg : (ev (.tmp 41) = .pointer (some ⟨r, 7, none⟩)) ∧ True := hG
      obtain ⟨g9, _⟩ := hg
      clear hG hfr
      have x7 := hP.2.2.c7
      refine OpSays.value (v := .int .i64 s.last) (w' := w1) ?_ ⟨hT1, Only.refl _ _, rfl⟩
      go_simp
    case op11 =>
      intro L ev w1 hLi hlate hearly hT1 hc hf hfr hG
      rw [if_pos (by decide)]
      have hP : rsPh w3 B r s wv yv wb eb (L 6) (L 18) w1 := hT1
      obtain ⟨hl18, _⟩ := hlate
      rw [hl18] at hP
      have h0 : ev (.tmp 0) = .pointer (some ⟨r, 0, none⟩) := hfr 0 (by decide)
      clear hG hfr
      refine OpSays.value (v := .pointer (some ⟨r, 0, none⟩)) (w' := w1) ?_ ⟨hT1, Only.refl _ _, rfl⟩
      go_simp
    case op12 =>
      intro L ev w1 hLi hlate hearly hT1 hc hf hfr hG
      rw [if_pos (by decide)]
      have hP : rsPh w3 B r s wv yv wb eb (L 6) (L 18) w1 := hT1
      obtain ⟨hl18, _⟩ := hlate
      rw [hl18] at hP
      have hg : (ev (.tmp 43) = .pointer (some ⟨r, 0, none⟩)) ∧ True := hG
      obtain ⟨g11, _⟩ := hg
      clear hG hfr
      refine OpSays.value (v := .pointer (some ⟨r, 0, none⟩)) (w' := w1) ?_ ⟨hT1, Only.refl _ _, rfl⟩
      go_simp
    case op13 =>
      intro L ev w1 hLi hlate hearly hT1 hc hf hfr hG
      rw [if_pos (by decide)]
      have hP : rsPh w3 B r s wv yv wb eb (L 6) (L 18) w1 := hT1
      obtain ⟨hl18, _⟩ := hlate
      rw [hl18] at hP
      have hg : (ev (.tmp 44) = .pointer (some ⟨r, 0, none⟩)) ∧ True := hG
      obtain ⟨g12, _⟩ := hg
      clear hG hfr
      refine OpSays.value (v := .pointer (some ⟨r, 6, none⟩)) (w' := w1) ?_ ⟨hT1, Only.refl _ _, rfl⟩
      go_simp
    case op14 =>
      intro L ev w1 hLi hlate hearly hT1 hc hf hfr hG
      rw [if_pos (by decide)]
      have hP : rsPh w3 B r s wv yv wb eb (L 6) (L 18) w1 := hT1
      obtain ⟨hl18, _⟩ := hlate
      rw [hl18] at hP
      have hg : (ev (.tmp 45) = .pointer (some ⟨r, 6, none⟩)) ∧ True := hG
      obtain ⟨g13, _⟩ := hg
      clear hG hfr
      have x6 := hP.2.2.c6
      refine OpSays.value (v := .int .i64 s.now) (w' := w1) ?_ ⟨hT1, Only.refl _ _, rfl⟩
      go_simp
    case op15 =>
      intro L ev w1 hLi hlate hearly hT1 hc hf hfr hG
      rw [if_pos (by decide)]
      have hP : rsPh w3 B r s wv yv wb eb (L 6) (L 18) w1 := hT1
      obtain ⟨hl18, _⟩ := hlate
      rw [hl18] at hP
      have h1 : ev (.tmp 1) = .string d := hfr 1 (by decide)
      clear hG hfr
      refine OpSays.value (v := .string d) (w' := w1) ?_ ⟨hT1, Only.refl _ _, rfl⟩
      go_simp
    case op16 =>
      intro L ev w1 hLi hlate hearly hT1 hc hf hfr hG
      rw [if_pos (by decide)]
      have hP : rsPh w3 B r s wv yv wb eb (L 6) (L 18) w1 := hT1
      obtain ⟨hl18, _⟩ := hlate
      rw [hl18] at hP
      have hg : (ev (.tmp 42) = .int .i64 s.last) ∧ (ev (.tmp 46) = .int .i64 s.now) ∧ (ev (.tmp 47) = .string d) ∧ True := hG
      obtain ⟨g10, g14, g15, _⟩ := hg
      clear hG hfr
      refine OpSays.value (v := .agg #[.int .i64 s.last, .int .i64 s.now, .string d]) (w' := w1) ?_ ⟨hT1, Only.refl _ _, rfl⟩
      go_simp
    case op17 =>
      intro L ev w1 hLi hlate hearly hT1 hc hf hfr hG
      rw [if_pos (by decide)]
      have hP : rsPh w3 B r s wv yv wb eb (L 6) (L 18) w1 := hT1
      obtain ⟨hl18, _⟩ := hlate
      rw [hl18] at hP
      change OpSays _ _ _ _ (fun v w' => rsPh w3 B r s wv yv wb eb (L 6) (L 18) w' ∧ _ ∧ _)
      rw [hl18]
      have hg : (ev (.tmp 48) = .agg #[.int .i64 s.last, .int .i64 s.now, .string d]) ∧ True := hG
      obtain ⟨g16, _⟩ := hg
      clear hG hfr
      obtain ⟨hO, hBw, hRE⟩ := hP
      have hk := (Only.refl (fun _ => False) w1).alloc (.cells #[.int .i64 s.last, .int .i64 s.now, .string d] 135)
      refine OpSays.value (v := .slice (some ⟨w1.heap.size, 0, none⟩) 1 1) (w' := w1.alloc (.cells #[.int .i64 s.last, .int .i64 s.now, .string d] 135)) ?_ ⟨⟨hO.trans hk, Nat.le_trans hBw hk.size, hRE.keep hk⟩, hk.mono (fun _ _ h => h.elim), w1.heap.size, rfl, hBw, fun _ => blk_new w1 _⟩
      go_simp
    case op18 =>
      intro L ev w1 hLi hlate hearly hT1 hc hf hfr hG
      rw [if_pos (by decide)]
      have hP : rsPh w3 B r s wv yv wb eb (L 6) (L 18) w1 := hT1
      obtain ⟨he6, _⟩ := hearly
      rw [he6] at hP
      rw [hLi] at hP
      change OpSays _ _ _ _ (fun v w' => rsPh w3 B r s wv yv wb eb (L 6) (true) w' ∧ _ ∧ _)
      rw [he6]
      have hg : ((∀ b, (ev (.tmp 38)).ownBlock = some b → B ≤ b) ∧ (L 18 = false → SRow w1 B (ev (.tmp 38)) s.W)) ∧ (∃ k, ev (.tmp 49) = .slice (some ⟨k, 0, none⟩) 1 1 ∧ B ≤ k ∧ (L 18 = false → w1.heap[k]? = some (.cells #[.int .i64 s.last, .int .i64 s.now, .string d] 135 (0, 0)))) ∧ True := hG
      obtain ⟨g6, g17, _⟩ := hg
      clear hG hfr
      obtain ⟨hO, hBw, hRE⟩ := hP
      obtain ⟨hb6, hrow6⟩ := g6
      have hr6 := hrow6 hLi
      obtain ⟨k, g17, hBk, hk17⟩ := g17
      have hc17 := hk17 hLi
      have hsrc : Src w1 (.slice (some ⟨k, 0, none⟩) 1 1) [(s.last, s.now, d)] := .inr ⟨⟨k, 0, none⟩, 1, rfl, fun j u hj => by rw [Addr.add_lit, Nat.zero_add]; exact (blk_cell hc17 j).trans (by simpa [sentCells] using hj)⟩
      obtain ⟨v2, w2, hr, hrow, hk, hbb⟩ := append_src w1 73 B _ _ s.W _ hr6 hsrc hBw (by have := HL.out; simp only [List.length_cons, List.length_nil]; omega)
      refine OpSays.value (v := v2) (w' := w2) ?_ ⟨⟨hO.then hk (fun z h1 h2 => by have := hb6 z h2; have := HBW.out; omega), Nat.le_trans hBw hk.size, hRE.only hk (fun z hz h2 => by have := hb6 z h2; omega)⟩, hk.mono (fun z _ h => .inr ⟨rfl, hb6 z h⟩), hbb, hrow⟩
      unfold execOp
      simp only [resolve, invoke, builtin, Sem.run_bind, Sem.run_pure, Result.andThen_ok, List.map_toArray, List.map_cons, List.map_nil, g17, hr]
    case op19 =>
      intro L ev w1 hLi hlate hearly hT1 hc hf hfr hG
      rw [if_pos (by decide)]
      have hP : rsPh w3 B r s wv yv wb eb (L 6) (L 18) w1 := hT1
      have hg : (ev (.tmp 32) = .pointer (some ⟨r, 0, none⟩)) ∧ True := hG
      obtain ⟨g0, _⟩ := hg
      clear hG hfr
      refine OpSays.value (v := .pointer (some ⟨r, 0, none⟩)) (w' := w1) ?_ ⟨hT1, Only.refl _ _, rfl⟩
      go_simp
    case op20 =>
      intro L ev w1 hLi hlate hearly hT1 hc hf hfr hG
      rw [if_pos (by decide)]
      have hP : rsPh w3 B r s wv yv wb eb (L 6) (L 18) w1 := hT1
      have hg : (ev (.tmp 51) = .pointer (some ⟨r, 0, none⟩)) ∧ True := hG
      obtain ⟨g19, _⟩ := hg
      clear hG hfr
      refine OpSays.value (v := .pointer (some ⟨r, 14, none⟩)) (w' := w1) ?_ ⟨hT1, Only.refl _ _, rfl⟩
      go_simp
  rintro L ⟨tm, df⟩ w5 hL hT1 hsz hdf hfr hG
  have hPE : rsPh w3 B r s wv yv wb eb (true) (true) w5 := by
    have hP : rsPh w3 B r s wv yv wb eb (L 6) (L 18) w5 := hT1
    have hm := fun k (hk : k ∈ List.range 21) => AllB.get hL k hk
    rw [hm 6 (by decide)] at hP
    rw [hm 18 (by decide)] at hP
    exact hP
  clear hT1 hL
  have k0 : tm.getD 0 undef = .pointer (some ⟨r, 0, none⟩) := hfr 0 (by decide)
  have k1 : tm.getD 1 undef = .string d := hfr 1 (by decide)
  have k2 : tm.getD 2 undef = .int .i64 now := hfr 2 (by decide)
  have k52 : tm.getD 52 undef = .pointer (some ⟨r, 14, none⟩) := AllG.get hG 20 (by decide)
  obtain ⟨hv50, hr50⟩ : (∀ b, (tm.getD 50 undef).ownBlock = some b → B ≤ b) ∧ SRow w5 B (tm.getD 50 undef) (s.W ++ [(s.last, s.now, d)]) := AllG.get hG 18 (by decide)
  have he : tm = #[tm.getD 0 undef, tm.getD 1 undef, tm.getD 2 undef, tm.getD 3 undef, tm.getD 4 undef, tm.getD 5 undef, tm.getD 6 undef, tm.getD 7 undef, tm.getD 8 undef, tm.getD 9 undef, tm.getD 10 undef, tm.getD 11 undef, tm.getD 12 undef, tm.getD 13 undef, tm.getD 14 undef, tm.getD 15 undef, tm.getD 16 undef, tm.getD 17 undef, tm.getD 18 undef, tm.getD 19 undef, tm.getD 20 undef, tm.getD 21 undef, tm.getD 22 undef, tm.getD 23 undef, tm.getD 24 undef, tm.getD 25 undef, tm.getD 26 undef, tm.getD 27 undef, tm.getD 28 undef, tm.getD 29 undef, tm.getD 30 undef, tm.getD 31 undef, tm.getD 32 undef, tm.getD 33 undef, tm.getD 34 undef, tm.getD 35 undef, tm.getD 36 undef, tm.getD 37 undef, tm.getD 38 undef, tm.getD 39 undef, tm.getD 40 undef, tm.getD 41 undef, tm.getD 42 undef, tm.getD 43 undef, tm.getD 44 undef, tm.getD 45 undef, tm.getD 46 undef, tm.getD 47 undef, tm.getD 48 undef, tm.getD 49 undef, tm.getD 50 undef, tm.getD 51 undef, tm.getD 52 undef, tm.getD 53 undef, tm.getD 54 undef, tm.getD 55 undef, tm.getD 56 undef, tm.getD 57 undef, tm.getD 58 undef, tm.getD 59 undef] := arr_eta (n := 60) hsz
  replace hdf : df = [] := hdf
  subst hdf
  clear hsz hfr hG
  rw [he, k0, k1, k2, k52]
  clear he k0 k1 k2 k52
  generalize tm.getD 3 undef = x3
  generalize tm.getD 4 undef = x4
  generalize tm.getD 5 undef = x5
  generalize tm.getD 6 undef = x6
  generalize tm.getD 7 undef = x7
  generalize tm.getD 8 undef = x8
  generalize tm.getD 9 undef = x9
  generalize tm.getD 10 undef = x10
  generalize tm.getD 11 undef = x11
  generalize tm.getD 12 undef = x12
  generalize tm.getD 13 undef = x13
  generalize tm.getD 14 undef = x14
  generalize tm.getD 15 undef = x15
  generalize tm.getD 16 undef = x16
  generalize tm.getD 17 undef = x17
  generalize tm.getD 18 undef = x18
  generalize tm.getD 19 undef = x19
  generalize tm.getD 20 undef = x20
  generalize tm.getD 21 undef = x21
  generalize tm.getD 22 undef = x22
  generalize tm.getD 23 undef = x23
  generalize tm.getD 24 undef = x24
  generalize tm.getD 25 undef = x25
  generalize tm.getD 26 undef = x26
  generalize tm.getD 27 undef = x27
  generalize tm.getD 28 undef = x28
  generalize tm.getD 29 undef = x29
  generalize tm.getD 30 undef = x30
  generalize tm.getD 31 undef = x31
  generalize tm.getD 32 undef = x32
  generalize tm.getD 33 undef = x33
  generalize tm.getD 34 undef = x34
  generalize tm.getD 35 undef = x35
  generalize tm.getD 36 undef = x36
  generalize tm.getD 37 undef = x37
  generalize tm.getD 38 undef = x38
  generalize tm.getD 39 undef = x39
  generalize tm.getD 40 undef = x40
  generalize tm.getD 41 undef = x41
  generalize tm.getD 42 undef = x42
  generalize tm.getD 43 undef = x43
  generalize tm.getD 44 undef = x44
  generalize tm.getD 45 undef = x45
  generalize tm.getD 46 undef = x46
  generalize tm.getD 47 undef = x47
  generalize tm.getD 48 undef = x48
  generalize tm.getD 49 undef = x49
  generalize tm.getD 50 undef = v50 at hv50 hr50 ⊢
  generalize tm.getD 51 undef = x51
  generalize tm.getD 53 undef = x53
  generalize tm.getD 54 undef = x54
  generalize tm.getD 55 undef = x55
  generalize tm.getD 56 undef = x56
  generalize tm.getD 57 undef = x57
  generalize tm.getD 58 undef = x58
  generalize tm.getD 59 undef = x59
  simp only [List.drop_succ_cons, List.drop_zero]
  obtain ⟨hO5, hB5, hst5⟩ := hPE
  obtain ⟨a50, c50, rfl⟩ := hr50.form
  rw [List.length_append] at hr50 hv50
  rw [List.length_append]
  change ∀ b, (Value.slice a50 (s.W.length + 1) c50).ownBlock = some b → B ≤ b at hv50
  change SRow w5 B (.slice a50 (s.W.length + 1) c50) _ at hr50
  have x14 := hst5.c14
  have f14 := blk_free hst5.blk 14
  have hk6 := (Only.refl (fun k => k = r) w5).setCell ⟨r, 14, none⟩ (.slice a50 (s.W.length + 1) c50) (fun _ => rfl)
  have hrB := hst5.rlt
  have hg6 : (w5.setCell ⟨r, 14, none⟩ (.slice a50 (s.W.length + 1) c50)).heap[r]? = some (.cells (s.rcells (.slice a50 (s.W.length + 1) c50) yv) 75 (0, 0)) := (blk_set hst5.blk 14 (.slice a50 (s.W.length + 1) c50)).trans rfl
  have hRE6 : REAt (w5.setCell ⟨r, 14, none⟩ (.slice a50 (s.W.length + 1) c50)) r (s0.sent d now b0) :=
    ⟨.slice a50 (s.W.length + 1) c50, yv, B, eb, by rw [HX.out.1]; exact hg6, by rw [HX.out.2.1]; exact hr50.only hk6 (fun b hb e => by have := hv50 b hb; omega), by rw [HX.out.2.2.1]; exact hst5.erow.only hk6 (fun b hb e => by
      obtain ⟨cur, hcc⟩ := hst5.erow.block hb
      exact rblock_ne hst5.blk hcc e)⟩
  have x7 := (blk_cell hg6 7).trans (show (s.rcells (.slice a50 (s.W.length + 1) c50) yv)[7]? = some (.int .i64 s.last) from rfl)
  have HRE6 := Lib.hid hRE6
  have HO6 := Lib.hid (show Only (fun k => k = r) w (w5.setCell ⟨r, 14, none⟩ (.slice a50 (s.W.length + 1) c50)) from (HOO.out.then hO5 (fun _ _ h => h.elim)).trans hk6)
  clear hRE6 hg6 hk6 hr50 hv50 hst5 hO5 hB5 HT
  go_upto_region 8 with fail
  generalize w5.setCell ⟨r, 14, none⟩ (.slice a50 (s.W.length + 1) c50) = w6 at x7 HRE6 HO6 ⊢
  clear x14 f14
  go_wp2_with fail
  refine (retext_any w6 r (s0.sent d now b0) 1 s.last d HRE6.out (by rw [HLL.out]; exact HLET.out)).mono ?_
  rintro e w7 ⟨rfl, hk7⟩
  go_wp2_with fail
  go_ret2
  exact ⟨by rw [← HLL.out, HX.out.2.2.2]; rfl, HRE6.out.keep hk7, HO6.out.then hk7 (fun _ _ h => h.elim)⟩

end Go.Proofs.Yteifehienpeaiaa

/-
  The reference bridge of sternpostref10 in memory: New, fresh, Port.
  Conditions: numbers are of the kind int.
-/
import Derived.Test.YtkmnjlegmgohfaaHeardLaw
set_option linter.unusedVariables false
set_option linter.unusedSimpArgs false
set_option maxRecDepth 100000
namespace Go.Proofs.Ytkmnjlegmgohfaa
open Go.RowKit

theorem info_heard : (Try.prog.info? 74).map (fun i => (i.zero, i.size, i.bytes)) = some (some (.agg #[.int .i64 0, .int .i64 0, .int .i64 0]), 3, 24) := by kernel_rfl

def heardCells (L : List (Int × Int × Int)) : List Value := (L.map fun p => [Value.int .i64 p.1, Value.int .i64 p.2.1, Value.int .i64 p.2.2]).flatten
theorem heardCells_length (L : List (Int × Int × Int)) : (heardCells L).length = L.length * 3 := by
  unfold heardCells
  induction L with
  | nil => rfl
  | cons p L ih => simp only [List.map_cons, List.flatten_cons, List.length_append, List.length_cons, List.length_nil] at ih ⊢; omega
theorem heardCells_append (L M : List (Int × Int × Int)) : heardCells (L ++ M) = heardCells L ++ heardCells M := by simp [heardCells]
theorem heardCells_at : ∀ (L : List (Int × Int × Int)) (i : Nat), i < L.length → (heardCells L)[i * 3]? = some (.int .i64 (L.getD i (0, 0, 0)).1) ∧ (heardCells L)[i * 3 + 1]? = some (.int .i64 (L.getD i (0, 0, 0)).2.1) ∧ (heardCells L)[i * 3 + 2]? = some (.int .i64 (L.getD i (0, 0, 0)).2.2)
  | [], i, h => absurd h (Nat.not_lt_zero _)
  | p :: L, 0, _ => ⟨rfl, rfl, rfl⟩
  | p :: L, i + 1, h => by
    have ih := heardCells_at L i (by simpa using h)
    have e : heardCells (p :: L) = .int .i64 p.1 :: .int .i64 p.2.1 :: .int .i64 p.2.2 :: heardCells L := rfl
    have h0 : (i + 1) * 3 = i * 3 + 1 + 1 + 1 := by omega
    rw [e, h0]
    exact ih

/-- A list of what was heard, in a row of its own. -/
def HRow (w : World) (base : Nat) (v : Value) (L : List (Int × Int × Int)) : Prop := w.ownsRow base 74 3 v L.length (heardCells L)

theorem HRow.nil (w : World) (base : Nat) : HRow w base (.slice none 0 0) [] := World.ownsRow_nil _ _ _ _
theorem HRow.form {w : World} {base : Nat} {v : Value} {L : List (Int × Int × Int)} (h : HRow w base v L) : ∃ a cap, v = .slice a L.length cap := by
  obtain ⟨_, ⟨rfl, h0⟩ | ⟨gb, cap, cur, rfl, _⟩⟩ := h
  · exact ⟨none, 0, by rw [h0]⟩
  · exact ⟨_, _, rfl⟩
theorem HRow.only {w w' : World} {base : Nat} {v : Value} {L : List (Int × Int × Int)} {S : Nat → Prop} (h : HRow w base v L) (hk : Only S w w') (hn : ∀ b, v.ownBlock = some b → ¬ S b) : HRow w' base v L := by
  obtain ⟨h1, ⟨rfl, h0⟩ | ⟨gb, cap, cur, rfl, hb, hg, hc, hm, hs, ht⟩⟩ := h
  · exact ⟨h1, .inl ⟨rfl, h0⟩⟩
  · exact ⟨h1, .inr ⟨gb, cap, cur, rfl, hb, hk.at hg (hn gb rfl), hc, hm, hs, ht⟩⟩
theorem HRow.cells {w : World} {base : Nat} {a : Option Addr} {cap : Nat} {L : List (Int × Int × Int)} (h : HRow w base (.slice a L.length cap) L) (i : Nat) (hi : i < L.length) :
    ∃ g, a = some ⟨g, 0, none⟩ ∧ g < w.heap.size ∧ w.cell? ⟨g, i * 3, none⟩ = some (.int .i64 (L.getD i (0, 0, 0)).1) ∧ w.cell? ⟨g, i * 3 + 1, none⟩ = some (.int .i64 (L.getD i (0, 0, 0)).2.1) ∧ w.cell? ⟨g, i * 3 + 2, none⟩ = some (.int .i64 (L.getD i (0, 0, 0)).2.2) := by
  obtain ⟨_, ⟨h1, h0⟩ | ⟨gb, cap2, cur, h1, hgb, hgg, _⟩⟩ := id h
  · omega
  · injection h1 with e1 e2 e3
    subst e1
    have hc := heardCells_at L i hi
    have hlen := heardCells_length L
    refine ⟨gb, rfl, heap_lt hgg, ?_, ?_, ?_⟩
    · exact (World.ownsRow.cellAt h (i * 3) (by omega)).trans hc.1
    · exact (World.ownsRow.cellAt h (i * 3 + 1) (by omega)).trans hc.2.1
    · exact (World.ownsRow.cellAt h (i * 3 + 2) (by omega)).trans hc.2.2

/-- The reference bridge in memory; rb: the block of its list, if it has one. -/
def RBAt (w : World) (r : Nat) (s : BS) : Prop := ∃ (v : Value) (base : Nat), w.heap[r]? = some (.cells #[.int .i64 s.ports, .int .i64 s.age, .int .i64 s.room, .int .i64 s.now, v] 72 (0, 0)) ∧ HRow w base v s.L

theorem HRow.block {w : World} {base : Nat} {v : Value} {L : List (Int × Int × Int)} (h : HRow w base v L) {b : Nat} (hb : v.ownBlock = some b) : ∃ cur, w.heap[b]? = some (.cells cur 74 (0, 0)) := by
  obtain ⟨h1, ⟨rfl, h0⟩ | ⟨gb, cap, cur, rfl, _, hg, _⟩⟩ := h
  · cases hb
  · cases hb
    exact ⟨cur, hg⟩

/-- Blocks that are no row of what was heard, nor the bridge, may turn. -/
theorem RBAt.only {w w' : World} {r : Nat} {s : BS} {S : Nat → Prop} (h : RBAt w r s) (hk : Only S w w') (hr : ¬ S r) (hn : ∀ b cur, w.heap[b]? = some (.cells cur 74 (0, 0)) → ¬ S b) : RBAt w' r s := by
  obtain ⟨v, base, hg, hrow⟩ := h
  refine ⟨v, base, hk.at hg hr, hrow.only hk (fun b hb => ?_)⟩
  obtain ⟨cur, hc⟩ := hrow.block hb
  exact hn b cur hc
theorem RBAt.keep {w w' : World} {r : Nat} {s : BS} (h : RBAt w r s) (hk : Only (fun _ => False) w w') : RBAt w' r s := h.only hk (fun h => h) (fun _ _ _ h => h)
theorem RBAt.lt {w : World} {r : Nat} {s : BS} (h : RBAt w r s) : r < w.heap.size := by
  obtain ⟨v, base, hg, _⟩ := h
  exact heap_lt hg

theorem bnew_r (p a r : Int) (w : World) (h1 : 1 ≤ p) (h2 : p ≤ 16) (h3 : 1 ≤ a) (h4 : a ≤ 1048576) (h5 : 1 ≤ r) (h6 : r ≤ 1024) : Calls Try.prog 16 #[.int .i64 p, .int .i64 a, .int .i64 r] w fun e w' => e = .returned (.tuple #[.pointer (some ⟨w.heap.size, 0, none⟩), .int .i64 0]) ∧ RBAt w' w.heap.size ⟨p, a, r, 0, []⟩ ∧ Only (fun _ => False) w w' := by
  have g1 : ¬ p < 1 := by omega
  have g2 : ¬ 16 < p := by omega
  have g3 : ¬ a < 1 := by omega
  have g4 : ¬ 1048576 < a := by omega
  have g5 : ¬ r < 1 := by omega
  have g6 : ¬ 1024 < r := by omega
  go_enter Try.func16, Try.ntmps16
  go_wp2_with fail
  go_ret2
  exact ⟨rfl, ⟨.slice none 0 0, 0, blk_new w _, HRow.nil _ _⟩, (Only.refl _ w).alloc _⟩

theorem bnew_r_bad (p a r : Int) (w : World) (h : ¬ (1 ≤ p ∧ p ≤ 16 ∧ 1 ≤ a ∧ a ≤ 1048576 ∧ 1 ≤ r ∧ r ≤ 1024)) : Calls Try.prog 16 #[.int .i64 p, .int .i64 a, .int .i64 r] w fun e w' => e = .returned (.tuple #[.pointer none, .int .i64 1]) ∧ w = w' := by
  have hc : p < 1 ∨ (¬ p < 1 ∧ (16 < p ∨ (¬ 16 < p ∧ (a < 1 ∨ (¬ a < 1 ∧ (1048576 < a ∨ (¬ 1048576 < a ∧ (r < 1 ∨ (¬ r < 1 ∧ 1024 < r))))))))) := by omega
  clear h
  rcases hc with g1 | ⟨g1, g2 | ⟨g2, g3 | ⟨g3, g4 | ⟨g4, g5 | ⟨g5, g6⟩⟩⟩⟩⟩
  all_goals
    go_enter Try.func16, Try.ntmps16
    go_wp2_with fail
    go_ret2
    exact ⟨rfl, rfl⟩

theorem fresh_r (w : World) (r : Nat) (age : Int) (x : Int × Int × Int) (now : Int) (hc : w.cell? ⟨r, 1, none⟩ = some (.int .i64 age)) (a0 : 0 ≤ age) (a1 : age ≤ 1048576) (t0 : 0 ≤ x.2.2) (t1 : x.2.2 ≤ 1099511627776) :
    Calls Try.prog 34 #[.pointer (some ⟨r, 0, none⟩), .agg #[.int .i64 x.1, .int .i64 x.2.1, .int .i64 x.2.2], .int .i64 now] w fun e w' => e = .returned (.bool (freshH age now x)) ∧ Only (fun _ => False) w w' := by
  obtain ⟨x1, x2, x3⟩ := x
  simp only at t0 t1 ⊢
  have hO := (Only.refl (fun _ => False) w).alloc (.cells #[.int .i64 x1, .int .i64 x2, .int .i64 x3] 74)
  have hz := blk_new w (.cells #[.int .i64 x1, .int .i64 x2, .int .i64 x3] 74)
  have z2 := blk_cell hz 2
  simp only [List.getElem?_toArray, List.getElem?_cons_zero, List.getElem?_cons_succ] at z2
  have y1 : (w.alloc (.cells #[.int .i64 x1, .int .i64 x2, .int .i64 x3] 74)).cell? ⟨r, 1, none⟩ = some (.int .i64 age) := cell_only hO (fun h => h) hc
  have hwr : IntKind.i64.wrap (x3 + age) = x3 + age := by rw [IntKind.wrap_i64]; omega
  clear hc hz
  go_enter Try.func34, Try.ntmps34
  go_wp2_with fail
  generalize w.alloc (.cells #[.int .i64 x1, .int .i64 x2, .int .i64 x3] 74) = wa at z2 y1 hO ⊢
  go_quiet (fail)
  go_wp2_with fail
  go_ret
  exact ⟨rfl, hO.drewN _⟩

theorem find_none_take {P : Int × Int × Int → Bool} {L : List (Int × Int × Int)} (h : ∀ m, m < L.length → P (L.getD m (0, 0, 0)) = false) : L.find? P = none := by
  rw [List.find?_eq_none]
  intro p hp hc
  obtain ⟨m, hm, rfl⟩ := List.mem_iff_getElem.1 hp
  have := h m hm
  rw [List.getD_eq_getElem?_getD, List.getElem?_eq_getElem hm] at this
  simp only [Option.getD_some] at this
  rw [this] at hc
  cases hc
theorem find_at {P : Int × Int × Int → Bool} : ∀ {L : List (Int × Int × Int)} {i : Nat}, i < L.length → (∀ m, m < i → P (L.getD m (0, 0, 0)) = false) → P (L.getD i (0, 0, 0)) = true → L.find? P = some (L.getD i (0, 0, 0))
  | [], i, hi, _, _ => absurd hi (Nat.not_lt_zero _)
  | p :: L, 0, _, _, hp => by
    have hp' : P p = true := hp
    simp [List.find?_cons, hp']
  | p :: L, i + 1, hi, hpre, hp => by
    have h0 : P p = false := hpre 0 (by omega)
    have ih := find_at (L := L) (i := i) (by simpa using hi) (fun m hm => hpre (m + 1) (by omega)) hp
    rw [List.find?_cons, h0]
    exact ih

theorem ret_find {n n' : Int} {b b' : Bool} (h : n = n') (h' : b = b') : Ending.returned (.tuple #[.int .i64 n, .bool b]) = .returned (.tuple #[.int .i64 n', .bool b']) := by rw [h, h']

set_option maxHeartbeats 1000000 in
theorem port_r (w : World) (r : Nat) (s : BS) (a now : Int) (h : RBAt w r s) (ho : BOk s) (hn : (s.L.map Prod.fst).Nodup) (hl : s.L.length ≤ 1024) :
    Calls Try.prog 21 #[.pointer (some ⟨r, 0, none⟩), .int .i64 a, .int .i64 now] w fun e w' => e = .returned (.tuple #[.int .i64 ((s.find a now).getD 0), .bool (s.find a now).isSome]) ∧ Only (fun _ => False) w w' := by
  have HF := Lib.hid (find_first s a now hn)
  obtain ⟨v, base, hg, hrow⟩ := h
  obtain ⟨va, cap, rfl⟩ := hrow.form
  have x1 := blk_cell hg 1
  have x4 := blk_cell hg 4
  simp only [List.getElem?_toArray, List.getElem?_cons_zero, List.getElem?_cons_succ] at x1 x4
  have HROW := Lib.hid hrow
  have HAT := Lib.hid ho.at0
  have a1 := ho.a1
  have a2 := ho.a2
  have n2 := ho.n2
  generalize hN : s.L.length = N at x4 hl
  have HN := Lib.hid hN
  clear hg hrow hn ho hN
  go_enter Try.func21, Try.ntmps21
  go_wp2_with fail
  go_loopw [8] (fun iv wr => ∃ i : Nat, iv = .int .i64 i ∧ i ≤ N ∧ (∀ m, m < i → ((s.L.getD m (0, 0, 0)).1 == a && freshH s.age now (s.L.getD m (0, 0, 0))) = false) ∧ Only (fun _ => False) w wr) (fun iv _ => N - (intOf iv).toNat)
  case atStart => exact ⟨0, rfl, by omega, fun m hm => absurd hm (Nat.not_lt_zero _), Only.refl _ _⟩
  case round =>
    obtain ⟨i, rfl, hiN, hpre, hO⟩ := hrel
    have HPRE := Lib.hid hpre
    have y1 := cell_only hO (fun h => h) x1
    have y4 := cell_only hO (fun h => h) x4
    clear hpre
    by_cases hi : i < N
    · obtain ⟨g, rfl, hgl, hc0, hc1, hc2⟩ := HROW.out.cells i (by rw [HN.out]; exact hi)
      have hb := HAT.out (s.L.getD i (0, 0, 0)) (by
        rw [List.getD_eq_getElem?_getD, List.getElem?_eq_getElem (by rw [HN.out]; exact hi)]
        exact List.getElem_mem _)
      have HX := Lib.hid (show ∃ x, x = s.L.getD i (0, 0, 0) from ⟨_, rfl⟩)
      have y5 := cell_only hO (fun h => h) hc0
      have y6 := cell_only hO (fun h => h) hc1
      have y7 := cell_only hO (fun h => h) hc2
      clear hc0 hc1 hc2
      have HSTEP : Hid (((s.L.getD i (0, 0, 0)).1 == a && freshH s.age now (s.L.getD i (0, 0, 0))) = false → ∀ m, m < i + 1 → ((s.L.getD m (0, 0, 0)).1 == a && freshH s.age now (s.L.getD m (0, 0, 0))) = false) := Lib.hid (fun hx m hm => by
        by_cases e : m = i
        · rw [e]; exact hx
        · exact HPRE.out m (by omega))
      have HFIN : Hid (((s.L.getD i (0, 0, 0)).1 == a && freshH s.age now (s.L.getD i (0, 0, 0))) = true → s.find a now = some (s.L.getD i (0, 0, 0)).2.1) := Lib.hid (fun hx => by
        rw [HF.out, find_at (P := fun p => p.1 == a && freshH s.age now p) (by rw [HN.out]; exact hi) HPRE.out hx]
        rfl)
      generalize s.L.getD i (0, 0, 0) = x at *
      by_cases he : x.1 = a
      · have de : (x.1 == a) = true := by simpa using he
        cases hf : freshH s.age now x with
        | true =>
          rw [de, hf] at HFIN
          have HFF := Lib.hid hf
          clear hf he HSTEP
          go_wp2_with fail
          refine (fresh_r _ r s.age x now y1 (by omega) a2 hb.1 (by omega)).mono ?_
          rintro e w2 ⟨rfl, hk⟩
          rw [HFF.out]
          have z4 := cell_only hk (fun h => h) y4
          have z6 := cell_only hk (fun h => h) y6
          go_wp2_with fail
          go_ret2
          exact ⟨ret_find (by rw [HFIN.out rfl]; rfl) (by rw [HFIN.out rfl]; rfl), hO.trans hk⟩
        | false =>
          rw [de, hf] at HSTEP
          have HFF := Lib.hid hf
          clear hf he HFIN
          go_wp2_with fail
          refine (fresh_r _ r s.age x now y1 (by omega) a2 hb.1 (by omega)).mono ?_
          rintro e w2 ⟨rfl, hk⟩
          rw [HFF.out]
          go_wp2_with fail
          go_roundw
          case rel => exact ⟨i + 1, by go_num, by omega, HSTEP.out rfl, hO.trans hk⟩
          case measure => simp [intOf]; omega
      · have de : (x.1 == a) = false := by simpa using he
        rw [de] at HSTEP
        clear HFIN
        go_wp2_with fail
        go_roundw
        case rel => exact ⟨i + 1, by go_num, by omega, HSTEP.out rfl, hO⟩
        case measure => simp [intOf]; omega
    · have hnone : s.find a now = none := by
        rw [HF.out, find_none_take (P := fun p => p.1 == a && freshH s.age now p) (fun m hm => HPRE.out m (by rw [HN.out] at hm; omega))]
        rfl
      have HNO := Lib.hid hnone
      clear hnone
      go_wp2_with fail
      go_ret2
      exact ⟨ret_find (by rw [HNO.out]; rfl) (by rw [HNO.out]; rfl), hO⟩

end Go.Proofs.Ytkmnjlegmgohfaa

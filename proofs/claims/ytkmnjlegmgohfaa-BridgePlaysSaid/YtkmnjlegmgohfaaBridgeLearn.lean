/-
  The contract of learn of package bridge.
  Conditions: numbers are of the kind int, the bridge's own in their bounds.
-/
import Derived.Test.YtkmnjlegmgohfaaBridge
import Derived.StillTailTactics
set_option linter.unusedVariables false
set_option linter.unusedSimpArgs false
namespace Go.Proofs.Ytkmnjlegmgohfaa
open Go.RowKit

def BS.kept (s : BS) (a : Int) : List (Int × Int × Int) := s.L.filter (keepH a s.age s.now)
def BS.learn (s : BS) (a p : Int) : BS := { s with L := if ((s.kept a).length : Int) < s.room then s.kept a ++ [(a, p, s.now)] else s.kept a }

theorem encH_keep (a age now : Int) (L : List (Int × Int × Int)) : (encH L).filter (keepB a age now) = encH (L.filter (keepH a age now)) := by
  unfold encH
  rw [List.filter_map]
  rfl

theorem keepB_at (a age now x hp ht : Int) : keepB a age now (x, .agg #[.int .i64 hp, .int .i64 ht]) = (x != a && decide (now < ht + age)) := rfl

set_option maxRecDepth 100000 in
set_option maxHeartbeats 1000000 in
theorem learn_any (s : BS) (c g : Nat) (w : World) (a p : Int) (hb : BridgeAt w c g s) (ho : BOk s) : Calls Try.prog 24 #[.pointer (some ⟨g, 0, none⟩), .int .i64 a, .int .i64 p, .int .i64 s.now] w fun e w' => e = .returned (.tuple #[]) ∧ BridgeAt w' c g (s.learn a p) ∧ Only (fun k => k = c) w w' := by
  have x4 := blk_cell hb.1 4
  have x2 := blk_cell hb.1 2
  simp only [List.getElem?_toArray, List.getElem?_cons_zero, List.getElem?_cons_succ] at x2 x4
  have hm := hb.2.1
  have hcg := hb.2.2
  have HB := Lib.hid hb.1
  have HO := Lib.hid ho
  have HL := Lib.hid (Only.refl (fun k => k = c) w)
  clear hb ho
  go_enter Try.func24, Try.ntmps24
  go_wp2_with (at_range; refine wpList_range_I _ rfl _ 56 rfl 3 62 und_map c _ rfl hm ?_; intro w0 hr0 hk0 hz0)
  have hsz := hm.keys
  have hlt := hm.lt
  have hgl := heap_lt HB.out
  generalize hr : w.heap.size = r at hr0 ⊢
  have hK0 : Only (fun k => k = c) w w0 := HL.out.then hk0 (fun _ _ h => h.elim)
  have hen : ∀ q ∈ encH s.L, ∃ h : Int × Int, q.2 = .agg #[.int .i64 h.1, .int .i64 h.2] ∧ 0 ≤ h.2 ∧ h.2 ≤ s.now := by
    intro q hq
    obtain ⟨y, hy, rfl⟩ := List.mem_map.1 hq
    exact ⟨y.2, rfl, HO.out.at0 y hy⟩
  clear hk0 hz0
  go_frame
  go_loopw [8] (fun _ wr => ∃ left, RangeI wr c r (sweep (encH s.L) left (keepB a s.age s.now)) left ∧ (∀ q ∈ left, q ∈ encH s.L) ∧ Only (fun k => k = c) w wr) (fun _ wr => leftN wr c r)
  case atStart => exact ⟨encH s.L, by rw [sweep_start]; exact hr0, fun q h => h, hK0⟩
  case round =>
    clear hr0 hK0
    obtain ⟨left, hrg, hsub, hK⟩ := hrel
    have hgb : wr.heap[g]? = _ := hK.at HB.out (fun h => hcg h.symm)
    have xg2 := blk_cell hgb 2
    have xg4 := blk_cell hgb 4
    simp only [List.getElem?_toArray, List.getElem?_cons_zero, List.getElem?_cons_succ] at xg2 xg4
    go_wp2_with (at_next; refine wpList_next_A _ (fun h : Int × Int => .agg #[.int .i64 h.1, .int .i64 h.2]) rfl _ rfl c r _ _ rfl hrg (fun q hq => (hen q (hsub q hq)).imp fun _ h => h.1) ?_ ?_)
    · intro hl
      subst hl
      rw [sweep_end, encH_keep] at hrg
      have hmk : MapI wr c (encH (s.kept a)) := hrg.map
      clear hrg hsub hen
      go_wp2_with fail
      refine wp_region_still_tail 9 (by kernel_rfl) (by kernel_rfl) ?_
      simp only [List.take_succ_cons, List.take_zero, List.drop_succ_cons, List.drop_zero]
      change wpStill _ _ (wr.drew) (fun a' => wpList _ _ _ _ _ (wr.drew)) _ _
      replace hmk : MapI wr.drew c (encH (s.kept a)) := hmk
      replace hgb : wr.drew.heap[g]? = some (.cells #[.int .i64 s.ports, .int .i64 s.age, .int .i64 s.room, .int .i64 s.now, .map (some c)] 58 (0, 0)) := hgb
      replace hK : Only (fun k => k = c) w wr.drew := hK.drew
      generalize wr.drew = wd at hmk hgb hK ⊢
      clear xg2 xg4
      have xg2 := blk_cell hgb 2
      have xg4 := blk_cell hgb 4
      simp only [List.getElem?_toArray, List.getElem?_cons_zero, List.getElem?_cons_succ] at xg2 xg4
      have hlr := hmk.len und_map 3
      have hln : (encH (s.kept a)).length = (s.kept a).length := by simp [encH]
      rw [hln] at hlr
      repeat still_step
      refine wpStill_nil ?_
      by_cases hroom : ((s.kept a).length : Int) < s.room
      · have hd : decide (((s.kept a).length : Int) < s.room) = true := by simpa using hroom
        have e1 : s.learn a p = { s with L := s.kept a ++ [(a, p, s.now)] } := by unfold BS.learn; rw [if_pos hroom]
        have E1 := Lib.hid e1
        clear e1 hroom
        have hput : putI (encH (s.kept a)) a (heardV (p, s.now)) = encH (s.kept a ++ [(a, p, s.now)]) := by
          unfold putI
          rw [getI_none (fun q hq => ?_)]
          · simp [encH]
          · obtain ⟨y, hy, rfl⟩ := List.mem_map.1 hq
            have := (List.mem_filter.1 hy).2
            unfold keepH at this
            simp only [Bool.and_eq_true, bne_iff_ne] at this
            exact this.1
        go_wp2_with (at_mapUpdate; refine wpList_put_I _ rfl _ _ _ 56 rfl 3 62 und_map und_int c _ rfl hmk _ (heardV (p, s.now)) rfl rfl ?_; intro w2 hm2 hk2 hz2)
        go_end0
        rw [hput] at hm2
        exact ⟨rfl, by rw [E1.out]; exact ⟨hk2.at hgb (fun h => hcg h.symm), hm2, hcg⟩, hK.trans hk2⟩
      · have hd : decide (((s.kept a).length : Int) < s.room) = false := by simpa using hroom
        have e1 : s.learn a p = { s with L := s.kept a } := by unfold BS.learn; rw [if_neg hroom]
        have E1 := Lib.hid e1
        clear e1 hroom
        go_wp2_with fail
        go_end0
        exact ⟨rfl, by rw [E1.out]; exact ⟨hgb, hmk, hcg⟩, hK⟩
    · intro x hp ht w1 hx hrg1 hk1 hz1 hent
      have hxl := hsub _ hx
      have hh : 0 ≤ ht ∧ ht ≤ s.now := by
        obtain ⟨y, hy, h0, h1⟩ := hen _ hxl
        have e1 : ht = y.2 := by
          have := hy
          simp only [Value.agg.injEq, Array.mk.injEq, List.cons.injEq, Value.int.injEq, true_and, and_true] at this
          exact this.2
        rw [e1]; exact ⟨h0, h1⟩
      have hcr : c < r := by omega
      have hlt1 := delI_length hx
      have hl0 := hrg.leftN_eq
      have hrg2 : RangeI (w1.alloc (.cells #[.int .i64 hp, .int .i64 ht] 62)) c r (sweep (encH s.L) left (keepB a s.age s.now)) (delI left x) := hrg1.only ((Only.refl (fun _ => False) w1).alloc _) (fun h => h) (fun h => h)
      have hK2 : Only (fun k => k = c) w (w1.alloc (.cells #[.int .i64 hp, .int .i64 ht] 62)) := (hK.then hk1 (fun i hi e => by omega)).alloc _
      have hgb2 : (w1.alloc (.cells #[.int .i64 hp, .int .i64 ht] 62)).heap[g]? = some (.cells #[.int .i64 s.ports, .int .i64 s.age, .int .i64 s.room, .int .i64 s.now, .map (some c)] 58 (0, 0)) := blk_alloc (hk1.at hgb (fun e => by omega)) _
      have y4' := blk_cell hgb2 4
      simp only [List.getElem?_toArray, List.getElem?_cons_zero, List.getElem?_cons_succ] at y4'
      have hz := blk_new w1 (.cells #[.int .i64 hp, .int .i64 ht] 62)
      by_cases hxa : x = a
      · have hxb : (x == a) = true := by simpa using hxa
        have hkeep : keepB a s.age s.now (x, .agg #[.int .i64 hp, .int .i64 ht]) = false := by rw [keepB_at, hxa]; simp
        clear hxa
        go_wp2_with (at_delete; refine wpList_delr_I _ rfl _ _ 56 3 rfl 62 und_map und_int c r _ _ rfl hrg2 x rfl ?_; intro w2 hrg3 hk3 hz3)
        go_frame
        rw [delI_twice, sweep_drop hsz hxl hkeep] at hrg3
        go_roundw
        case rel => exact ⟨delI left x, hrg3, fun q hq => hsub q (mem_delI hq), hK2.trans hk3⟩
        case measure => rw [hrg3.leftN_eq, hl0]; exact hlt1
      · have hxb : (x == a) = false := by simpa using hxa
        have hkeep : keepB a s.age s.now (x, .agg #[.int .i64 hp, .int .i64 ht]) = decide (s.now < ht + s.age) := by rw [keepB_at]; simp [hxa]
        clear hxa
        go_wp2_with fail
        refine (old_blk s c g _ (hp, ht) s.now hgb2 (by have := HO.out.a1; omega) HO.out.a2 hh.1 (by have := HO.out.n2; omega)).mono ?_
        rintro e w3 ⟨rfl, hk4⟩
        replace hrg2 := hrg2.only hk4 (fun h => h) (fun h => h)
        replace hgb2 := hk4.at hgb2 (fun h => h)
        replace hK2 := hK2.then hk4 (fun _ _ h => h.elim)
        have y4 := blk_cell hgb2 4
        simp only [List.getElem?_toArray, List.getElem?_cons_zero, List.getElem?_cons_succ] at y4
        by_cases hold : ht + s.age ≤ s.now
        · have hd : decide (ht + s.age ≤ s.now) = true := by simpa using hold
          replace hkeep : keepB a s.age s.now (x, .agg #[.int .i64 hp, .int .i64 ht]) = false := by rw [hkeep]; simp; omega
          rw [hd]
          clear hold hd
          go_wp2_with (at_delete; refine wpList_delr_I _ rfl _ _ 56 3 rfl 62 und_map und_int c r _ _ rfl hrg2 x rfl ?_; intro w2 hrg3 hk3 hz3)
          go_frame
          rw [delI_twice, sweep_drop hsz hxl hkeep] at hrg3
          go_roundw
          case rel => exact ⟨delI left x, hrg3, fun q hq => hsub q (mem_delI hq), hK2.trans hk3⟩
          case measure => rw [hrg3.leftN_eq, hl0]; exact hlt1
        · have hd : decide (ht + s.age ≤ s.now) = false := by simpa using hold
          replace hkeep : keepB a s.age s.now (x, .agg #[.int .i64 hp, .int .i64 ht]) = true := by rw [hkeep]; simp; omega
          rw [hd]
          clear hold hd
          go_wp2_with fail
          rw [sweep_keep hsz hxl hkeep] at hrg2
          go_roundw
          case rel => exact ⟨delI left x, hrg2, fun q hq => hsub q (mem_delI hq), hK2⟩
          case measure => rw [hrg2.leftN_eq, hl0]; exact hlt1

end Go.Proofs.Ytkmnjlegmgohfaa

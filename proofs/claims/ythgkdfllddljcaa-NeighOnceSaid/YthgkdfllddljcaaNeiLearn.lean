/-
  The contract of learn of package neigh, where there is room.
  Conditions: numbers are of the kind int, the cache's own in their bounds.
-/
import Derived.Test.YthgkdfllddljcaaSortedN
import Derived.Test.YthgkdfllddljcaaNeiOwn
set_option linter.unusedVariables false
set_option linter.unusedSimpArgs false
namespace Go.Proofs.Ythgkdfllddljcaa
open Go.RowKit

def NS.kept (s : NS) (a : Int) : List (Int × Int × Int) := s.K.filter (keepH a s.age s.now)
def NS.learn (s : NS) (a m : Int) : NS := { s with K := s.kept a ++ [(a, m, s.now)] }

theorem encH_keep (a age now : Int) (L : List (Int × Int × Int)) : (encH L).filter (keepB a age now) = encH (L.filter (keepH a age now)) := by
  unfold encH
  rw [List.filter_map]
  rfl

theorem keepB_at (a age now x hp ht : Int) : keepB a age now (x, .agg #[.int .i64 hp, .int .i64 ht]) = (x != a && decide (now < ht + age)) := rfl

theorem field_known (a b : Int) (w : World) : (Instr.field 74 (.agg #[.int .i64 a, .int .i64 b]) 1).run Try.prog w = .ok (.int .i64 b) w := by kernel_rfl
attribute [local go_sem] field_known

/-- The cache's map of what is known, changed. -/
theorem NAt.known {w w' : World} {g c d : Nat} {s : NS} (h : NAt w g c d s) (L : List (Int × Int × Int)) (hk : Only (fun k => k = c) w w') (hm : MapI w' c (encH L)) : NAt w' g c d { s with K := L } := by
  have hcells : ∀ b cs (T : TypeId), w.heap[b]? = some (.cells cs T (0, 0)) → b ≠ c := by
    rintro b cs T hb rfl
    obtain ⟨es, cl, h1, _⟩ := h.kmap
    rw [hb] at h1; cases h1
  refine ⟨hk.at h.cell (hcells _ _ _ h.cell), hm, h.amap.only hk (fun e => h.dis e.symm), ⟨fun e => ?_, h.own.no⟩, fun p hp => hk.at (h.ask p hp) (hcells _ _ _ (h.ask p hp)), fun p hp => row_only (h.row p hp) hk fun b hb => ?_, h.dis, h.one, h.two⟩
  · obtain ⟨b, cap, cur, e1, e2, e3, e4⟩ := h.own.yes e
    exact ⟨b, cap, cur, e1, e2, hk.at e3 (hcells _ _ _ e3), e4⟩
  · obtain ⟨h1, ⟨h2, h3⟩ | ⟨b', cap, cur, h2, hb', hg, _⟩⟩ := h.row p hp
    · rw [h2] at hb; cases hb
    · rw [h2] at hb
      cases hb
      exact hcells _ _ _ hg

/-- The numbers of a slice, as they lie. -/
theorem ints_lie {w2 : World} {B : Nat} {v : Value} {K : List Int} {n : Nat} (h : w2.ownsRow B 3 1 v n (K.map (Value.int .i64))) : K.length = n ∧ ∃ a cap, v = .slice a n cap ∧ n ≤ cap ∧ ∀ i, i < n → ∃ blk, a = some ⟨blk, 0, none⟩ ∧ B ≤ blk ∧ blk < w2.heap.size ∧ w2.cell? ⟨blk, i, none⟩ = some (.int .i64 (K.getD i 0)) := by
  obtain ⟨hl, ⟨rfl, h0⟩ | ⟨g, cap, cur, rfl, hb, hg, hc1, hm1, hz1, ht1⟩⟩ := h
  · rw [List.length_map] at hl
    exact ⟨by omega, none, 0, by rw [h0], by omega, fun i hi => by omega⟩
  · rw [List.length_map] at hl
    refine ⟨by omega, _, cap, rfl, hc1, fun i hi => ⟨g, rfl, hb, heap_lt hg, ?_⟩⟩
    rw [blk_cell hg i]
    have h1 : cur[i]? = (cur.toList.take (n * 1))[i]? := by rw [List.getElem?_take, if_pos (by omega), Array.getElem?_toList]
    have hi2 : i < K.length := by omega
    rw [h1, ht1, List.getElem?_map, List.getElem?_eq_getElem hi2]
    simp [List.getD, hi2]

set_option maxRecDepth 100000 in
set_option maxHeartbeats 4000000 in
theorem learn_any (s : NS) (g c d : Nat) (w : World) (a m : Int) (hb : NAt w g c d s) (ho : NOk s) (hroom : ((s.kept a).length : Int) < s.room) (hwf : ∀ p ∈ s.K, (Lit.int .i64 p.1).wf = true) (hsz : s.K.length ≤ 4096) : Calls Try.prog 24 #[.pointer (some ⟨g, 0, none⟩), .int .i64 a, .int .i64 m, .int .i64 s.now] w fun e w' => e = .returned (.tuple #[]) ∧ NAt w' g c d (s.learn a m) ∧ Only (fun k => k = c) w w' := by
  have x7 := blk_cell hb.cell 7
  simp only [NS.cells, List.getElem?_toArray, List.getElem?_cons_zero, List.getElem?_cons_succ] at x7
  have hm := hb.kmap
  have hcg : c ≠ g := by
    rintro rfl
    obtain ⟨es, cl, h1, _⟩ := hb.kmap
    rw [hb.cell] at h1; cases h1
  have HN := Lib.hid hb
  have HB := Lib.hid hb.cell
  have HO := Lib.hid ho
  have HL := Lib.hid (Only.refl (fun k => k = c) w)
  have HR := Lib.hid hroom
  have HW := Lib.hid hwf
  clear hb ho hroom hwf
  go_enter Try.func24, Try.ntmps24
  go_wp2_with (at_range; refine wpList_range_I _ rfl _ 60 rfl 3 74 und_kmap c _ rfl hm ?_; intro w0 hr0 hk0 hz0)
  have hks := hm.keys
  have hlt := hm.lt
  have hgl := heap_lt HB.out
  generalize hr : w.heap.size = r at hr0 ⊢
  have hK0 : Only (fun k => k = c) w w0 := HL.out.then hk0 (fun _ _ h => h.elim)
  have hen : ∀ q ∈ encH s.K, ∃ h : Int × Int, q.2 = .agg #[.int .i64 h.1, .int .i64 h.2] ∧ 0 ≤ h.2 ∧ h.2 ≤ s.now := by
    intro q hq
    obtain ⟨y, hy, rfl⟩ := List.mem_map.1 hq
    exact ⟨y.2, rfl, HO.out.at0 y hy⟩
  clear hk0 hz0
  go_frame
  go_loopw [9] (fun _ wr => ∃ left, RangeI wr c r (sweep (encH s.K) left (keepB a s.age s.now)) left ∧ (∀ q ∈ left, q ∈ encH s.K) ∧ Only (fun k => k = c) w wr) (fun _ wr => leftN wr c r)
  case atStart => exact ⟨encH s.K, by rw [sweep_start]; exact hr0, fun q h => h, hK0⟩
  case round =>
    clear hr0 hK0
    obtain ⟨left, hrg, hsub, hK⟩ := hrel
    have hgb : wr.heap[g]? = some (.cells (s.cells c d) 63 (0, 0)) := hK.at HB.out (fun h => hcg h.symm)
    have xg7 := blk_cell hgb 7
    simp only [NS.cells, List.getElem?_toArray, List.getElem?_cons_zero, List.getElem?_cons_succ] at xg7
    go_wp2_with (at_next; refine wpList_next_A _ (fun h : Int × Int => .agg #[.int .i64 h.1, .int .i64 h.2]) rfl _ rfl c r _ _ rfl hrg (fun q hq => (hen q (hsub q hq)).imp fun _ h => h.1) ?_ ?_)
    · intro hl
      subst hl
      rw [sweep_end, encH_keep] at hrg
      have hmk : MapI wr c (encH (s.kept a)) := hrg.map
      have HMK := Lib.hid hmk
      clear hrg hsub hen
      go_wp2_with fail
      refine (kkeys_any (some c) wr).mono ?_
      rintro e _ ⟨rfl, rfl⟩
      go_wp2_with fail
      refine (ksorted_any c (encH (s.kept a)) wr HMK.out (fun p hp => ?_) (by
        have h1 : (encH (s.kept a)).length = (s.kept a).length := by simp [encH]
        have h2 : (s.kept a).length ≤ s.K.length := List.length_filter_le _ _
        omega)).mono ?_
      · obtain ⟨y, hy, rfl⟩ := List.mem_map.1 hp
        exact HW.out y (List.mem_filter.1 hy).1
      rintro e w1 ⟨v, rfl, hrow, hk1⟩
      obtain ⟨hKl, la, lcap, rfl, hlcap, hlc⟩ := ints_lie hrow
      have HLC := Lib.hid hlc
      have hnl : ((keysUp (encH (s.kept a))).length : Int) ≤ 4096 := by
        have h1 : (encH (s.kept a)).length = (s.kept a).length := by simp [encH]
        have h2 : (s.kept a).length ≤ s.K.length := List.length_filter_le _ _
        unfold keysUp
        rw [List.length_mergeSort, List.length_map]
        omega
      have hK1 : Only (fun k => k = c) w w1 := hK.trans (hk1.mono (fun _ _ h => h.elim))
      have HMK1 := Lib.hid (HMK.out.only hk1 (fun h => h))
      have HGB1 := Lib.hid (hk1.at hgb (fun h => h))
      clear hrow hlc hk1 HMK hmk hgb xg7 hKl
      generalize keysUp (encH (s.kept a)) = ks at *
      generalize ks.length = n at *
      go_wp2_with fail
      go_loopw [8, 45] (fun ov iv wq => ∃ (o : Int) (i : Nat), ov = .int .i64 o ∧ iv = .int .i64 i ∧ i ≤ n ∧ Only (fun _ => False) w1 wq) (fun _ iv _ => n - (intOf iv).toNat)
      case atStart => exact ⟨-1, 0, rfl, rfl, by omega, Only.refl _ _⟩
      case round =>
        obtain ⟨o, i, rfl, rfl, hin, hOq⟩ := hrel
        have hmq := HMK1.out.only hOq (fun h => h)
        have hgq := hOq.at HGB1.out (fun h => h)
        have xq7 := blk_cell hgq 7
        have xq3 := blk_cell hgq 3
        simp only [NS.cells, List.getElem?_toArray, List.getElem?_cons_zero, List.getElem?_cons_succ] at xq7 xq3
        by_cases hlt : i < n
        · obtain ⟨blk, rfl, hb1, hb2, hcell⟩ := HLC.out i hlt
          have hcq := cell_only hOq (fun h => h) hcell
          have hlk : ∀ x w', MapI w' c (encH (s.kept a)) → (Instr.lookup 60 (.map (some c)) (.int .i64 x) false).run Try.prog w' = .ok (.agg #[.int .i64 ((lookH (s.kept a) x).getD (0, 0)).1, .int .i64 ((lookH (s.kept a) x).getD (0, 0)).2]) w' := by
            intro x w' h
            have := MapI.look (P := Try.prog) h und_kmap und_int (zero_known _) x false
            rw [this, getI_encH]
            cases lookH (s.kept a) x <;> rfl
          generalize hx : ks.getD i 0 = x at hcq
          have hl1 := hlk x wr.drew (hmq.only ((Only.refl (fun _ => False) wr).drew) (fun h => h))
          have hl2 := hlk o wr.drew (hmq.only ((Only.refl (fun _ => False) wr).drew) (fun h => h))
          clear hlk hcell hx
          generalize (lookH (s.kept a) x).getD (0, 0) = qx at *
          generalize (lookH (s.kept a) o).getD (0, 0) = qo at *
          by_cases hneg : o < 0
          · have hd : decide (o < 0) = true := by simpa using hneg
            go_wp2_with fail
            go_region
            go_wp2_with fail
            go_roundw
            case rel => exact ⟨x, i + 1, rfl, by go_num, by omega, hOq.drew⟩
            case measure => simp [intOf]; omega
          · have hd : decide (o < 0) = false := by simpa using hneg
            go_wp2_with fail
            refine wp_region_still_tail 18 (by kernel_rfl) (by kernel_rfl) ?_
            simp only [List.take_succ_cons, List.take_zero, List.drop_succ_cons, List.drop_zero]
            change wpStill _ _ (wr.drew) (fun a' => wpList _ _ _ _ _ (wr.drew)) _ _
            replace xq7 : wr.drew.cell? ⟨g, 7, none⟩ = _ := xq7
            replace hOq : Only (fun _ => False) w1 wr.drew := hOq.drew
            generalize wr.drew = wd at hl1 hl2 xq7 hOq ⊢
            by_cases hq : qx.2 < qo.2
            · have hd2 : decide (qx.2 < qo.2) = true := by simpa using hq
              repeat still_step
              refine wpStill_nil ?_
              go_wp2_with fail
              go_roundw
              case rel => exact ⟨x, i + 1, rfl, by go_num, by omega, hOq⟩
              case measure => simp [intOf]; omega
            · have hd2 : decide (qx.2 < qo.2) = false := by simpa using hq
              repeat still_step
              refine wpStill_nil ?_
              go_wp2_with fail
              go_roundw
              case rel => exact ⟨o, i + 1, rfl, by go_num, by omega, hOq⟩
              case measure => simp [intOf]; omega
        · obtain rfl : i = n := by omega
          have hlr := (hmq.only ((Only.refl (fun _ => False) wr).drew) (fun h => h)).len und_kmap 3
          have hln : (encH (s.kept a)).length = (s.kept a).length := by simp [encH]
          rw [hln] at hlr
          have HMQ := Lib.hid (show MapI wr.drew c (encH (s.kept a)) from hmq.only ((Only.refl (fun _ => False) wr).drew) (fun h => h))
          have hdr : decide (s.room ≤ ((s.kept a).length : Int)) = false := by have := HR.out; simp; omega
          have HOQ := Lib.hid (show Only (fun k => k = c) w wr.drew from (hK1.then hOq (fun _ _ h => h.elim)).drew)
          clear hmq hlt
          generalize hkl : ((s.kept a).length : Int) = kl at hlr hdr
          clear hkl
          go_wp2_with fail
          refine wp_region_still_tail 10 (by kernel_rfl) (by kernel_rfl) ?_
          simp only [List.take_succ_cons, List.take_zero, List.drop_succ_cons, List.drop_zero]
          change wpStill _ _ (wr.drew) (fun a' => wpList _ _ _ _ _ (wr.drew)) _ _
          replace xq7 : wr.drew.cell? ⟨g, 7, none⟩ = _ := xq7
          replace xq3 : wr.drew.cell? ⟨g, 3, none⟩ = _ := xq3
          generalize wr.drew = wd at hlr xq7 xq3 HMQ HOQ ⊢
          repeat still_step
          refine wpStill_nil ?_
          have hput : putI (encH (s.kept a)) a (heardV (m, s.now)) = encH (s.kept a ++ [(a, m, s.now)]) := by
            unfold putI
            rw [getI_none (fun q hq => ?_)]
            · simp [encH]
            · obtain ⟨y, hy, rfl⟩ := List.mem_map.1 hq
              have := (List.mem_filter.1 hy).2
              unfold keepH at this
              simp only [Bool.and_eq_true, bne_iff_ne] at this
              exact this.1
          have HPUT := Lib.hid hput
          have hmk2 := HMQ.out
          clear hput
          go_wp2_with (at_mapUpdate; refine wpList_put_I _ rfl _ _ _ 60 rfl 3 74 und_kmap und_int c _ rfl hmk2 _ (heardV (m, s.now)) rfl rfl ?_; intro w2 hm2 hk2 hz2)
          go_end0
          rw [HPUT.out] at hm2
          exact ⟨rfl, HN.out.known _ (HOQ.out.trans hk2) hm2, HOQ.out.trans hk2⟩
    · intro x hp ht w1 hx hrg1 hk1 hz1 hent
      have hxl := hsub _ hx
      have hh : 0 ≤ ht ∧ ht ≤ s.now := by
        obtain ⟨y, hy, h0, h1⟩ := hen _ hxl
        have e1 : ht = y.2 := by
          have := hy
          simp only [Value.agg.injEq, Array.mk.injEq, List.cons.injEq, Value.int.injEq, true_and, and_true] at this
          exact this.2
        rw [e1]; exact ⟨h0, h1⟩
      have hcr : c < r := by omega
      have hlt1 := delI_length hx
      have hl0 := hrg.leftN_eq
      have hrg2 : RangeI (w1.alloc (.cells #[.int .i64 hp, .int .i64 ht] 74)) c r (sweep (encH s.K) left (keepB a s.age s.now)) (delI left x) := hrg1.only ((Only.refl (fun _ => False) w1).alloc _) (fun h => h) (fun h => h)
      have hK2 : Only (fun k => k = c) w (w1.alloc (.cells #[.int .i64 hp, .int .i64 ht] 74)) := (hK.then hk1 (fun i hi e => by omega)).alloc _
      have hgb2 : (w1.alloc (.cells #[.int .i64 hp, .int .i64 ht] 74)).heap[g]? = some (.cells (s.cells c d) 63 (0, 0)) := blk_alloc (hk1.at hgb (fun e => by omega)) _
      have y7' := blk_cell hgb2 7
      simp only [NS.cells, List.getElem?_toArray, List.getElem?_cons_zero, List.getElem?_cons_succ] at y7'
      have hz := blk_new w1 (.cells #[.int .i64 hp, .int .i64 ht] 74)
      by_cases hxa : x = a
      · have hxb : (x == a) = true := by simpa using hxa
        have hkeep : keepB a s.age s.now (x, .agg #[.int .i64 hp, .int .i64 ht]) = false := by rw [keepB_at, hxa]; simp
        clear hxa
        go_wp2_with (at_delete; refine wpList_delr_I _ rfl _ _ 60 3 rfl 74 und_kmap und_int c r _ _ rfl hrg2 x rfl ?_; intro w2 hrg3 hk3 hz3)
        go_frame
        rw [delI_twice, sweep_drop hks hxl hkeep] at hrg3
        go_roundw
        case rel => exact ⟨delI left x, hrg3, fun q hq => hsub q (mem_delI hq), hK2.trans hk3⟩
        case measure => rw [hrg3.leftN_eq, hl0]; exact hlt1
      · have hxb : (x == a) = false := by simpa using hxa
        have hkeep : keepB a s.age s.now (x, .agg #[.int .i64 hp, .int .i64 ht]) = decide (s.now < ht + s.age) := by rw [keepB_at]; simp [hxa]
        clear hxa
        go_wp2_with fail
        refine (fresh_any _ g c d s (hp, ht) s.now hgb2 (by have := HO.out.a1; omega) HO.out.a2 hh.1 (by have := HO.out.n2; omega)).mono ?_
        rintro e w3 ⟨rfl, hk4⟩
        replace hrg2 := hrg2.only hk4 (fun h => h) (fun h => h)
        replace hgb2 := hk4.at hgb2 (fun h => h)
        replace hK2 := hK2.then hk4 (fun _ _ h => h.elim)
        have y7 := blk_cell hgb2 7
        simp only [NS.cells, List.getElem?_toArray, List.getElem?_cons_zero, List.getElem?_cons_succ] at y7
        by_cases hold : s.now < ht + s.age
        · have hd : decide (s.now < ht + s.age) = true := by simpa using hold
          replace hkeep : keepB a s.age s.now (x, .agg #[.int .i64 hp, .int .i64 ht]) = true := by rw [hkeep]; exact hd
          rw [hd]
          clear hold hd
          go_wp2_with fail
          rw [sweep_keep hks hxl hkeep] at hrg2
          go_roundw
          case rel => exact ⟨delI left x, hrg2, fun q hq => hsub q (mem_delI hq), hK2⟩
          case measure => rw [hrg2.leftN_eq, hl0]; exact hlt1
        · have hd : decide (s.now < ht + s.age) = false := by simpa using hold
          replace hkeep : keepB a s.age s.now (x, .agg #[.int .i64 hp, .int .i64 ht]) = false := by rw [hkeep]; exact hd
          rw [hd]
          clear hold hd
          go_wp2_with (at_delete; refine wpList_delr_I _ rfl _ _ 60 3 rfl 74 und_kmap und_int c r _ _ rfl hrg2 x rfl ?_; intro w2 hrg3 hk3 hz3)
          go_frame
          rw [delI_twice, sweep_drop hks hxl hkeep] at hrg3
          go_roundw
          case rel => exact ⟨delI left x, hrg3, fun q hq => hsub q (mem_delI hq), hK2.trans hk3⟩
          case measure => rw [hrg3.leftN_eq, hl0]; exact hlt1

end Go.Proofs.Ythgkdfllddljcaa

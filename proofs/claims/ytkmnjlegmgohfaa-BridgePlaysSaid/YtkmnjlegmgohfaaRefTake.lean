/-
  The reference bridge of sternpostref10: Take; marks over a list of numbers.
  Conditions: numbers are of the kind int.
-/
import Derived.Test.YtkmnjlegmgohfaaRefKnown
import Derived.Test.YtkmnjlegmgohfaaRef03C
set_option linter.unusedVariables false
set_option linter.unusedSimpArgs false
set_option maxRecDepth 100000
namespace Go.Proofs.Ytkmnjlegmgohfaa
open Go.RowKit

theorem OwnL.block {w : World} {B : Nat} {v : Value} {l : List Int} (h : OwnL w B v l) {b : Nat} (hb : v.ownBlock = some b) : B ≤ b ∧ ∃ cur, w.heap[b]? = some (.cells cur 3 (0, 0)) := by
  obtain ⟨h1, ⟨rfl, h0⟩ | ⟨gb, cap, cur, rfl, h3, hg, _⟩⟩ := h
  · cases hb
  · cases hb
    exact ⟨h3, cur, hg⟩

theorem RBAt.grown {w w' : World} {r B : Nat} {s : BS} {v : Value} {l : List Int} (h : RBAt w r s) (hown : OwnL w B v l) (hr : r < B) (hg : w.grownBy w' v.ownBlock) : RBAt w' r s := by
  refine h.only (Only.of_grown hg) (fun e => ?_) (fun b cur hc e => ?_)
  · have := (hown.block e.symm).1
    omega
  · obtain ⟨_, cur2, h2⟩ := hown.block e.symm
    rw [h2] at hc
    injection hc with hc
    injection hc with _ hc
    revert hc
    decide

theorem take_r_port (s : BS) (r : Nat) (w : World) (port t f k now : Int) (d : ByteArray) (hb : RBAt w r s) (hp : ¬ (0 ≤ port ∧ port < s.ports)) :
    Calls Try.prog 19 #[.pointer (some ⟨r, 0, none⟩), .int .i64 port, .agg #[.int .i64 t, .int .i64 f, .int .i64 k, .string d], .int .i64 now] w fun e w' => e = .returned (.tuple #[.slice none 0 0, .int .i64 100]) ∧ Only (fun _ => False) w w' := by
  have hO := (Only.refl (fun _ => False) w).alloc (.cells #[.int .i64 t, .int .i64 f, .int .i64 k, .string d] 30)
  obtain ⟨v, base, hg, hrow⟩ := hb
  have x0 := blk_cell (hO.at hg (fun h => h)) 0
  simp only [List.getElem?_toArray, List.getElem?_cons_zero, List.getElem?_cons_succ] at x0
  have hc : port < 0 ∨ (¬ port < 0 ∧ s.ports ≤ port) := by omega
  clear hg hrow hp
  rcases hc with h1 | ⟨h1, h2⟩
  all_goals
    go_enter Try.func19, Try.ntmps19
    go_wp2_with fail
    go_ret2
    exact ⟨rfl, hO⟩

theorem take_r_tick (s : BS) (r : Nat) (w : World) (port t f k now : Int) (d : ByteArray) (hb : RBAt w r s) (hp : 0 ≤ port ∧ port < s.ports) (hn : ¬ (s.now ≤ now ∧ now ≤ 1099511627776)) :
    Calls Try.prog 19 #[.pointer (some ⟨r, 0, none⟩), .int .i64 port, .agg #[.int .i64 t, .int .i64 f, .int .i64 k, .string d], .int .i64 now] w fun e w' => e = .returned (.tuple #[.slice none 0 0, .int .i64 1]) ∧ Only (fun _ => False) w w' := by
  have hO := (Only.refl (fun _ => False) w).alloc (.cells #[.int .i64 t, .int .i64 f, .int .i64 k, .string d] 30)
  obtain ⟨v, base, hg, hrow⟩ := hb
  obtain ⟨p0, p1⟩ := hp
  have x0 := blk_cell (hO.at hg (fun h => h)) 0
  have x3 := blk_cell (hO.at hg (fun h => h)) 3
  simp only [List.getElem?_toArray, List.getElem?_cons_zero, List.getElem?_cons_succ] at x0 x3
  have hc : now < s.now ∨ (¬ now < s.now ∧ 1099511627776 < now) := by omega
  clear hg hrow hn
  rcases hc with h1 | ⟨h1, h2⟩
  all_goals
    go_enter Try.func19, Try.ntmps19
    go_wp2_with fail
    go_ret2
    exact ⟨rfl, hO⟩

theorem take_r_frame (s : BS) (r : Nat) (w : World) (port t f k now : Int) (d : ByteArray) (hb : RBAt w r s) (hp : 0 ≤ port ∧ port < s.ports) (hn1 : s.now ≤ now) (hn2 : now ≤ 1099511627776) (hf : ¬ FrameOk t f k d) :
    Calls Try.prog 19 #[.pointer (some ⟨r, 0, none⟩), .int .i64 port, .agg #[.int .i64 t, .int .i64 f, .int .i64 k, .string d], .int .i64 now] w fun e w' => e = .returned (.tuple #[.slice none 0 0, .int .i64 30]) ∧ Only (fun _ => False) w w' := by
  have hO := (Only.refl (fun _ => False) w).alloc (.cells #[.int .i64 t, .int .i64 f, .int .i64 k, .string d] 30)
  obtain ⟨v, base, hg, hrow⟩ := hb
  obtain ⟨p0, p1⟩ := hp
  have x0 := blk_cell (hO.at hg (fun h => h)) 0
  have x3 := blk_cell (hO.at hg (fun h => h)) 3
  have hz := blk_new w (.cells #[.int .i64 t, .int .i64 f, .int .i64 k, .string d] 30)
  have z0 := blk_cell hz 0
  have z1 := blk_cell hz 1
  have z2 := blk_cell hz 2
  have z3 := blk_cell hz 3
  simp only [List.getElem?_toArray, List.getElem?_cons_zero, List.getElem?_cons_succ] at x0 x3 z0 z1 z2 z3
  have d1 : ¬ now < s.now := by omega
  have d2 : ¬ 1099511627776 < now := by omega
  have HF := Lib.hid hf
  clear hg hrow hf hz
  go_enter Try.func19, Try.ntmps19
  go_wp2_with fail
  refine (rcheck_bad t f k d _ HF.out).mono ?_
  rintro e w1 ⟨rfl, hk1⟩
  go_wp2_with fail
  go_ret2
  exact ⟨rfl, hO.trans hk1⟩

set_option maxHeartbeats 2000000 in
theorem take_r_core (s : BS) (r : Nat) (w : World) (port t f k now : Int) (d : ByteArray) (hb : RBAt w r s) (ho : BOk s) (hnd : (s.L.map Prod.fst).Nodup) (hl : s.L.length ≤ 1024) (hnd2 : ((s.took f port now).L.map Prod.fst).Nodup) (hl2 : (s.took f port now).L.length ≤ 1024) (hp : 0 ≤ port ∧ port < s.ports) (hn1 : s.now ≤ now) (hn2 : now ≤ 1099511627776) (hf : FrameOk t f k d) (s2 : BS) (kb gr : Bool) (at_ : Int) (hs2 : s.took f port now = s2) (hkb : (s2.find t now).isSome = kb) (hat : (s2.find t now).getD 0 = at_) (hgr : groupB t = gr) :
    Calls Try.prog 19 #[.pointer (some ⟨r, 0, none⟩), .int .i64 port, .agg #[.int .i64 t, .int .i64 f, .int .i64 k, .string d], .int .i64 now] w fun e w' => ∃ v, e = .returned (.tuple #[v, .int .i64 0]) ∧ OwnL w' w.heap.size v (roads port gr kb at_ s.ports.toNat) ∧ RBAt w' r s2 ∧ Only (fun k => k = r) w w' := by
  have hO := (Only.refl (fun _ => False) w).alloc (.cells #[.int .i64 t, .int .i64 f, .int .i64 k, .string d] 30)
  have hrlt := hb.lt
  have hb1 := hb.keep hO
  obtain ⟨p0, p1⟩ := hp
  have hz := blk_new w (.cells #[.int .i64 t, .int .i64 f, .int .i64 k, .string d] 30)
  have z0 := blk_cell hz 0
  have z1 := blk_cell hz 1
  have z2 := blk_cell hz 2
  have z3 := blk_cell hz 3
  obtain ⟨v, base, hg, hrow⟩ := hb1
  have x0 := blk_cell hg 0
  have x3 := blk_cell hg 3
  simp only [List.getElem?_toArray, List.getElem?_cons_zero, List.getElem?_cons_succ] at x0 x3 z0 z1 z2 z3
  have HB : Hid (RBAt (w.alloc (.cells #[.int .i64 t, .int .i64 f, .int .i64 k, .string d] 30)) r s) := Lib.hid ⟨v, base, hg, hrow⟩
  have d1 : ¬ now < s.now := by omega
  have d2 : ¬ 1099511627776 < now := by omega
  have HF := Lib.hid hf
  have ho2 := ho.tick hn1 hn2
  clear hg hrow hf hz hb
  go_enter Try.func19, Try.ntmps19
  go_wp2_with fail
  generalize w.alloc (.cells #[.int .i64 t, .int .i64 f, .int .i64 k, .string d] 30) = wa at *
  refine (rcheck_ok t f k d _ HF.out).mono ?_
  rintro e w1 ⟨rfl, hk1⟩
  have hO1 := hO.trans hk1
  replace z0 := cell_only hk1 (fun h => h) z0
  replace z1 := cell_only hk1 (fun h => h) z1
  obtain ⟨v, base, hg1, hrow1⟩ := HB.out.keep hk1
  have x33 := blk_cell hg1 3
  have f3 := blk_free hg1 3
  simp only [List.getElem?_toArray, List.getElem?_cons_zero, List.getElem?_cons_succ] at x33
  have HG1 := Lib.hid hg1
  have HR1 := Lib.hid hrow1
  clear HB z2 z3 x0 x3 hk1 hO hg1 hrow1
  go_wp2_with fail
  have hks := (Only.refl (fun k => k = r) w1).setCell ⟨r, 3, none⟩ (.int .i64 now) (fun _ => rfl)
  have hb2 : RBAt (w1.setCell ⟨r, 3, none⟩ (.int .i64 now)) r { s with now := now } := ⟨v, base, (blk_set HG1.out 3 (.int .i64 now)).trans rfl, HR1.out.only hks (fun b hb => by
    obtain ⟨cur, hc⟩ := HR1.out.block hb
    intro e
    rw [e, HG1.out] at hc
    injection hc with hc
    injection hc with _ hc
    revert hc
    decide)⟩
  have hO2 : Only (fun k => k = r) w (w1.setCell ⟨r, 3, none⟩ (.int .i64 now)) := (hO1.mono (fun _ _ h => h.elim)).trans hks
  have hne : ¬ w.heap.size = r := by omega
  replace z0 := cell_only hks hne z0
  generalize w1.setCell ⟨r, 3, none⟩ (.int .i64 now) = w2 at hb2 hO2 z0 ⊢
  clear z1 f3 x33 hO1 hks HG1 HR1
  refine (learn_r w2 r { s with now := now } f port hb2 ho2 hl).mono ?_
  rintro e w3 ⟨rfl, hb3, hk3⟩
  have hO3 := hO2.trans hk3
  replace z0 := cell_only hk3 hne z0
  replace hb3 : RBAt w3 r (s.took f port now) := hb3
  have ho3 : BOk (s.took f port now) := ho2.learn f port
  clear hb2 hk3 hO2 ho2
  go_wp2_with fail
  refine (rGroup_ok t _ HF.out.to).mono ?_
  rintro e _ ⟨rfl, rfl⟩
  go_wp2_with fail
  rw [hs2] at hb3 ho3 hnd2 hl2
  refine (port_r w3 r s2 t now hb3 ho3 hnd2 hl2).mono ?_
  rintro e w4 ⟨rfl, hk4⟩
  have hO4 := hO3.then hk4 (fun _ _ h => h.elim)
  replace hb3 := hb3.keep hk4
  have hports : s2.ports = s.ports := by rw [← hs2]; rfl
  rw [hkb, hat]
  have HP := Lib.hid hports
  have hp1 := ho.p1
  have hp2 := ho.p2
  obtain ⟨i0, hi, hz0, hz1, hz2⟩ := info_parts info3
  clear ho ho3 HF hkb hat hgr hs2 hk4 hO3 z0 hports hnd hl hnd2 hl2 d1 d2
  go_wp2_with fail
  go_loopw [15, 16] (fun v i wr => ∃ j : Nat, i = .int .i64 j ∧ (j : Int) ≤ s.ports ∧ OwnL wr w.heap.size v (roads port gr kb at_ j) ∧ RBAt wr r s2 ∧ Only (fun k => k = r) w wr) (fun _ i _ => 16 - (intOf i).toNat)
  case atStart => exact ⟨0, rfl, by omega, OwnL.nil _ _, hb3, hO4⟩
  case round =>
    clear hb3 hO4
    obtain ⟨j, rfl, hj, hown, hb3, hO4⟩ := hrel
    have hlen := roads_len port gr kb at_ j
    have x0 : wr.cell? ⟨r, 0, none⟩ = some (.int .i64 s.ports) := by
      obtain ⟨v, base, hg, _⟩ := hb3
      rw [← HP.out]
      exact (blk_cell hg 0).trans rfl
    by_cases hlt : (j : Int) < s.ports
    · cases h1 : ((j : Int) != port) with
      | false =>
        have hs : roads port gr kb at_ (j + 1) = roads port gr kb at_ j := by rw [roads_succ, if_neg (by unfold roadB; simp [h1])]; simp
        go_wp2_with fail
        go_roundw
        case rel => exact ⟨j + 1, by go_num, by omega, by rw [hs]; exact hown, hb3, hO4⟩
        case measure => simp [intOf]; omega
      | true =>
        cases gr with
        | true =>
          have hs : roads port true kb at_ (j + 1) = roads port true kb at_ j ++ [(j : Int)] := by rw [roads_succ, if_pos (by unfold roadB; simp [h1])]
          go_wp2_with (at_builtin; refine wpList_append_own _ rfl _ _ 34 rfl w.heap.size 3 i0 (.int .i64 0) 1 8 Try.underlying34 hi hz0 hz1 hz2 rfl (by decide) _ _ _ rfl (hown.alloc _) ⟨wr.heap.size, 0, none⟩ 1 1 [.int .i64 (j : Int)] rfl rfl (cell_one_new _ _ _) (by simp [Value.oneCell']) (by simp only [maxLen]; omega) (by omega) (by have := hO4.size; rw [World.size_alloc]; omega) ?_; intro v2 w5 hown2 hg2 _)
          have hO5 : Only (fun k => k = r) w w5 := (hO4.alloc _).then (.of_grown hg2) (fun i hi e => by have := (hown.lt i e.symm).1; omega)
          have hb5 : RBAt w5 r s2 := (hb3.keep ((Only.refl (fun _ => False) wr).alloc (.cells #[.int .i64 (j : Int)] 3))).grown (hown.alloc _) hrlt hg2
          have hown3 : OwnL w5 w.heap.size v2 (roads port true kb at_ (j + 1)) := by
            rw [hs]
            unfold OwnL
            rw [List.length_append, List.map_append]
            exact hown2
          go_roundw
          case rel => exact ⟨j + 1, by go_num, by omega, hown3, hb5, hO5⟩
          case measure => simp [intOf]; omega
        | false =>
          cases kb with
          | false =>
            have hs : roads port false false at_ (j + 1) = roads port false false at_ j ++ [(j : Int)] := by rw [roads_succ, if_pos (by unfold roadB; simp [h1])]
            go_wp2_with (at_builtin; refine wpList_append_own _ rfl _ _ 34 rfl w.heap.size 3 i0 (.int .i64 0) 1 8 Try.underlying34 hi hz0 hz1 hz2 rfl (by decide) _ _ _ rfl (hown.alloc _) ⟨wr.heap.size, 0, none⟩ 1 1 [.int .i64 (j : Int)] rfl rfl (cell_one_new _ _ _) (by simp [Value.oneCell']) (by simp only [maxLen]; omega) (by omega) (by have := hO4.size; rw [World.size_alloc]; omega) ?_; intro v2 w5 hown2 hg2 _)
            have hO5 : Only (fun k => k = r) w w5 := (hO4.alloc _).then (.of_grown hg2) (fun i hi e => by have := (hown.lt i e.symm).1; omega)
            have hb5 : RBAt w5 r s2 := (hb3.keep ((Only.refl (fun _ => False) wr).alloc (.cells #[.int .i64 (j : Int)] 3))).grown (hown.alloc _) hrlt hg2
            have hown3 : OwnL w5 w.heap.size v2 (roads port false false at_ (j + 1)) := by
              rw [hs]
              unfold OwnL
              rw [List.length_append, List.map_append]
              exact hown2
            go_roundw
            case rel => exact ⟨j + 1, by go_num, by omega, hown3, hb5, hO5⟩
            case measure => simp [intOf]; omega
          | true =>
            cases h3 : ((j : Int) == at_) with
            | true =>
              have hs : roads port false true at_ (j + 1) = roads port false true at_ j ++ [(j : Int)] := by rw [roads_succ, if_pos (by unfold roadB; simp [h1, h3])]
              go_wp2_with (at_builtin; refine wpList_append_own _ rfl _ _ 34 rfl w.heap.size 3 i0 (.int .i64 0) 1 8 Try.underlying34 hi hz0 hz1 hz2 rfl (by decide) _ _ _ rfl (hown.alloc _) ⟨wr.heap.size, 0, none⟩ 1 1 [.int .i64 (j : Int)] rfl rfl (cell_one_new _ _ _) (by simp [Value.oneCell']) (by simp only [maxLen]; omega) (by omega) (by have := hO4.size; rw [World.size_alloc]; omega) ?_; intro v2 w5 hown2 hg2 _)
              have hO5 : Only (fun k => k = r) w w5 := (hO4.alloc _).then (.of_grown hg2) (fun i hi e => by have := (hown.lt i e.symm).1; omega)
              have hb5 : RBAt w5 r s2 := (hb3.keep ((Only.refl (fun _ => False) wr).alloc (.cells #[.int .i64 (j : Int)] 3))).grown (hown.alloc _) hrlt hg2
              have hown3 : OwnL w5 w.heap.size v2 (roads port false true at_ (j + 1)) := by
                rw [hs]
                unfold OwnL
                rw [List.length_append, List.map_append]
                exact hown2
              go_roundw
              case rel => exact ⟨j + 1, by go_num, by omega, hown3, hb5, hO5⟩
              case measure => simp [intOf]; omega
            | false =>
              have hs : roads port false true at_ (j + 1) = roads port false true at_ j := by rw [roads_succ, if_neg (by unfold roadB; simp [h1, h3])]; simp
              go_wp2_with fail
              go_roundw
              case rel => exact ⟨j + 1, by go_num, by omega, by rw [hs]; exact hown, hb3, hO4⟩
              case measure => simp [intOf]; omega
    · have hjp : j = s.ports.toNat := by omega
      go_wp2_with fail
      go_ret2
      exact ⟨_, rfl, by rw [← hjp]; exact hown, hb3, hO4⟩

theorem take_r_ok (s : BS) (r : Nat) (w : World) (port t f k now : Int) (d : ByteArray) (hb : RBAt w r s) (ho : BOk s) (hnd : (s.L.map Prod.fst).Nodup) (hl : s.L.length ≤ 1024) (hnd2 : ((s.took f port now).L.map Prod.fst).Nodup) (hl2 : (s.took f port now).L.length ≤ 1024) (hp : 0 ≤ port ∧ port < s.ports) (hn1 : s.now ≤ now) (hn2 : now ≤ 1099511627776) (hf : FrameOk t f k d) :
    Calls Try.prog 19 #[.pointer (some ⟨r, 0, none⟩), .int .i64 port, .agg #[.int .i64 t, .int .i64 f, .int .i64 k, .string d], .int .i64 now] w fun e w' => ∃ v, e = .returned (.tuple #[v, .int .i64 0]) ∧ OwnL w' w.heap.size v (roads port (groupB t) ((s.took f port now).find t now).isSome (((s.took f port now).find t now).getD 0) s.ports.toNat) ∧ RBAt w' r (s.took f port now) ∧ Only (fun k => k = r) w w' :=
  take_r_core s r w port t f k now d hb ho hnd hl hnd2 hl2 hp hn1 hn2 hf _ _ _ _ rfl rfl rfl rfl

theorem spoil_any (w : World) (B : Nat) (v : Value) (l : List Int) (h : OwnL w B v l) (hl : l.length ≤ 1099511627776) : Calls Try.prog 20 #[v] w fun e w' => e = .returned (.tuple #[]) ∧ Only (fun k => v.ownBlock = some k) w w' := by
  obtain ⟨hrl, ⟨rfl, h0⟩ | ⟨gb, cap, cur, rfl, hgb, hgg, hc1, hm2, hz9, ht9⟩⟩ := h
  · go_enter Try.func20, Try.ntmps20
    go_wp2_with fail
    refine wp_loop_rounds 1 ?_
    rw [rounds_succ]
    go_wp2_with fail
    go_end0
    exact ⟨rfl, Only.refl _ _⟩
  · have hcs : l.length ≤ cur.size := by omega
    have HG := Lib.hid hgg
    have HGB := Lib.hid hgb
    generalize hn : l.length = n at *
    clear hrl hgg ht9 hn hm2 hz9 hgb
    go_enter Try.func20, Try.ntmps20
    go_wp2_with fail
    go_loopw [2] (fun iv wr => ∃ (i : Nat) (cu : Array Value), iv = .int .i64 i ∧ i ≤ n ∧ cu.size = cur.size ∧ wr.heap[gb]? = some (.cells cu 3 (0, 0)) ∧ Only (fun k => (Value.slice (some ⟨gb, 0, none⟩) n cap).ownBlock = some k) w wr) (fun iv _ => n - (intOf iv).toNat)
    case atStart => exact ⟨0, cur, rfl, by omega, rfl, HG.out, Only.refl _ _⟩
    case round =>
      obtain ⟨i, cu, rfl, hin, hcu, hgw, hO⟩ := hrel
      by_cases hi : i < n
      · have hc : wr.cell? ⟨gb, i, none⟩ = some cu[i] := (blk_cell hgw i).trans (Array.getElem?_eq_getElem (by omega))
        have hf := blk_free hgw i
        have HGW := Lib.hid hgw
        generalize cu[i] = ci at hc
        clear hgw
        go_wp2_with fail
        go_roundw
        case rel => exact ⟨i + 1, cu.setIfInBounds i (.int .i64 (-99)), by go_num, by omega, by rw [Array.size_setIfInBounds]; exact hcu, blk_set HGW.out i _, hO.setCell _ _ (fun _ => rfl)⟩
        case measure => simp [intOf]; omega
      · go_wp2_with fail
        go_end0
        exact ⟨rfl, hO⟩

end Go.Proofs.Ytkmnjlegmgohfaa

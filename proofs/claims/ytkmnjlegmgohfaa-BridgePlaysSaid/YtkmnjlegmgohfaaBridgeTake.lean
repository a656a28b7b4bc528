/-
  The contract of Take of package bridge.
  Conditions: numbers are of the kind int, the bridge's own in their bounds.
-/
import Derived.Test.YtkmnjlegmgohfaaBridgeLearn
import Derived.Test.YtkmnjlegmgohfaaEther
import Derived.Laws.AppendOwn
set_option linter.unusedVariables false
set_option linter.unusedSimpArgs false
namespace Go.Proofs.Ytkmnjlegmgohfaa
open Go.RowKit

/-- A list of ints that the call has made, from block base on. -/
def OwnL (w : World) (base : Nat) (v : Value) (l : List Int) : Prop := w.ownsRow base 3 1 v l.length (l.map (Value.int .i64))

theorem OwnL.nil (w : World) (base : Nat) : OwnL w base (.slice none 0 0) [] := World.ownsRow_nil _ _ _ _

theorem OwnL.kept {w w' : World} {base : Nat} {v : Value} {l : List Int} {row : Option Nat} (h : OwnL w base v l) (hg : w.grownBy w' row) (hn : ∀ g, v.ownBlock = some g → row ≠ some g) : OwnL w' base v l := by
  obtain ⟨h1, h2⟩ := h
  refine ⟨h1, ?_⟩
  rcases h2 with h2 | ⟨g, cap, cur, rfl, hb, hg2, h3⟩
  · exact .inl h2
  · exact .inr ⟨g, cap, cur, rfl, hb, (hg.block g (heap_lt hg2) (fun e => hn g rfl e.symm)).trans hg2, h3⟩

/-- A list whose block is none of those that have turned. -/
theorem OwnL.only {w w' : World} {base : Nat} {v : Value} {l : List Int} {S : Nat → Prop} (h : OwnL w base v l) (hk : Only S w w') (hn : ∀ g, base ≤ g → ¬ S g) : OwnL w' base v l := by
  obtain ⟨h1, h2⟩ := h
  refine ⟨h1, ?_⟩
  rcases h2 with h2 | ⟨g, cap, cur, rfl, hb, hg2, h3⟩
  · exact .inl h2
  · exact .inr ⟨g, cap, cur, rfl, hb, hk.at hg2 (hn g hb), h3⟩

theorem info3 : (Try.prog.info? 3).map (fun i => (i.zero, i.size, i.bytes)) = some (some (.int .i64 0), 1, 8) := by kernel_rfl

theorem BOk.tick {s : BS} (h : BOk s) {now : Int} (h1 : s.now ≤ now) (h2 : now ≤ 1099511627776) : BOk { s with now := now } :=
  ⟨h.p1, h.p2, h.a1, h.a2, h.r1, h.r2, by show 0 ≤ now; have := h.n1; omega, h2, fun p hp => by have := h.at0 p hp; show 0 ≤ p.2.2 ∧ p.2.2 ≤ now; omega⟩

theorem BOk.learn {s : BS} (h : BOk s) (a p : Int) : BOk (s.learn a p) := by
  refine ⟨h.p1, h.p2, h.a1, h.a2, h.r1, h.r2, h.n1, h.n2, ?_⟩
  intro q hq
  have hk : ∀ q ∈ s.kept a, 0 ≤ q.2.2 ∧ q.2.2 ≤ s.now := fun q hq => h.at0 q (List.mem_filter.1 hq).1
  have hq' : q ∈ (if ((s.kept a).length : Int) < s.room then s.kept a ++ [(a, p, s.now)] else s.kept a) := hq
  split at hq'
  · rcases List.mem_append.1 hq' with h1 | h1
    · exact hk q h1
    · simp only [List.mem_singleton] at h1
      subst h1
      exact ⟨h.n1, Int.le_refl _⟩
  · exact hk q hq'

/-- Where a frame goes. -/
def roadB (port : Int) (group kb : Bool) (at_ : Int) (p : Int) : Bool := p != port && (group || !kb || p == at_)
def roads (port : Int) (group kb : Bool) (at_ : Int) (j : Nat) : List Int := ((List.range j).map (fun i : Nat => (i : Int))).filter (roadB port group kb at_)

theorem roads_succ (port : Int) (group kb : Bool) (at_ : Int) (j : Nat) : roads port group kb at_ (j + 1) = roads port group kb at_ j ++ (if roadB port group kb at_ (j : Int) = true then [(j : Int)] else []) := by
  unfold roads
  rw [List.range_succ, List.map_append, List.filter_append]
  congr 1
  simp only [List.map_cons, List.map_nil, List.filter_cons, List.filter_nil]

theorem roads_len (port : Int) (group kb : Bool) (at_ : Int) (j : Nat) : (roads port group kb at_ j).length ≤ j := by
  unfold roads
  exact Nat.le_trans (List.length_filter_le _ _) (by simp)

def BS.took (s : BS) (from_ port now : Int) : BS := { s with now := now }.learn from_ port

theorem take_frame (s : BS) (c g : Nat) (w : World) (port t f k now : Int) (d : ByteArray) (hb : BridgeAt w c g s) (ho : BOk s) (hp : 0 ≤ port ∧ port < s.ports) (hn1 : s.now ≤ now) (hn2 : now ≤ 1099511627776) (hf : ¬ FrameOk t f k d) :
    Calls Try.prog 10 #[.pointer (some ⟨g, 0, none⟩), .int .i64 port, .agg #[.int .i64 t, .int .i64 f, .int .i64 k, .string d], .int .i64 now] w fun e w' => e = .returned (.tuple #[.slice none 0 0, .int .i64 30]) ∧ Only (fun _ => False) w w' := by
  have hO := (Only.refl (fun _ => False) w).alloc (.cells #[.int .i64 t, .int .i64 f, .int .i64 k, .string d] 30)
  have hb2 := hb.only hO
  have x3 := blk_cell hb2.1 3
  have hz := blk_new w (.cells #[.int .i64 t, .int .i64 f, .int .i64 k, .string d] 30)
  have z0 := blk_cell hz 0
  have z1 := blk_cell hz 1
  have z2 := blk_cell hz 2
  have z3 := blk_cell hz 3
  simp only [List.getElem?_toArray, List.getElem?_cons_zero, List.getElem?_cons_succ] at x3 z0 z1 z2 z3
  have HF := Lib.hid hf
  have HB := Lib.hid hb2
  clear hb hb2 hf hz
  go_enter Try.func10, Try.ntmps10
  go_wp2_with fail
  generalize w.alloc (.cells #[.int .i64 t, .int .i64 f, .int .i64 k, .string d] 30) = wa at *
  refine (portno_any s c g _ port HB.out).mono ?_
  rintro e _ ⟨rfl, rfl⟩
  rw [if_pos hp]
  have d1 : decide (now < s.now) = false := by simpa using hn1
  have d2 : decide (1099511627776 < now) = false := by simpa using hn2
  go_wp2_with fail
  refine (echeck_bad t f k d _ HF.out).mono ?_
  rintro e w1 ⟨rfl, hk1⟩
  go_wp2_with fail
  go_ret2
  exact ⟨rfl, hO.trans hk1⟩

set_option maxRecDepth 100000 in
set_option maxHeartbeats 1000000 in
theorem take_core (s : BS) (c g : Nat) (w : World) (port t f k now : Int) (d : ByteArray) (hb : BridgeAt w c g s) (ho : BOk s) (hp : 0 ≤ port ∧ port < s.ports) (hn1 : s.now ≤ now) (hn2 : now ≤ 1099511627776) (hf : FrameOk t f k d) (s2 : BS) (kb gr : Bool) (at_ : Int) (hs2 : s.took f port now = s2) (hkb : (s2.find t now).isSome = kb) (hat : (s2.find t now).getD 0 = at_) (hgr : groupB t = gr) :
    Calls Try.prog 10 #[.pointer (some ⟨g, 0, none⟩), .int .i64 port, .agg #[.int .i64 t, .int .i64 f, .int .i64 k, .string d], .int .i64 now] w fun e w' => ∃ v, e = .returned (.tuple #[v, .int .i64 0]) ∧ OwnL w' w.heap.size v (roads port gr kb at_ s.ports.toNat) ∧ BridgeAt w' c g s2 ∧ Only (fun k => k = c ∨ k = g) w w' := by
  have hO := (Only.refl (fun _ => False) w).alloc (.cells #[.int .i64 t, .int .i64 f, .int .i64 k, .string d] 30)
  have hb2 := hb.only hO
  have x3 := blk_cell hb2.1 3
  have hz := blk_new w (.cells #[.int .i64 t, .int .i64 f, .int .i64 k, .string d] 30)
  have z0 := blk_cell hz 0
  have z1 := blk_cell hz 1
  have z2 := blk_cell hz 2
  have z3 := blk_cell hz 3
  simp only [List.getElem?_toArray, List.getElem?_cons_zero, List.getElem?_cons_succ] at x3 z0 z1 z2 z3
  have HF := Lib.hid hf
  have HB := Lib.hid hb2
  have hb0 := hb
  have hgw : w.heap.size ≠ g := by have := heap_lt hb.1; omega
  clear hb hb2 hf hz
  go_enter Try.func10, Try.ntmps10
  go_wp2_with fail
  generalize w.alloc (.cells #[.int .i64 t, .int .i64 f, .int .i64 k, .string d] 30) = wa at *
  refine (portno_any s c g _ port HB.out).mono ?_
  rintro e _ ⟨rfl, rfl⟩
  rw [if_pos hp]
  have d1 : decide (now < s.now) = false := by simpa using hn1
  have d2 : decide (1099511627776 < now) = false := by simpa using hn2
  go_wp2_with fail
  refine (echeck_ok t f k d _ HF.out).mono ?_
  rintro e w1 ⟨rfl, hk1⟩
  have hO1 := hO.trans hk1
  replace z0 := cell_only hk1 (fun h => h) z0
  replace z1 := cell_only hk1 (fun h => h) z1
  have hb1 := HB.out.only hk1
  have f3 := blk_free hb1.1 3
  replace x3 := cell_only hk1 (fun h => h) x3
  have hgne : w.heap.size ≠ g := hgw
  have hglt := heap_lt hb0.1
  have hb0c := hb0.2.1.lt
  clear hb0
  replace hb1 := Lib.hid hb1
  clear HB z2 z3 hk1 hO
  go_wp2_with fail
  have hb2 : BridgeAt (w1.setCell ⟨g, 3, none⟩ (.int .i64 now)) c g { s with now := now } :=
    ⟨blk_set hb1.out.1 3 _, hb1.out.2.1.only ((Only.refl (fun k => k = g) w1).setCell ⟨g, 3, none⟩ (.int .i64 now) (fun _ => rfl)) hb1.out.2.2, hb1.out.2.2⟩
  have hO2 : Only (fun k => k = c ∨ k = g) w (w1.setCell ⟨g, 3, none⟩ (.int .i64 now)) := (hO1.mono (fun _ _ h => h.elim)).setCell _ _ (fun _ => Or.inr rfl)
  replace z0 : (w1.setCell ⟨g, 3, none⟩ (.int .i64 now)).cell? ⟨w.heap.size, 0, none⟩ = some (.int .i64 t) := by
    rw [World.cell?_of_block (w := w1) (w' := w1.setCell ⟨g, 3, none⟩ (.int .i64 now)) (a := ⟨w.heap.size, 0, none⟩) (Below.heap_setCell _ _ _ _ (by simpa using hgne))]; exact z0
  generalize w1.setCell ⟨g, 3, none⟩ (.int .i64 now) = w2 at hb2 hO2 z0 ⊢
  clear z1 x3 f3 hO1 hb1
  have ho2 := ho.tick hn1 hn2
  refine (learn_any { s with now := now } c g w2 f port hb2 ho2).mono ?_
  rintro e w3 ⟨rfl, hb3, hk3⟩
  have hO3 := hO2.then hk3 (fun _ _ h => Or.inl h)
  replace z0 := cell_only hk3 (by show w.heap.size ≠ c; omega) z0
  replace hb3 : BridgeAt w3 c g (s.took f port now) := hb3
  have ho3 : BOk (s.took f port now) := ho2.learn f port
  clear hb2 hk3 hO2 ho2
  go_wp2_with fail
  refine (group_ok t _ HF.out.to).mono ?_
  rintro e _ ⟨rfl, rfl⟩
  go_wp2_with fail
  rw [hs2] at hb3 ho3
  refine (port_any s2 c g _ t now hb3 ho3).mono ?_
  rintro e w4 ⟨rfl, hk4⟩
  have hO4 := hO3.then hk4 (fun _ _ h => h.elim)
  replace hb3 := hb3.only hk4
  have x0 := blk_cell hb3.1 0
  simp only [List.getElem?_toArray, List.getElem?_cons_zero, List.getElem?_cons_succ] at x0
  have hports : s2.ports = s.ports := by rw [← hs2]; rfl
  rw [hkb, hat]
  clear hkb hat hgr hs2
  rw [hports] at x0
  clear hk4 hO3 z0 hports
  have hp1 := ho.p1
  have hp2 := ho.p2
  obtain ⟨i0, hi, hz0, hz1, hz2⟩ := info_parts info3
  have hcw : c < w.heap.size := hb0c
  have hsn : ∀ row : Option Nat, ∀ i, i < w.heap.size → ∀ v l, OwnL w4 w.heap.size v l → True := fun _ _ _ _ _ _ => trivial
  clear hsn
  clear ho ho3 HF
  go_wp2_with fail
  go_loopw [67, 16] (fun i v wr => ∃ j : Nat, i = .int .i64 j ∧ (j : Int) ≤ s.ports ∧ OwnL wr w.heap.size v (roads port gr kb at_ j) ∧ BridgeAt wr c g s2 ∧ Only (fun k => k = c ∨ k = g) w wr) (fun i _ _ => 16 - (intOf i).toNat)
  case atStart => exact ⟨0, rfl, by omega, OwnL.nil _ _, hb3, hO4⟩
  case round =>
    clear hb3 hO4 x0
    obtain ⟨j, rfl, hj, hown, hb3, hO4⟩ := hrel
    have hlen := roads_len port gr kb at_ j
    by_cases hlt : (j : Int) < s.ports
    · cases h1 : ((j : Int) != port) with
      | false =>
        have hs : roads port gr kb at_ (j + 1) = roads port gr kb at_ j := by rw [roads_succ, if_neg (by unfold roadB; simp [h1])]; simp
        go_wp2_with fail
        go_roundw
        case rel => exact ⟨j + 1, by go_num, by omega, by rw [hs]; exact hown, hb3, hO4⟩
        case measure => simp [intOf]; omega
      | true =>
        cases gr with
        | true =>
          have hs : roads port true kb at_ (j + 1) = roads port true kb at_ j ++ [(j : Int)] := by rw [roads_succ, if_pos (by unfold roadB; simp [h1])]
          go_wp2_with (at_builtin; refine wpList_append_own _ rfl _ _ 34 rfl w.heap.size 3 i0 (.int .i64 0) 1 8 Try.underlying34 hi hz0 hz1 hz2 rfl (by decide) _ _ _ rfl (hown.alloc _) ⟨wr.heap.size, 0, none⟩ 1 1 [.int .i64 (j : Int)] rfl rfl (cell_one_new _ _ _) (by simp [Value.oneCell']) (by simp only [maxLen]; omega) (by omega) (by have := hO4.size; rw [World.size_alloc]; omega) ?_; intro v2 w5 hown2 hg2 _)
          have hO5 : Only (fun k => k = c ∨ k = g) w w5 := (hO4.alloc _).then (.of_grown hg2) (fun i hi e => by have := (hown.lt i e.symm).1; omega)
          have hb5 : BridgeAt w5 c g s2 := by
            have hk := Only.of_grown hg2
            have hba := hb3.only ((Only.refl (fun _ => False) wr).alloc (.cells #[.int .i64 (j : Int)] 3))
            exact ⟨hk.at hba.1 (fun e => by have := (hown.lt g e.symm).1; omega), hba.2.1.only hk (fun e => by have := (hown.lt c e.symm).1; omega), hba.2.2⟩
          have hown3 : OwnL w5 w.heap.size v2 (roads port true kb at_ (j + 1)) := by
            rw [hs]
            unfold OwnL
            rw [List.length_append, List.map_append]
            exact hown2
          go_roundw
          case rel => exact ⟨j + 1, by go_num, by omega, hown3, hb5, hO5⟩
          case measure => simp [intOf]; omega
        | false =>
          cases kb with
          | false =>
            have hs : roads port false false at_ (j + 1) = roads port false false at_ j ++ [(j : Int)] := by rw [roads_succ, if_pos (by unfold roadB; simp [h1])]
            go_wp2_with (at_builtin; refine wpList_append_own _ rfl _ _ 34 rfl w.heap.size 3 i0 (.int .i64 0) 1 8 Try.underlying34 hi hz0 hz1 hz2 rfl (by decide) _ _ _ rfl (hown.alloc _) ⟨wr.heap.size, 0, none⟩ 1 1 [.int .i64 (j : Int)] rfl rfl (cell_one_new _ _ _) (by simp [Value.oneCell']) (by simp only [maxLen]; omega) (by omega) (by have := hO4.size; rw [World.size_alloc]; omega) ?_; intro v2 w5 hown2 hg2 _)
            have hO5 : Only (fun k => k = c ∨ k = g) w w5 := (hO4.alloc _).then (.of_grown hg2) (fun i hi e => by have := (hown.lt i e.symm).1; omega)
            have hb5 : BridgeAt w5 c g s2 := by
              have hk := Only.of_grown hg2
              have hba := hb3.only ((Only.refl (fun _ => False) wr).alloc (.cells #[.int .i64 (j : Int)] 3))
              exact ⟨hk.at hba.1 (fun e => by have := (hown.lt g e.symm).1; omega), hba.2.1.only hk (fun e => by have := (hown.lt c e.symm).1; omega), hba.2.2⟩
            have hown3 : OwnL w5 w.heap.size v2 (roads port false false at_ (j + 1)) := by
              rw [hs]
              unfold OwnL
              rw [List.length_append, List.map_append]
              exact hown2
            go_roundw
            case rel => exact ⟨j + 1, by go_num, by omega, hown3, hb5, hO5⟩
            case measure => simp [intOf]; omega
          | true =>
            cases h3 : ((j : Int) == at_) with
            | true =>
              have hs : roads port false true at_ (j + 1) = roads port false true at_ j ++ [(j : Int)] := by rw [roads_succ, if_pos (by unfold roadB; simp [h1, h3])]
              go_wp2_with (at_builtin; refine wpList_append_own _ rfl _ _ 34 rfl w.heap.size 3 i0 (.int .i64 0) 1 8 Try.underlying34 hi hz0 hz1 hz2 rfl (by decide) _ _ _ rfl (hown.alloc _) ⟨wr.heap.size, 0, none⟩ 1 1 [.int .i64 (j : Int)] rfl rfl (cell_one_new _ _ _) (by simp [Value.oneCell']) (by simp only [maxLen]; omega) (by omega) (by have := hO4.size; rw [World.size_alloc]; omega) ?_; intro v2 w5 hown2 hg2 _)
              have hO5 : Only (fun k => k = c ∨ k = g) w w5 := (hO4.alloc _).then (.of_grown hg2) (fun i hi e => by have := (hown.lt i e.symm).1; omega)
              have hb5 : BridgeAt w5 c g s2 := by
                have hk := Only.of_grown hg2
                have hba := hb3.only ((Only.refl (fun _ => False) wr).alloc (.cells #[.int .i64 (j : Int)] 3))
                exact ⟨hk.at hba.1 (fun e => by have := (hown.lt g e.symm).1; omega), hba.2.1.only hk (fun e => by have := (hown.lt c e.symm).1; omega), hba.2.2⟩
              have hown3 : OwnL w5 w.heap.size v2 (roads port false true at_ (j + 1)) := by
                rw [hs]
                unfold OwnL
                rw [List.length_append, List.map_append]
                exact hown2
              go_roundw
              case rel => exact ⟨j + 1, by go_num, by omega, hown3, hb5, hO5⟩
              case measure => simp [intOf]; omega
            | false =>
              have hs : roads port false true at_ (j + 1) = roads port false true at_ j := by rw [roads_succ, if_neg (by unfold roadB; simp [h1, h3])]; simp
              go_wp2_with fail
              go_roundw
              case rel => exact ⟨j + 1, by go_num, by omega, by rw [hs]; exact hown, hb3, hO4⟩
              case measure => simp [intOf]; omega
    · have hjp : j = s.ports.toNat := by omega
      go_wp2_with fail
      go_ret2
      exact ⟨_, rfl, by rw [← hjp]; exact hown, hb3, hO4⟩

theorem take_ok (s : BS) (c g : Nat) (w : World) (port t f k now : Int) (d : ByteArray) (hb : BridgeAt w c g s) (ho : BOk s) (hp : 0 ≤ port ∧ port < s.ports) (hn1 : s.now ≤ now) (hn2 : now ≤ 1099511627776) (hf : FrameOk t f k d) :
    Calls Try.prog 10 #[.pointer (some ⟨g, 0, none⟩), .int .i64 port, .agg #[.int .i64 t, .int .i64 f, .int .i64 k, .string d], .int .i64 now] w fun e w' => ∃ v, e = .returned (.tuple #[v, .int .i64 0]) ∧ OwnL w' w.heap.size v (roads port (groupB t) ((s.took f port now).find t now).isSome (((s.took f port now).find t now).getD 0) s.ports.toNat) ∧ BridgeAt w' c g (s.took f port now) ∧ Only (fun k => k = c ∨ k = g) w w' :=
  take_core s c g w port t f k now d hb ho hp hn1 hn2 hf _ _ _ _ rfl rfl rfl rfl

end Go.Proofs.Ytkmnjlegmgohfaa

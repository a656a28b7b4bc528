/-
  The walk of the law BridgeRoom.
  No conditions.
-/
import Derived.Test.YtkmnjlegmgohfaaRoomLaw
import Derived.Test.YtkmnjlegmgohfaaOpen
set_option linter.unusedVariables false
set_option linter.unusedSimpArgs false
namespace Go.Proofs.Ytkmnjlegmgohfaa
open Go.RowKit

theorem int1_cells {cs : List Value} (h : CellsAre [.i] cs) : ∃ x : Int, cs = [.int .i64 x] ∧ (Lit.int .i64 x).wf = true := by
  obtain ⟨x, _, rfl, hx, h1⟩ := h.i
  rw [h1.nil]
  exact ⟨x, rfl, hx⟩

theorem und_mapib : Try.prog.underlying 43 = some (.map 3 4) := by kernel_rfl
theorem zero_bool (w : World) : (zeroValue 4).run Try.prog w = .ok (.bool false) w := by kernel_rfl

set_option maxHeartbeats 4000000 in
set_option maxRecDepth 100000 in
theorem room_walk (W : World) (r : Int) (wr0 : (Lit.int .i64 r).wf = true) (v : Value) (n : Nat) (f : Nat → List Value) (h : SlIs W [.i] v n f) :
    Calls Try.prog 4 #[.int .i64 r, v] W fun e W' => e = .returned (.bool true) ∧ Below W.heap.size W W' := by
  obtain ⟨⟨a, cap, rfl, hle, hat⟩, hcells, hsmall⟩ := h
  obtain ⟨froms, hfroms⟩ := Deep.choose_lt (fun i hi => int1_cells (hcells i hi))
  replace hfroms := Lib.hid hfroms
  clear hcells
  simp only [List.length_cons, List.length_nil, reachB] at hsmall
  have hmm := @run_makeMap Try.prog
  go_enter Try.func4, Try.ntmps4
  go_wp2_with fail
  refine (among_any r 6 _ wr0 (by omega) (by omega)).mono ?_
  rintro e _ ⟨rfl, rfl⟩
  have r0 : 1 ≤ 1 + r % 6 := by omega
  have r1 : 1 + r % 6 ≤ 6 := by omega
  go_wp2_with fail
  refine (new_good 2 1000 (1 + r % 6) _ (by omega) (by omega) (by omega) (by omega) r0 (by omega)).mono ?_
  rintro e w1 ⟨rfl, hb, hk1⟩
  generalize 1 + r % 6 = room at r0 r1 hb ⊢
  have hrm := RM.new room r0 r1
  have hlt : W.heap.size + 1 < w1.heap.size := heap_lt hb.1
  have hcg : W.heap.size ≠ W.heap.size + 1 := by omega
  generalize hc : W.heap.size = c at hb hcg hlt
  generalize hg : c + 1 = g at hb hcg hlt ⊢
  generalize (⟨2, 1000, room, 0, []⟩ : BS) = s0 at hb hrm
  go_wp2_with fail
  refine (works_any _).mono ?_
  rintro e w2 ⟨rfl, hk2⟩
  replace hb := hb.only hk2
  have hK := hk1.trans hk2
  have hsz2 := hk2.size
  clear hk1 hk2
  go_wp2_with fail
  have hm1 : MapI (w2.alloc (.map #[] 0)) w2.heap.size [] := MapI.made w2
  have hka := (Only.refl (fun _ => False) w2).alloc (.map #[] 0)
  replace hb := hb.only hka
  replace hK := hK.trans hka
  have hgw2 : g < w2.heap.size := by omega
  generalize w2.alloc (.map #[] 0) = w3 at hm1 hka hb hK ⊢
  generalize hbh : w2.heap.size = bh at *
  clear hka
  go_loopw [8] (fun i wr => ∃ (k : Nat) (s : BS) (K : List (Int × Value)), i = .int .i64 k ∧ k ≤ n ∧ k ≤ 60 ∧ RM k s K room ∧ BridgeAt wr c g s ∧ MapI wr bh K ∧ Only (fun _ => False) W wr) (fun i _ => 60 - (intOf i).toNat)
  case atStart => exact ⟨0, s0, [], rfl, by omega, by omega, hrm, hb, hm1, hK⟩
  case round =>
    clear hb hm1 hK hrm
    obtain ⟨k, s, K, rfl, hkn, hk60, hst, hb, hmh, hK⟩ := hrel
    by_cases hin : k < n ∧ k < 60
    · obtain ⟨hin, hi60⟩ := hin
      have HS := Lib.hid hst
      clear hst
      obtain ⟨b, off, rfl, hbW, hat⟩ := hat (by omega)
      have hc0 := hat k hin 0 (by decide)
      obtain ⟨hl, hw1⟩ := hfroms.out k hin
      rw [hl] at hc0
      clear hat hl
      generalize froms k = x at hc0 hw1
      have y0 : wr.cell? ⟨b, off + k, none⟩ = some (.int .i64 x) := by
        rw [World.cell?_of_block (w := W) (w' := wr) (a := ⟨b, off + k, none⟩) (hK.block b hbW (fun h => h))]
        simpa using hc0
      clear hc0 hfroms hbW
      go_wp2_with fail
      refine (among_any x 20 _ hw1 (by omega) (by omega)).mono ?_
      rintro e _ ⟨rfl, rfl⟩
      have f0 : 0 ≤ x % 20 := by omega
      have f1 : x % 20 < 20 := by omega
      generalize x % 20 = fr at f0 f1 ⊢
      go_wp2_with fail
      have hbp : g < wr.heap.size ∧ c < wr.heap.size ∧ bh < wr.heap.size := ⟨heap_lt hb.1, hb.2.1.lt, hmh.lt⟩
      have hgr : groupB fr = false := by
        unfold groupB
        rw [show fr / 1099511627776 = 0 from by omega]; rfl
      obtain ⟨hst4, hfind, hkl⟩ := HS.out.step hi60 r0 r1 (f := fr) (p := (k : Int) % 2) f0 f1
      refine (take_ok s c g _ ((k : Int) % 2) 99 fr 2048 k ⟨#[]⟩ hb HS.out.ok ⟨by omega, by rw [HS.out.po]; omega⟩ HS.out.nw (by omega) ⟨⟨by omega, by omega⟩, ⟨f0, by omega⟩, hgr, by omega, by omega, by decide⟩).mono ?_
      rintro e w4 ⟨v, rfl, hown, hb4, hk4⟩
      replace hmh := hmh.only hk4 (by omega)
      have hK4 := hK.then hk4 (by intro i hi h; omega)
      generalize s.took fr ((k : Int) % 2) k = s4 at hst4 hfind hkl hb4
      clear hown hb HS hk4 hK y0 hgr
      have hlen4 := hmh.len (P := Try.prog) und_mapib 3
      have hbne : c ≠ bh ∧ g ≠ bh := by omega
      by_cases hKr : (K.length : Int) < room
      · have hRP : roomPut K room fr = putI K fr (.bool true) := if_pos hKr
        have hd : decide ((K.length : Int) < room) = true := by simpa using hKr
        replace hfind := Lib.hid hfind
        replace hkl := Lib.hid hkl
        replace hRP := Lib.hid hRP
        replace hst4 := Lib.hid hst4
        clear hKr
        go_wp2_with (at_mapUpdate; refine wpList_put_I _ rfl _ _ _ 43 rfl 3 4 und_mapib und_int bh _ rfl hmh _ (.bool true) rfl rfl ?_; intro w5 hm5 hk5 hz5)
        replace hfind := hfind.out
        replace hkl := hkl.out
        replace hRP := hRP.out
        replace hst4 := hst4.out
        have hb5 : BridgeAt w5 c g s4 := ⟨hk5.at hb4.1 hbne.2, hb4.2.1.only hk5 hbne.1, hb4.2.2⟩
        have hK5 := hK4.then hk5 (by intro i hi h; omega)
        clear hb4 hk5 hK4 hmh hlen4 hd hz5
        have hb5 := hb5
        generalize hK2 : roomPut K room fr = K2 at hst4 hfind hkl
        rw [hRP] at hK2
        rw [hK2] at hm5
        clear hK2 hRP
        have hval := hst4.val fr
        have hdl := hst4.le
        have hll := hst4.len
        have hkw : ∀ p ∈ s4.L, (Lit.int .i64 p.1).wf = true := fun p hp => by have := hst4.keys p hp; simp [Lit.wf, IntKind.min, IntKind.max, IntKind.bits, IntKind.signed]; omega
        have hl6 : s4.L.length ≤ 1024 := by omega
        have hne : (((s4.known k).length : Int) != (K2.length : Int)) = false := by rw [hkl]; simp
        have HST := Lib.hid hst4
        have HKW := Lib.hid hkw
        have HKL := Lib.hid hkl
        clear hst4 hkw hkl hdl hll
        go_wp2_with fail
        refine (port_any s4 c g _ fr k hb5 HST.out.ok).mono ?_
        rintro e w6 ⟨rfl, hk6⟩
        replace hb5 := hb5.only hk6
        replace hm5 := hm5.only hk6 (fun h => h)
        replace hK5 := hK5.trans hk6
        clear hk6
        rw [hfind]
        have hlk := hm5.look (P := Try.prog) und_mapib und_int (zero_bool _) fr false
        simp only [Bool.false_eq_true, if_false] at hlk
        cases hv : getI K2 fr with
        | none =>
          rw [hv] at hlk
          simp only [Option.getD_none] at hlk
          simp only [Option.isSome_none, Bool.false_eq_true, if_false, Option.getD_none]
          clear hv hval hfind
          go_wp2_with (go_at_call 15; refine (known_any s4 c g _ k hb5 HST.out.ok HKW.out hl6).mono ?_; rintro e w7 ⟨a2, cap2, rfl, hla, hna, hk7⟩; have hlen7 := (hm5.only hk7 (fun h => h)).len (P := Try.prog) und_mapib 3)
          go_roundw
          case rel => exact ⟨k + 1, s4, K2, by go_num, by omega, by omega, HST.out, hb5.only hk7, hm5.only hk7 (fun h => h), hK5.trans hk7⟩
          case measure => simp [intOf]; omega
        | some u =>
          obtain rfl := hval u hv
          rw [hv] at hlk
          simp only [Option.getD_some] at hlk
          simp only [Option.isSome_some, if_true, Option.getD_some]
          clear hv hval hfind
          go_wp2_with (go_at_call 15; refine (known_any s4 c g _ k hb5 HST.out.ok HKW.out hl6).mono ?_; rintro e w7 ⟨a2, cap2, rfl, hla, hna, hk7⟩; have hlen7 := (hm5.only hk7 (fun h => h)).len (P := Try.prog) und_mapib 3)
          go_roundw
          case rel => exact ⟨k + 1, s4, K2, by go_num, by omega, by omega, HST.out, hb5.only hk7, hm5.only hk7 (fun h => h), hK5.trans hk7⟩
          case measure => simp [intOf]; omega
      · have hRP : roomPut K room fr = K := if_neg hKr
        have hd : decide ((K.length : Int) < room) = false := by simpa using hKr
        have hm5 := hmh
        have hb5 := hb4
        have hK5 := hK4
        clear hb4 hK4 hmh hKr
        have hb5 := hb5
        generalize hK2 : roomPut K room fr = K2 at hst4 hfind hkl
        rw [hRP] at hK2
        rw [hK2] at hm5
        clear hK2 hRP
        have hval := hst4.val fr
        have hdl := hst4.le
        have hll := hst4.len
        have hkw : ∀ p ∈ s4.L, (Lit.int .i64 p.1).wf = true := fun p hp => by have := hst4.keys p hp; simp [Lit.wf, IntKind.min, IntKind.max, IntKind.bits, IntKind.signed]; omega
        have hl6 : s4.L.length ≤ 1024 := by omega
        have hne : (((s4.known k).length : Int) != (K2.length : Int)) = false := by rw [hkl]; simp
        have HST := Lib.hid hst4
        have HKW := Lib.hid hkw
        have HKL := Lib.hid hkl
        clear hst4 hkw hkl hdl hll
        go_wp2_with fail
        refine (port_any s4 c g _ fr k hb5 HST.out.ok).mono ?_
        rintro e w6 ⟨rfl, hk6⟩
        replace hb5 := hb5.only hk6
        replace hm5 := hm5.only hk6 (fun h => h)
        replace hK5 := hK5.trans hk6
        clear hk6
        rw [hfind]
        have hlk := hm5.look (P := Try.prog) und_mapib und_int (zero_bool _) fr false
        simp only [Bool.false_eq_true, if_false] at hlk
        cases hv : getI K2 fr with
        | none =>
          rw [hv] at hlk
          simp only [Option.getD_none] at hlk
          simp only [Option.isSome_none, Bool.false_eq_true, if_false, Option.getD_none]
          clear hv hval hfind
          go_wp2_with (go_at_call 15; refine (known_any s4 c g _ k hb5 HST.out.ok HKW.out hl6).mono ?_; rintro e w7 ⟨a2, cap2, rfl, hla, hna, hk7⟩; have hlen7 := (hm5.only hk7 (fun h => h)).len (P := Try.prog) und_mapib 3)
          go_roundw
          case rel => exact ⟨k + 1, s4, K2, by go_num, by omega, by omega, HST.out, hb5.only hk7, hm5.only hk7 (fun h => h), hK5.trans hk7⟩
          case measure => simp [intOf]; omega
        | some u =>
          obtain rfl := hval u hv
          rw [hv] at hlk
          simp only [Option.getD_some] at hlk
          simp only [Option.isSome_some, if_true, Option.getD_some]
          clear hv hval hfind
          go_wp2_with (go_at_call 15; refine (known_any s4 c g _ k hb5 HST.out.ok HKW.out hl6).mono ?_; rintro e w7 ⟨a2, cap2, rfl, hla, hna, hk7⟩; have hlen7 := (hm5.only hk7 (fun h => h)).len (P := Try.prog) und_mapib 3)
          go_roundw
          case rel => exact ⟨k + 1, s4, K2, by go_num, by omega, by omega, HST.out, hb5.only hk7, hm5.only hk7 (fun h => h), hK5.trans hk7⟩
          case measure => simp [intOf]; omega
    · by_cases hkn' : k < n
      all_goals
        go_wp2_with fail
        go_ret
        exact ⟨rfl, hK.below (by omega) (fun _ _ h => h)⟩

end Go.Proofs.Ytkmnjlegmgohfaa

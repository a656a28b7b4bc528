/-
  The walk of the law BridgeDown.
  No conditions.
-/
import Derived.Test.YtkmnjlegmgohfaaDownLaw
import Derived.Test.YtkmnjlegmgohfaaOpen
import Derived.StillTailTactics
set_option linter.unusedVariables false
set_option linter.unusedSimpArgs false
namespace Go.Proofs.Ytkmnjlegmgohfaa
open Go.RowKit

theorem act10_down {cs : List Value} (h : CellsAre [.i, .i, .i, .i, .i, .i, .s] cs) : ∃ (x : (Int × Int × Int) × (Int × Int × Int)) (d : ByteArray), cs = [.int .i64 x.1.1, .int .i64 x.1.2.1, .int .i64 x.1.2.2, .int .i64 x.2.1, .int .i64 x.2.2.1, .int .i64 x.2.2.2, .string d] ∧ (Lit.int .i64 x.1.2.1).wf = true := by
  obtain ⟨a1, _, rfl, w1, h1⟩ := h.i
  obtain ⟨a2, _, rfl, w2, h2⟩ := h1.i
  obtain ⟨a3, _, rfl, w3, h3⟩ := h2.i
  obtain ⟨a4, _, rfl, w4, h4⟩ := h3.i
  obtain ⟨a5, _, rfl, w5, h5⟩ := h4.i
  obtain ⟨a6, _, rfl, w6, h6⟩ := h5.i
  obtain ⟨d, _, rfl, hd, h7⟩ := h6.s
  rw [h7.nil]
  exact ⟨((a1, a2, a3), (a4, a5, a6)), d, rfl, w2⟩

theorem und_mapii' : Try.prog.underlying 28 = some (.map 3 3) := by kernel_rfl
theorem zero_int' (w : World) : (zeroValue 3).run Try.prog w = .ok (.int .i64 0) w := by kernel_rfl

set_option maxHeartbeats 4000000 in
set_option maxRecDepth 100000 in
theorem down_walk (W : World) (v : Value) (n : Nat) (f : Nat → List Value) (h : SlIs W [.i, .i, .i, .i, .i, .i, .s] v n f) (pt0 : Int) (wpt : (Lit.int .i64 pt0).wf = true) :
    Calls Try.prog 6 #[v, .int .i64 pt0] W fun e W' => e = .returned (.bool true) ∧ Below W.heap.size W W' := by
  obtain ⟨⟨a, cap, rfl, hle, hat⟩, hcells, hsmall⟩ := h
  obtain ⟨acts, hacts⟩ := Deep.choose_lt (fun i hi => act10_down (hcells i hi))
  replace hacts := Lib.hid hacts
  clear hcells
  simp only [List.length_cons, List.length_nil, reachB] at hsmall
  have hmm := @run_makeMap Try.prog
  go_enter Try.func6, Try.ntmps6
  go_wp2_with fail
  refine (new_good 4 1000 200 _ (by omega) (by omega) (by omega) (by omega) (by omega) (by omega)).mono ?_
  rintro e w1 ⟨rfl, hb, hk1⟩
  have hst := RD.new
  have hlt : W.heap.size + 1 < w1.heap.size := heap_lt hb.1
  have hcg : W.heap.size ≠ W.heap.size + 1 := by omega
  generalize hc : W.heap.size = c at hb hcg hlt
  generalize hg : c + 1 = g at hb hcg hlt ⊢
  generalize (⟨4, 1000, 200, 0, []⟩ : BS) = s0 at hb hst
  go_wp2_with fail
  refine (works_any _).mono ?_
  rintro e w2 ⟨rfl, hk2⟩
  replace hb := hb.only hk2
  have hK := hk1.trans hk2
  clear hk1 hk2
  go_wp2_with fail
  refine (among_any pt0 4 _ wpt (by omega) (by omega)).mono ?_
  rintro e _ ⟨rfl, rfl⟩
  have p0 : 0 ≤ pt0 % 4 := by omega
  have p1 : pt0 % 4 < 4 := by omega
  generalize pt0 % 4 = port at p0 p1 ⊢
  go_wp2_with fail
  go_loopw [7] (fun i wr => ∃ (k : Nat) (s : BS), i = .int .i64 k ∧ k ≤ n ∧ k ≤ 40 ∧ RD k s ∧ BridgeAt wr c g s ∧ Only (fun _ => False) W wr) (fun i _ => 40 - (intOf i).toNat)
  case atStart => exact ⟨0, s0, rfl, by omega, by omega, hst, hb, hK⟩
  case round =>
    clear hb hK hst
    obtain ⟨k, s, rfl, hkn, hk40, hst, hb, hK⟩ := hrel
    have HS := Lib.hid hst
    clear hst
    by_cases hin : k < n ∧ k < 40
    · obtain ⟨hin, hi40⟩ := hin
      obtain ⟨b, off, rfl, hbW, hat⟩ := hat (by omega)
      have hc1 := hat k hin 1 (by decide)
      have hc3 := hat k hin 3 (by decide)
      have hc4 := hat k hin 4 (by decide)
      have hc5 := hat k hin 5 (by decide)
      have hc6 := hat k hin 6 (by decide)
      obtain ⟨d, hl, hw1⟩ := hacts.out k hin
      rw [hl] at hc1 hc3 hc4 hc5 hc6
      clear hat hl
      generalize acts k = x at hc1 hc3 hc4 hc5 hc6 hw1
      obtain ⟨⟨ki, pt, nw0⟩, to, fr, ty⟩ := x
      have hbl := hK.block b hbW (fun h => h)
      go_wp2_with fail
      refine wp_region_still_tail 13 (by kernel_rfl) (by kernel_rfl) ?_
      simp only [List.take_succ_cons, List.take_zero, List.drop_succ_cons, List.drop_zero]
      change wpStill _ _ (wr.drew) (fun a' => wpList _ _ _ _ _ (wr.drew)) _ _
      have y1 : wr.drew.cell? ⟨b, off + k * 7 + 1, none⟩ = some (.int .i64 pt) := by
        show wr.cell? ⟨b, off + k * 7 + 1, none⟩ = _
        rw [World.cell?_of_block (w := W) (w' := wr) (a := ⟨b, off + k * 7 + 1, none⟩) hbl]; exact hc1
      have y3 : wr.drew.cell? ⟨b, off + k * 7 + 3, none⟩ = some (.int .i64 to) := by
        show wr.cell? ⟨b, off + k * 7 + 3, none⟩ = _
        rw [World.cell?_of_block (w := W) (w' := wr) (a := ⟨b, off + k * 7 + 3, none⟩) hbl]; exact hc3
      have y4 : wr.drew.cell? ⟨b, off + k * 7 + 4, none⟩ = some (.int .i64 fr) := by
        show wr.cell? ⟨b, off + k * 7 + 4, none⟩ = _
        rw [World.cell?_of_block (w := W) (w' := wr) (a := ⟨b, off + k * 7 + 4, none⟩) hbl]; exact hc4
      have y5 : wr.drew.cell? ⟨b, off + k * 7 + 5, none⟩ = some (.int .i64 ty) := by
        show wr.cell? ⟨b, off + k * 7 + 5, none⟩ = _
        rw [World.cell?_of_block (w := W) (w' := wr) (a := ⟨b, off + k * 7 + 5, none⟩) hbl]; exact hc5
      have y6 : wr.drew.cell? ⟨b, off + k * 7 + 6, none⟩ = some (.string d) := by
        show wr.cell? ⟨b, off + k * 7 + 6, none⟩ = _
        rw [World.cell?_of_block (w := W) (w' := wr) (a := ⟨b, off + k * 7 + 6, none⟩) hbl]; exact hc6
      have hbp : g < wr.heap.size ∧ c < wr.heap.size := ⟨heap_lt hb.1, hb.2.1.lt⟩
      replace hb : BridgeAt wr.drew c g s := hb
      replace hK : Only (fun _ => False) W wr.drew := hK.drew
      generalize wr.drew = wd at y1 y3 y4 y5 y6 hb hK ⊢
      clear hc1 hc3 hc4 hc5 hc6 hbl hacts hbW
      repeat still_step
      still_call (among_any pt 4 _ hw1 (by omega) (by omega)).mono fun e w' h => ⟨h.1, h.2.symm⟩
      repeat still_step
      refine wpStill_nil ?_
      have q0 : 0 ≤ pt % 4 := by omega
      have q1 : pt % 4 < 4 := by omega
      generalize pt % 4 = pp at q0 q1 ⊢
      clear y1 y3 y4 y5 y6
      go_wp2_with fail
      by_cases hf : FrameOk to fr ty d
      · have HF := Lib.hid hf
        clear hf
        refine (take_ok s c g _ pp to fr ty k d hb HS.out.ok ⟨q0, by rw [HS.out.po]; exact q1⟩ HS.out.nw (by omega) HF.out).mono ?_
        rintro e w4 ⟨v, rfl, hown, hb4, hk4⟩
        clear hown
        go_wp2_with fail
        go_roundw
        case rel => exact ⟨k + 1, _, by go_num, by omega, by omega, HS.out.good hi40 HF.out.fr, hb4, hK.then hk4 (by intro i hi h; omega)⟩
        case measure => simp [intOf]; omega
      · have HF := Lib.hid hf
        clear hf
        refine (take_frame s c g _ pp to fr ty k d hb HS.out.ok ⟨q0, by rw [HS.out.po]; exact q1⟩ HS.out.nw (by omega) HF.out).mono ?_
        rintro e w4 ⟨rfl, hk4⟩
        go_wp2_with fail
        go_roundw
        case rel => exact ⟨k + 1, s, by go_num, by omega, by omega, HS.out.bad, hb.only hk4, hK.trans hk4⟩
        case measure => simp [intOf]; omega
    · by_cases hkn' : k < n
      all_goals
        clear hat hacts
        go_wp2_with fail
        have hbp : g < wr.heap.size ∧ c < wr.heap.size := ⟨heap_lt hb.1, hb.2.1.lt⟩
        have hm : MapI (wr.alloc (.map #[] 0)) wr.heap.size [] := MapI.made wr
        have hka := (Only.refl (fun _ => False) wr).alloc (.map #[] 0)
        replace hb := hb.only hka
        replace hK := hK.trans hka
        have hWb : W.heap.size ≤ wr.heap.size := by omega
        generalize wr.alloc (.map #[] 0) = wa at hm hka hb hK ⊢
        generalize wr.heap.size = bh at hm hbp hWb ⊢
        clear hka
        have hkw : ∀ p ∈ s.L, (Lit.int .i64 p.1).wf = true := fun p hp => by have := HS.out.rng p hp; simp [Lit.wf, IntKind.min, IntKind.max, IntKind.bits, IntKind.signed]; omega
        have hl40 : s.L.length ≤ 40 := by have := HS.out.len; omega
        refine (known_any s c g wa 50 hb HS.out.ok hkw (by omega)).mono ?_
        rintro e w4 ⟨a2, cap2, rfl, hla, hna, hk4⟩
        replace hb := hb.only hk4
        replace hK := hK.trans hk4
        have hna' : ∀ ad : Addr, a2 = some ad → ad.block ≠ bh ∧ ad.block ≠ c := fun ad e => by have := hna ad e; have := hm.lt; omega
        replace hm := hm.only hk4 (fun h => h)
        obtain ⟨l, hle⟩ : ∃ l, s.known 50 = l := ⟨_, rfl⟩
        rw [hle] at hla
        rw [hle]
        have HLE := Lib.hid hle
        clear hle hk4 hna hkw
        have HNA := Lib.hid hna'
        clear hna'
        have hasm : l.length ≤ 1099511627776 := hla.small
        go_wp2_with fail
        go_loopw [63] (fun i wr => ∃ (j : Nat) (A : List (Int × Value)), i = .int .i64 j ∧ j ≤ l.length ∧ BridgeAt wr c g s ∧ MapI wr bh A ∧ ListAt wr a2 cap2 l ∧ (∀ i, i < j → getI A (l.getD i 0) = some (.int .i64 (s.portOf (l.getD i 0)))) ∧ Only (fun _ => False) W wr) (fun i _ => l.length - (intOf i).toNat)
        case atStart => exact ⟨0, [], rfl, by omega, hb, hm, hla, by intro i hi; omega, hK⟩
        case round =>
          clear hb hm hla hK
          obtain ⟨j, A, rfl, hj, hb, hm, hla, hA, hK⟩ := hrel
          have HA := Lib.hid hA
          clear hA
          by_cases hlt : j < l.length
          · obtain ⟨⟨lb, lo, lsp⟩, rfl, hsp, hcell⟩ := hla.at_ j hlt
            simp only at hsp hcell
            subst hsp
            have hmem : l.getD j 0 ∈ s.known 50 := by
              rw [HLE.out]
              simp only [List.getD, List.getElem?_eq_getElem hlt, Option.getD_some]
              exact List.getElem_mem hlt
            generalize hx : l.getD j 0 = x at hcell hmem
            have HX := Lib.hid hx
            have hfnd := (HS.out.asked port hmem).1
            have HLA := Lib.hid hla
            have hbc := hb.2.1.lt
            clear hx hmem hla
            go_wp2_with fail
            refine (port_any s c g _ x 50 hb HS.out.ok).mono ?_
            rintro e w5 ⟨rfl, hk5⟩
            replace hb := hb.only hk5
            replace hm := hm.only hk5 (fun h => h)
            replace hK := hK.trans hk5
            have hla5 := HLA.out.only hk5 (fun _ _ h => h)
            rw [hfnd]
            clear hk5 hfnd hcell HLA
            simp only [Option.getD_some, Option.isSome_some]
            have hla5 := Lib.hid hla5
            go_wp2_with (at_mapUpdate; refine wpList_put_I _ rfl _ _ _ 28 rfl 3 3 und_mapii' und_int bh _ rfl hm _ (.int .i64 (s.portOf x)) rfl rfl ?_; intro w6 hm6 hk6 hz6)
            go_roundw
            case rel =>
              refine ⟨j + 1, _, by go_num, by omega, ⟨hk6.at hb.1 (fun e => by omega), hb.2.1.only hk6 (fun e => by omega), hb.2.2⟩, hm6, hla5.out.only hk6 (fun ad e h => (HNA.out ad e).1 h), fun i hi => ?_, hK.then hk6 (by intro i hi h; omega)⟩
              rw [getI_putI]
              split
              · rename_i he; rw [he]
              · rename_i he
                rcases Nat.lt_succ_iff_lt_or_eq.1 hi with h1 | h1
                · exact HA.out i h1
                · subst h1; exact absurd HX.out he
            case measure => simp [intOf]; omega
          · obtain rfl : j = l.length := by omega
            have HLA := Lib.hid hla
            clear hla
            go_wp2_with fail
            refine (down_any s c g _ port hb ⟨p0, by rw [HS.out.po]; exact p1⟩).mono ?_
            rintro e w5 ⟨rfl, hb5, hk5⟩
            have hm5 := hm.only hk5 (by omega)
            have hla5 := HLA.out.only hk5 (fun ad e h => (HNA.out ad e).2 h)
            have hK5 := hK.then hk5 (by intro i hi h; omega)
            clear hb hm hK hk5 HLA
            go_wp2_with fail
            have hcl : ∀ j, (l.take j).countP (fun a => s.portOf a != port) ≤ l.length := fun j => Nat.le_trans List.countP_le_length (by rw [List.length_take]; omega)
            have HCL := Lib.hid hcl
            clear hcl
            go_loopw [82, 12] (fun i lf wr => ∃ (j : Nat), i = .int .i64 j ∧ lf = .int .i64 ((l.take j).countP (fun a => s.portOf a != port) : Nat) ∧ j ≤ l.length ∧ BridgeAt wr c g (s.down port) ∧ MapI wr bh A ∧ ListAt wr a2 cap2 l ∧ Only (fun _ => False) W wr) (fun i _ _ => l.length - (intOf i).toNat)
            case atStart => exact ⟨0, rfl, rfl, by omega, hb5, hm5, hla5, hK5⟩
            case round =>
              clear hb5 hm5 hla5 hK5
              obtain ⟨j, rfl, rfl, hj, hb, hm, hla, hK⟩ := hrel
              by_cases hlt : j < l.length
              · obtain ⟨⟨lb, lo, lsp⟩, rfl, hsp, hcell⟩ := hla.at_ j hlt
                simp only at hsp hcell
                subst hsp
                have hmem : l.getD j 0 ∈ s.known 50 := by
                  rw [HLE.out]
                  simp only [List.getD, List.getElem?_eq_getElem hlt, Option.getD_some]
                  exact List.getElem_mem hlt
                have hat := HA.out j hlt
                have hcs : (l.take (j + 1)).countP (fun a => s.portOf a != port) = (l.take j).countP (fun a => s.portOf a != port) + (if (s.portOf (l.getD j 0) != port) = true then 1 else 0) := by
                  rw [List.take_add_one, List.countP_append, List.getElem?_eq_getElem hlt]
                  simp [List.getD, hlt, List.countP_cons]
                have hcb := HCL.out j
                generalize hcv : (l.take j).countP (fun a => s.portOf a != port) = cv at hcs hcb ⊢
                generalize hx : l.getD j 0 = x at hcell hmem hat hcs
                have hfnd := (HS.out.asked port hmem).2
                generalize s.portOf x = px at hat hcs hfnd
                have hlk := hm.look (P := Try.prog) und_mapii' und_int (zero_int' _) x false
                rw [hat] at hlk
                simp only [Bool.false_eq_true, if_false, Option.getD_some] at hlk
                have HLA := Lib.hid hla
                clear hx hmem hla hat hcv
                go_wp2_with fail
                refine (port_any (s.down port) c g _ x 50 hb (HS.out.ok.down port)).mono ?_
                rintro e w6 ⟨rfl, hk6⟩
                have hb6 := hb.only hk6
                have hm6 := hm.only hk6 (fun h => h)
                have hK6 := hK.trans hk6
                have hla6 := HLA.out.only hk6 (fun _ _ h => h)
                rw [hfnd]
                clear hk6 hfnd hcell HLA hlk hb hm hK
                replace hla6 := Lib.hid hla6
                by_cases hpp : px = port
                · rw [if_pos hpp]
                  rw [if_neg (by simp [hpp])] at hcs
                  have HCS := Lib.hid hcs
                  have b1 : (px != port) = false := by simp [hpp]
                  clear hcs hpp
                  simp only [Option.getD_none, Option.isSome_none]
                  go_wp2_with fail
                  go_roundw
                  case rel => exact ⟨j + 1, by go_num, by rw [HCS.out]; rfl, by omega, hb6, hm6, hla6.out, hK6⟩
                  case measure => simp [intOf]; omega
                · rw [if_neg hpp]
                  rw [if_pos (by simpa using hpp)] at hcs
                  have HCS := Lib.hid hcs
                  have b1 : (px != port) = true := by simpa using hpp
                  clear hcs hpp
                  simp only [Option.getD_some, Option.isSome_some]
                  go_wp2_with fail
                  go_roundw
                  case rel => exact ⟨j + 1, by go_num, by rw [HCS.out]; go_num, by omega, hb6, hm6, hla6.out, hK6⟩
                  case measure => simp [intOf]; omega
              · obtain rfl : j = l.length := by omega
                have hcnt := HS.out.count port
                rw [HLE.out] at hcnt
                have htl : (l.take l.length).countP (fun a => s.portOf a != port) = ((s.down port).known 50).length := by rw [List.take_length]; exact hcnt
                rw [htl]
                have hkw : ∀ p ∈ (s.down port).L, (Lit.int .i64 p.1).wf = true := fun p hp => by have := HS.out.rng p (List.mem_filter.1 hp).1; simp [Lit.wf, IntKind.min, IntKind.max, IntKind.bits, IntKind.signed]; omega
                have hl2 : (s.down port).L.length ≤ 1024 := Nat.le_trans (List.length_filter_le _ _) (by omega)
                have HLA := Lib.hid hla
                clear hla hcnt htl
                go_wp2_with fail
                refine (known_any (s.down port) c g _ 50 hb (HS.out.ok.down port) hkw hl2).mono ?_
                rintro e w7 ⟨a3, cap3, rfl, hla3, hna3, hk7⟩
                have hq : (((((s.down port).known 50).length : Nat) : Int) == ((((s.down port).known 50).length : Nat) : Int)) = true := by simp
                clear hla3 hna3
                go_wp2_with fail
                go_ret
                exact ⟨rfl, (hK.trans hk7).below (by omega) (fun _ _ h => h)⟩

end Go.Proofs.Ytkmnjlegmgohfaa

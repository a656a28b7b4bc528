/-
  The walk of the law BridgeRoads.
  No conditions.
-/
import Derived.Test.YtkmnjlegmgohfaaLaw10
import Derived.Test.YtkmnjlegmgohfaaRoadsLaw
import Derived.Test.YtkmnjlegmgohfaaOpen
set_option linter.unusedVariables false
set_option linter.unusedSimpArgs false
namespace Go.Proofs.Ytkmnjlegmgohfaa
open Go.RowKit

theorem act10_cells {cs : List Value} (h : CellsAre [.i, .i, .i, .i, .i, .i, .s] cs) : ∃ (x : (Int × Int × Int) × (Int × Int × Int)) (d : ByteArray), cs = [.int .i64 x.1.1, .int .i64 x.1.2.1, .int .i64 x.1.2.2, .int .i64 x.2.1, .int .i64 x.2.2.1, .int .i64 x.2.2.2, .string d] ∧ (Lit.int .i64 x.1.2.1).wf = true ∧ (Lit.int .i64 x.1.2.2).wf = true := by
  obtain ⟨a1, _, rfl, w1, h1⟩ := h.i
  obtain ⟨a2, _, rfl, w2, h2⟩ := h1.i
  obtain ⟨a3, _, rfl, w3, h3⟩ := h2.i
  obtain ⟨a4, _, rfl, w4, h4⟩ := h3.i
  obtain ⟨a5, _, rfl, w5, h5⟩ := h4.i
  obtain ⟨a6, _, rfl, w6, h6⟩ := h5.i
  obtain ⟨d, _, rfl, hd, h7⟩ := h6.s
  rw [h7.nil]
  exact ⟨((a1, a2, a3), (a4, a5, a6)), d, rfl, w2, w3⟩

theorem und_mapii : Try.prog.underlying 28 = some (.map 3 3) := by kernel_rfl
theorem zero_int (w : World) : (zeroValue 3).run Try.prog w = .ok (.int .i64 0) w := by kernel_rfl

set_option maxHeartbeats 4000000 in
set_option maxRecDepth 100000 in
theorem roads_walk (W : World) (v : Value) (n : Nat) (f : Nat → List Value) (h : SlIs W [.i, .i, .i, .i, .i, .i, .s] v n f) :
    Calls Try.prog 3 #[v] W fun e W' => e = .returned (.bool true) ∧ Below W.heap.size W W' := by
  obtain ⟨⟨a, cap, rfl, hle, hat⟩, hcells, hsmall⟩ := h
  obtain ⟨acts, hacts⟩ := Deep.choose_lt (fun i hi => act10_cells (hcells i hi))
  replace hacts := Lib.hid hacts
  clear hcells
  simp only [List.length_cons, List.length_nil, reachB] at hsmall
  have hmm := @run_makeMap Try.prog
  go_enter Try.func3, Try.ntmps3
  go_wp2_with fail
  refine (new_good 4 20 1024 _ (by omega) (by omega) (by omega) (by omega) (by omega) (by omega)).mono ?_
  rintro e w1 ⟨rfl, hb, hk1⟩
  have ho := BOk.new (p := 4) (a := 20) (r := 1024) (by omega) (by omega) (by omega) (by omega) (by omega) (by omega)
  have hlt : W.heap.size + 1 < w1.heap.size := heap_lt hb.1
  have hcg : W.heap.size ≠ W.heap.size + 1 := by omega
  generalize hc : W.heap.size = c at hb hcg hlt
  generalize hg : c + 1 = g at hb hcg hlt ⊢
  go_wp2_with fail
  refine (works_any _).mono ?_
  rintro e w2 ⟨rfl, hk2⟩
  replace hb := hb.only hk2
  have hK := hk1.trans hk2
  have hsz2 := hk2.size
  clear hk1 hk2
  go_wp2_with fail
  have hm1 : MapI ((w2.alloc (.map #[] 0)).alloc (.map #[] 0)) w2.heap.size [] := (MapI.made w2).at (Below.heap_alloc _ _ _ (by simp))
  have hm2 : MapI ((w2.alloc (.map #[] 0)).alloc (.map #[] 0)) (w2.heap.size + 1) [] := by
    have := MapI.made (w2.alloc (.map #[] 0))
    rwa [World.size_alloc] at this
  have hka := ((Only.refl (fun _ => False) w2).alloc (.map #[] 0)).alloc (.map #[] 0)
  replace hb := hb.only hka
  replace hK := hK.trans hka
  have hsz3 : (w2.heap.size + 1) + 1 = ((w2.alloc (.map #[] 0)).alloc (.map #[] 0)).heap.size := by rw [World.size_alloc, World.size_alloc]
  have hgw2 : g < w2.heap.size := by omega
  generalize (w2.alloc (.map #[] 0)).alloc (.map #[] 0) = w3 at *
  generalize hbh : w2.heap.size = bh at *
  generalize hba : bh + 1 = ba at *
  have hr0 := RSt.new
  generalize (⟨4, 20, 1024, 0, []⟩ : BS) = s0 at hb hr0
  clear ho
  go_loopw [8, 7] (fun i nv wr => ∃ (k : Nat) (s : BS) (t : Int) (H A : List (Int × Value)) (hist : Int → Option (Int × Int)), i = .int .i64 k ∧ nv = .int .i64 t ∧ k ≤ n ∧ k ≤ 60 ∧ RSt k s t H A hist ∧ BridgeAt wr c g s ∧ MapI wr bh H ∧ MapI wr ba A ∧ Only (fun _ => False) W wr) (fun i _ _ => 60 - (intOf i).toNat)
  case atStart => exact ⟨0, s0, 0, [], [], fun _ => none, rfl, rfl, by omega, by omega, hr0, hb, hm1, hm2, hK⟩
  case round =>
    clear hb hm1 hm2 hK hr0
    obtain ⟨k, s, t, H, A, hist, rfl, rfl, hkn, hk60, hst, hb, hmh, hma, hK⟩ := hrel
    by_cases hin : k < n ∧ k < 60
    · obtain ⟨hin, hi60⟩ := hin
      have ht0 : 0 ≤ t := by have := hst.ok.n1; have := hst.t1; omega
      have ht3 : t ≤ 480 := by have := hst.t2; omega
      have HS := Lib.hid hst
      clear hst
      obtain ⟨b, off, rfl, hbW, hat⟩ := hat (by omega)
      have hc0 := hat k hin 0 (by decide)
      have hc1 := hat k hin 1 (by decide)
      have hc2 := hat k hin 2 (by decide)
      have hc3 := hat k hin 3 (by decide)
      have hc4 := hat k hin 4 (by decide)
      have hc5 := hat k hin 5 (by decide)
      have hc6 := hat k hin 6 (by decide)
      obtain ⟨d, hl, hw1, hw2⟩ := hacts.out k hin
      rw [hl] at hc0 hc1 hc2 hc3 hc4 hc5 hc6
      clear hat hl
      generalize acts k = x at hc0 hc1 hc2 hc3 hc4 hc5 hc6 hw1 hw2
      obtain ⟨⟨ki, pt, nw0⟩, to, fr, ty⟩ := x
      have hbl := hK.block b hbW (fun h => h)
      have y0 : wr.cell? ⟨b, off + k * 7, none⟩ = some (.int .i64 ki) := by
        rw [World.cell?_of_block (w := W) (w' := wr) (a := ⟨b, off + k * 7, none⟩) hbl]; exact hc0
      have y1 : wr.cell? ⟨b, off + k * 7 + 1, none⟩ = some (.int .i64 pt) := by
        rw [World.cell?_of_block (w := W) (w' := wr) (a := ⟨b, off + k * 7 + 1, none⟩) hbl]; exact hc1
      have y2 : wr.cell? ⟨b, off + k * 7 + 2, none⟩ = some (.int .i64 nw0) := by
        rw [World.cell?_of_block (w := W) (w' := wr) (a := ⟨b, off + k * 7 + 2, none⟩) hbl]; exact hc2
      have y3 : wr.cell? ⟨b, off + k * 7 + 3, none⟩ = some (.int .i64 to) := by
        rw [World.cell?_of_block (w := W) (w' := wr) (a := ⟨b, off + k * 7 + 3, none⟩) hbl]; exact hc3
      have y4 : wr.cell? ⟨b, off + k * 7 + 4, none⟩ = some (.int .i64 fr) := by
        rw [World.cell?_of_block (w := W) (w' := wr) (a := ⟨b, off + k * 7 + 4, none⟩) hbl]; exact hc4
      have y5 : wr.cell? ⟨b, off + k * 7 + 5, none⟩ = some (.int .i64 ty) := by
        rw [World.cell?_of_block (w := W) (w' := wr) (a := ⟨b, off + k * 7 + 5, none⟩) hbl]; exact hc5
      have y6 : wr.cell? ⟨b, off + k * 7 + 6, none⟩ = some (.string d) := by
        rw [World.cell?_of_block (w := W) (w' := wr) (a := ⟨b, off + k * 7 + 6, none⟩) hbl]; exact hc6
      clear hc0 hc1 hc2 hc3 hc4 hc5 hc6 hbl hacts hbW
      go_wp2_with fail
      have hka := (Only.refl (fun _ => False) wr).alloc (.cells #[.int .i64 ki, .int .i64 pt, .int .i64 nw0, .int .i64 to, .int .i64 fr, .int .i64 ty, .string d] 32)
      have hp := blk_new wr (.cells #[.int .i64 ki, .int .i64 pt, .int .i64 nw0, .int .i64 to, .int .i64 fr, .int .i64 ty, .string d] 32)
      have hbp : g < wr.heap.size ∧ c < wr.heap.size ∧ bh < wr.heap.size ∧ ba < wr.heap.size := ⟨heap_lt hb.1, hb.2.1.lt, hmh.lt, hma.lt⟩
      replace hb := hb.only hka
      replace hmh := hmh.only hka (fun h => h)
      replace hma := hma.only hka (fun h => h)
      replace hK := hK.trans hka
      generalize wr.alloc (.cells #[.int .i64 ki, .int .i64 pt, .int .i64 nw0, .int .i64 to, .int .i64 fr, .int .i64 ty, .string d] 32) = wa at hp hb hmh hma hK ⊢
      generalize wr.heap.size = p at hp hbp ⊢
      clear y0 y1 y2 y3 y4 y5 y6 hka
      have z0 := blk_cell hp 0
      have z1 := blk_cell hp 1
      have z2 := blk_cell hp 2
      have z3 := blk_cell hp 3
      have z4 := blk_cell hp 4
      have z5 := blk_cell hp 5
      have z6 := blk_cell hp 6
      simp only [List.getElem?_toArray, List.getElem?_cons_zero, List.getElem?_cons_succ] at z0 z1 z2 z3 z4 z5 z6
      refine (among_any nw0 9 _ hw2 (by omega) (by omega)).mono ?_
      rintro e _ ⟨rfl, rfl⟩
      have n0 : 0 ≤ nw0 % 9 := by omega
      have n1 : nw0 % 9 < 9 := by omega
      go_wp2_with fail
      refine (among_any pt 4 _ hw1 (by omega) (by omega)).mono ?_
      rintro e _ ⟨rfl, rfl⟩
      have p0 : 0 ≤ pt % 4 := by omega
      have p1 : pt % 4 < 4 := by omega
      generalize nw0 % 9 = dn at n0 n1 ⊢
      generalize pt % 4 = port at p0 p1 ⊢
      go_wp2_with fail
      by_cases hf : FrameOk to fr ty d
      · have HF := Lib.hid hf
        clear hf
        have hst4 := HS.out.good hi60 n0 n1 (fr := fr) p0 p1
        refine (take_ok s c g _ port to fr ty (t + dn) d hb HS.out.ok ⟨p0, by rw [HS.out.po]; exact p1⟩ (by have := HS.out.t1; omega) (by omega) HF.out).mono ?_
        rintro e w4 ⟨v, rfl, hown, hb4, hk4⟩
        have hask := hst4.asked rfl (to := to) (groupB to) p0 p1 _ rfl
        rw [HS.out.po] at hown
        generalize hl : roads port (groupB to) ((s.took fr port (t + dn)).find to (t + dn)).isSome (((s.took fr port (t + dn)).find to (t + dn)).getD 0) 4 = l at hask hown
        replace hown : OwnL w4 wa.heap.size v l := by rw [← hl]; exact hown
        have hll : l.length ≤ 4 := by rw [← hl]; exact roads_len _ _ _ _ _
        clear hl
        have hwa := heap_lt hp
        have hka5 : bh < wa.heap.size ∧ ba < wa.heap.size := ⟨hmh.lt, hma.lt⟩
        have hp4 : w4.heap[p]? = _ := hk4.at hp (by omega)
        replace hmh := hmh.only hk4 (by omega)
        replace hma := hma.only hk4 (by omega)
        replace hK := hK.then hk4 (by intro i hi h; omega)
        generalize s.took fr port (t + dn) = s4 at hb4 hst4
        generalize histPut hist fr port (t + dn) = hist4 at hst4 hask
        clear hb HS hk4 hp z0 z1 z2 z3 z4 z5 z6
        obtain ⟨a2, cap2, rfl, hla, hna⟩ := hown.slice (by omega)
        clear hown
        have z3 := blk_cell hp4 3
        have z4 := blk_cell hp4 4
        have z5 := blk_cell hp4 5
        have z6 := blk_cell hp4 6
        simp only [List.getElem?_toArray, List.getElem?_cons_zero, List.getElem?_cons_succ] at z3 z4 z5 z6
        go_wp2_with fail
        refine (echeck_ok to fr ty d _ HF.out).mono ?_
        rintro e w5 ⟨rfl, hk5⟩
        go_wp2_with fail
        replace hk5 : Only (fun _ => False) w4 w5.drew := hk5.drew
        replace hb4 : BridgeAt w5.drew c g s4 := hb4.only hk5
        replace hmh : MapI w5.drew bh H := hmh.only hk5 (fun h => h)
        replace hma : MapI w5.drew ba A := hma.only hk5 (fun h => h)
        replace hla : ListAt w5.drew a2 cap2 l := hla.only hk5 (fun _ _ h => h)
        replace hK : Only (fun _ => False) W w5.drew := hK.trans hk5
        have hp5 : w5.drew.heap[p]? = _ := hk5.at hp4 (fun h => h)
        have hsz5 : w4.heap.size ≤ w5.drew.heap.size := hk5.size
        obtain ⟨wA, runA, hmA, hkA, hzA⟩ := hmh.put (P := Try.prog) und_mapii und_int fr (.int .i64 port)
        have hpne : p ≠ bh ∧ p ≠ ba ∧ bh ≠ ba ∧ g ≠ bh ∧ g ≠ ba ∧ c ≠ bh ∧ c ≠ ba := by omega
        replace hma : MapI wA ba A := hma.only hkA (fun e => by omega)
        have hpA : wA.heap[p]? = _ := hkA.at hp5 (fun e => by omega)
        obtain ⟨wB, runB, hmB, hkB, hzB⟩ := hma.put (P := Try.prog) und_mapii und_int fr (.int .i64 (t + dn))
        have hpB : wB.heap[p]? = _ := hkB.at hpA (fun e => by omega)
        have z4 := blk_cell hp5 4
        have z4A := blk_cell hpA 4
        have z4B := blk_cell hpB 4
        simp only [List.getElem?_toArray, List.getElem?_cons_zero, List.getElem?_cons_succ] at z4 z4A z4B
        have hkAB : Only (fun k => k = bh ∨ k = ba) w5.drew wB := (hkA.mono (fun _ _ h => Or.inl h)).then hkB (fun _ _ h => Or.inr h)
        have hmhB : MapI wB bh (putI H fr (.int .i64 port)) := hmA.only hkB (fun e => by omega)
        replace hla : ListAt wB a2 cap2 l := hla.only hkAB (fun ad e h => by have := hna ad e; have := hka5; omega)
        replace hK : Only (fun _ => False) W wB := hK.then hkAB (fun i hi h => by omega)
        replace hb4 : BridgeAt wB c g s4 := ⟨hkAB.at hb4.1 (fun h => by omega), hb4.2.1.only hkAB (fun h => by omega), hb4.2.2⟩
        clear z3 z5 z6 hk5 hp4 hp5 hpA hmh hma hkA hkB hmA
        go_region
        have z3 := blk_cell hpB 3
        simp only [List.getElem?_toArray, List.getElem?_cons_zero, List.getElem?_cons_succ] at z3
        go_wp2_with fail
        refine (group_ok to _ HF.out.to).mono ?_
        rintro e _ ⟨rfl, rfl⟩
        generalize groupB to = gr at hask ⊢
        obtain ⟨hgood, hask⟩ := hask
        have gH := hst4.hh to
        have gA := hst4.ha to
        have HGD := Lib.hid hgood
        have HST := Lib.hid hst4
        clear hgood hst4 runA runB
        rcases hask with ⟨hno, hlen⟩ | ⟨p', w', hyes, a0, a1, b0, b1', ⟨hg, hlen⟩ | ⟨hgf, h20, hle2⟩⟩
        · rw [hno] at gH gA
          have rl := hmB.look (P := Try.prog) und_mapii und_int (zero_int _) to true
          rw [gA] at rl
          simp only [if_true, Option.map_none, Option.getD_none, Option.isSome_none] at rl
          have hl3 : ((l.length : Int) != 3) = false := by rw [hlen]; rfl
          have HLen := Lib.hid hlen
          replace hna := Lib.hid hna
          have HR0 := Lib.hid (And.intro hb4 (And.intro hmhB (And.intro hmB (And.intro hla hK))))
          clear hlen hno hb4 hmhB hmB hla hK
          clear gH gA hbp hka5 hwa hpB hzA hzB hkAB hpne hsz5
          cases gr
          all_goals
            go_wp2_with fail
            clear z3 z4B rl
            go_loopw [171] (fun i wr => ∃ m : Nat, i = .int .i64 m ∧ m ≤ l.length ∧ BridgeAt wr c g s4 ∧ MapI wr bh (putI H fr (.int .i64 port)) ∧ MapI wr ba (putI A fr (.int .i64 (t + dn))) ∧ ListAt wr a2 cap2 l ∧ Only (fun _ => False) W wr) (fun i _ => l.length - (intOf i).toNat)
            case atStart => exact ⟨0, rfl, by omega, HR0.out⟩
            case round =>
              clear HR0
              obtain ⟨m, rfl, hml, hb4, hmhB, hmB, hla, hK⟩ := hrel
              have HR := Lib.hid (And.intro hb4 (And.intro hmhB (And.intro hmB (And.intro hla hK))))
              clear hb4 hmhB hmB hK
              by_cases hlt : m < l.length
              · obtain ⟨⟨lb, lo, lsp⟩, rfl, hsp, hcell⟩ := hla.at_ m hlt
                simp only at hsp hcell
                subst hsp
                cases m with
                | zero =>
                  obtain ⟨g1, g2, g3, _⟩ := HGD.out 0 hlt
                  generalize l.getD 0 0 = x at hcell g1 g2 g3
                  have e1 : (x == port) = false := by simpa using g1
                  have e2 : decide (x < 0) = false := by simpa using g2
                  have e3 : decide (3 < x) = false := by simpa using g3
                  rw [Nat.add_zero] at hcell
                  clear g1 hla
                  go_wp2_with fail
                  go_roundw
                  case rel => exact ⟨1, by go_num, by omega, HR.out⟩
                  case measure => simp [intOf]; omega
                | succ m =>
                  obtain ⟨g1, g2, g3, g4⟩ := HGD.out (m + 1) hlt
                  obtain ⟨⟨lb', lo', lsp'⟩, e0, hsp', hcell'⟩ := hla.at_ m (by omega)
                  cases e0
                  simp only at hcell'
                  have g5 := g4 (by omega)
                  rw [Nat.add_sub_cancel] at g5
                  generalize l.getD (m + 1) 0 = x at hcell g1 g2 g3 g5
                  generalize l.getD m 0 = y at hcell' g5
                  have e1 : (x == port) = false := by simpa using g1
                  have e2 : decide (x < 0) = false := by simpa using g2
                  have e3 : decide (3 < x) = false := by simpa using g3
                  have e4 : decide (x ≤ y) = false := by simpa using g5
                  clear g1 g4 hla hsp'
                  go_wp2_with fail
                  go_roundw
                  case rel => exact ⟨m + 2, by go_num, by omega, HR.out⟩
                  case measure => simp [intOf]; omega
              · clear hla
                go_wp2_with fail
                go_roundw
                case rel => exact ⟨k + 1, s4, t + dn, _, _, hist4, by go_num, rfl, by omega, by omega, HST.out, HR.out.1, HR.out.2.1, HR.out.2.2.1, HR.out.2.2.2.2⟩
                case measure => simp [intOf]; omega
        · rw [hyes] at gH gA
          have rl := hmB.look (P := Try.prog) und_mapii und_int (zero_int _) to true
          rw [gA] at rl
          simp only [if_true, Option.map_some, Option.getD_some, Option.isSome_some] at rl
          have rh := hmhB.look (P := Try.prog) und_mapii und_int (zero_int _) to false
          rw [gH] at rh
          simp only [Bool.false_eq_true, if_false, Option.map_some, Option.getD_some] at rh
          replace hna := Lib.hid hna
          have hl3 : ((l.length : Int) != 3) = false := by rw [hlen]; rfl
          have HLen := Lib.hid hlen
          have HR0 := Lib.hid (And.intro hb4 (And.intro hmhB (And.intro hmB (And.intro hla hK))))
          clear hlen hb4 hmhB hmB hla hK hyes
          clear gH gA hbp hka5 hwa hpB hzA hzB hkAB hpne hsz5
          cases gr
          · have e20 : decide (t + dn - w' < 20) = false := by simp; rcases hg with h | h; cases h; omega
            clear hg
            go_wp2_with fail
            clear z3 z4B rl rh e20
            go_loopw [171] (fun i wr => ∃ m : Nat, i = .int .i64 m ∧ m ≤ l.length ∧ BridgeAt wr c g s4 ∧ MapI wr bh (putI H fr (.int .i64 port)) ∧ MapI wr ba (putI A fr (.int .i64 (t + dn))) ∧ ListAt wr a2 cap2 l ∧ Only (fun _ => False) W wr) (fun i _ => l.length - (intOf i).toNat)
            case atStart => exact ⟨0, rfl, by omega, HR0.out⟩
            case round =>
              clear HR0
              obtain ⟨m, rfl, hml, hb4, hmhB, hmB, hla, hK⟩ := hrel
              have HR := Lib.hid (And.intro hb4 (And.intro hmhB (And.intro hmB (And.intro hla hK))))
              clear hb4 hmhB hmB hK
              by_cases hlt : m < l.length
              · obtain ⟨⟨lb, lo, lsp⟩, rfl, hsp, hcell⟩ := hla.at_ m hlt
                simp only at hsp hcell
                subst hsp
                cases m with
                | zero =>
                  obtain ⟨g1, g2, g3, _⟩ := HGD.out 0 hlt
                  generalize l.getD 0 0 = x at hcell g1 g2 g3
                  have e1 : (x == port) = false := by simpa using g1
                  have e2 : decide (x < 0) = false := by simpa using g2
                  have e3 : decide (3 < x) = false := by simpa using g3
                  rw [Nat.add_zero] at hcell
                  clear g1 hla
                  go_wp2_with fail
                  go_roundw
                  case rel => exact ⟨1, by go_num, by omega, HR.out⟩
                  case measure => simp [intOf]; omega
                | succ m =>
                  obtain ⟨g1, g2, g3, g4⟩ := HGD.out (m + 1) hlt
                  obtain ⟨⟨lb', lo', lsp'⟩, e0, hsp', hcell'⟩ := hla.at_ m (by omega)
                  cases e0
                  simp only at hcell'
                  have g5 := g4 (by omega)
                  rw [Nat.add_sub_cancel] at g5
                  generalize l.getD (m + 1) 0 = x at hcell g1 g2 g3 g5
                  generalize l.getD m 0 = y at hcell' g5
                  have e1 : (x == port) = false := by simpa using g1
                  have e2 : decide (x < 0) = false := by simpa using g2
                  have e3 : decide (3 < x) = false := by simpa using g3
                  have e4 : decide (x ≤ y) = false := by simpa using g5
                  clear g1 g4 hla hsp'
                  go_wp2_with fail
                  go_roundw
                  case rel => exact ⟨m + 2, by go_num, by omega, HR.out⟩
                  case measure => simp [intOf]; omega
              · clear hla
                go_wp2_with fail
                go_roundw
                case rel => exact ⟨k + 1, s4, t + dn, _, _, hist4, by go_num, rfl, by omega, by omega, HST.out, HR.out.1, HR.out.2.1, HR.out.2.2.1, HR.out.2.2.2.2⟩
                case measure => simp [intOf]; omega
          · clear hg
            go_wp2_with fail
            clear z3 z4B rl rh
            go_loopw [171] (fun i wr => ∃ m : Nat, i = .int .i64 m ∧ m ≤ l.length ∧ BridgeAt wr c g s4 ∧ MapI wr bh (putI H fr (.int .i64 port)) ∧ MapI wr ba (putI A fr (.int .i64 (t + dn))) ∧ ListAt wr a2 cap2 l ∧ Only (fun _ => False) W wr) (fun i _ => l.length - (intOf i).toNat)
            case atStart => exact ⟨0, rfl, by omega, HR0.out⟩
            case round =>
              clear HR0
              obtain ⟨m, rfl, hml, hb4, hmhB, hmB, hla, hK⟩ := hrel
              have HR := Lib.hid (And.intro hb4 (And.intro hmhB (And.intro hmB (And.intro hla hK))))
              clear hb4 hmhB hmB hK
              by_cases hlt : m < l.length
              · obtain ⟨⟨lb, lo, lsp⟩, rfl, hsp, hcell⟩ := hla.at_ m hlt
                simp only at hsp hcell
                subst hsp
                cases m with
                | zero =>
                  obtain ⟨g1, g2, g3, _⟩ := HGD.out 0 hlt
                  generalize l.getD 0 0 = x at hcell g1 g2 g3
                  have e1 : (x == port) = false := by simpa using g1
                  have e2 : decide (x < 0) = false := by simpa using g2
                  have e3 : decide (3 < x) = false := by simpa using g3
                  rw [Nat.add_zero] at hcell
                  clear g1 hla
                  go_wp2_with fail
                  go_roundw
                  case rel => exact ⟨1, by go_num, by omega, HR.out⟩
                  case measure => simp [intOf]; omega
                | succ m =>
                  obtain ⟨g1, g2, g3, g4⟩ := HGD.out (m + 1) hlt
                  obtain ⟨⟨lb', lo', lsp'⟩, e0, hsp', hcell'⟩ := hla.at_ m (by omega)
                  cases e0
                  simp only at hcell'
                  have g5 := g4 (by omega)
                  rw [Nat.add_sub_cancel] at g5
                  generalize l.getD (m + 1) 0 = x at hcell g1 g2 g3 g5
                  generalize l.getD m 0 = y at hcell' g5
                  have e1 : (x == port) = false := by simpa using g1
                  have e2 : decide (x < 0) = false := by simpa using g2
                  have e3 : decide (3 < x) = false := by simpa using g3
                  have e4 : decide (x ≤ y) = false := by simpa using g5
                  clear g1 g4 hla hsp'
                  go_wp2_with fail
                  go_roundw
                  case rel => exact ⟨m + 2, by go_num, by omega, HR.out⟩
                  case measure => simp [intOf]; omega
              · clear hla
                go_wp2_with fail
                go_roundw
                case rel => exact ⟨k + 1, s4, t + dn, _, _, hist4, by go_num, rfl, by omega, by omega, HST.out, HR.out.1, HR.out.2.1, HR.out.2.2.1, HR.out.2.2.2.2⟩
                case measure => simp [intOf]; omega
        · rw [hyes] at gH gA
          have rl := hmB.look (P := Try.prog) und_mapii und_int (zero_int _) to true
          rw [gA] at rl
          simp only [if_true, Option.map_some, Option.getD_some, Option.isSome_some] at rl
          have rh := hmhB.look (P := Try.prog) und_mapii und_int (zero_int _) to false
          rw [gH] at rh
          simp only [Bool.false_eq_true, if_false, Option.map_some, Option.getD_some] at rh
          replace hna := Lib.hid hna
          subst hgf
          have e20 : decide (t + dn - w' < 20) = true := by simpa using h20
          by_cases hpp : p' = port
          · rw [if_pos hpp] at hle2
            have hl0 : ((l.length : Int) != 0) = false := by rw [hle2]; rfl
            have b1 : (p' == port) = true := by simpa using hpp
            have b2 : (p' != port) = false := by simp [hpp]
            have HR0 := Lib.hid (And.intro hb4 (And.intro hmhB (And.intro hmB (And.intro hla hK))))
            clear hle2 hpp hb4 hmhB hmB hla hK hyes h20
            clear gH gA hbp hka5 hwa hpB hzA hzB hkAB hpne hsz5
            go_wp2_with fail
            clear z3 z4B rl rh e20
            go_loopw [171] (fun i wr => ∃ m : Nat, i = .int .i64 m ∧ m ≤ l.length ∧ BridgeAt wr c g s4 ∧ MapI wr bh (putI H fr (.int .i64 port)) ∧ MapI wr ba (putI A fr (.int .i64 (t + dn))) ∧ ListAt wr a2 cap2 l ∧ Only (fun _ => False) W wr) (fun i _ => l.length - (intOf i).toNat)
            case atStart => exact ⟨0, rfl, by omega, HR0.out⟩
            case round =>
              clear HR0
              obtain ⟨m, rfl, hml, hb4, hmhB, hmB, hla, hK⟩ := hrel
              have HR := Lib.hid (And.intro hb4 (And.intro hmhB (And.intro hmB (And.intro hla hK))))
              clear hb4 hmhB hmB hK
              by_cases hlt : m < l.length
              · obtain ⟨⟨lb, lo, lsp⟩, rfl, hsp, hcell⟩ := hla.at_ m hlt
                simp only at hsp hcell
                subst hsp
                cases m with
                | zero =>
                  obtain ⟨g1, g2, g3, _⟩ := HGD.out 0 hlt
                  generalize l.getD 0 0 = x at hcell g1 g2 g3
                  have e1 : (x == port) = false := by simpa using g1
                  have e2 : decide (x < 0) = false := by simpa using g2
                  have e3 : decide (3 < x) = false := by simpa using g3
                  rw [Nat.add_zero] at hcell
                  clear g1 hla
                  go_wp2_with fail
                  go_roundw
                  case rel => exact ⟨1, by go_num, by omega, HR.out⟩
                  case measure => simp [intOf]; omega
                | succ m =>
                  obtain ⟨g1, g2, g3, g4⟩ := HGD.out (m + 1) hlt
                  obtain ⟨⟨lb', lo', lsp'⟩, e0, hsp', hcell'⟩ := hla.at_ m (by omega)
                  cases e0
                  simp only at hcell'
                  have g5 := g4 (by omega)
                  rw [Nat.add_sub_cancel] at g5
                  generalize l.getD (m + 1) 0 = x at hcell g1 g2 g3 g5
                  generalize l.getD m 0 = y at hcell' g5
                  have e1 : (x == port) = false := by simpa using g1
                  have e2 : decide (x < 0) = false := by simpa using g2
                  have e3 : decide (3 < x) = false := by simpa using g3
                  have e4 : decide (x ≤ y) = false := by simpa using g5
                  clear g1 g4 hla hsp'
                  go_wp2_with fail
                  go_roundw
                  case rel => exact ⟨m + 2, by go_num, by omega, HR.out⟩
                  case measure => simp [intOf]; omega
              · clear hla
                go_wp2_with fail
                go_roundw
                case rel => exact ⟨k + 1, s4, t + dn, _, _, hist4, by go_num, rfl, by omega, by omega, HST.out, HR.out.1, HR.out.2.1, HR.out.2.2.1, HR.out.2.2.2.2⟩
                case measure => simp [intOf]; omega
          · rw [if_neg hpp] at hle2
            have b1 : (p' == port) = false := by simpa using hpp
            have b2 : (p' != port) = true := by simpa using hpp
            have HE := Lib.hid hle2
            clear hle2 hpp hyes h20
            clear gH gA hbp hka5 hwa hpB hzA hzB hkAB hpne hsz5
            go_wp2_with fail
            have hA : ListAt (wB.alloc (.cells #[.int .i64 p'] 3)) (some ⟨wB.heap.size, 0, none⟩) 1 [p'] := ListAt.block (blk_new wB _) (by simp) (by simp) rfl
            have hkc := (Only.refl (fun _ => False) wB).alloc (.cells #[.int .i64 p'] 3)
            refine (same_ints _ a2 (some ⟨wB.heap.size, 0, none⟩) cap2 1 l [p'] (hla.only hkc (fun _ _ h => h)) hA).mono ?_
            rintro e wC ⟨rfl, hkd⟩
            rw [show (l == [p']) = true from by rw [HE.out]; simp]
            replace hkc := hkc.trans hkd
            replace hb4 := hb4.only hkc
            replace hmhB := hmhB.only hkc (fun h => h)
            replace hmB := hmB.only hkc (fun h => h)
            replace hla := hla.only hkc (fun _ _ h => h)
            replace hK := hK.trans hkc
            have HR0 := Lib.hid (And.intro hb4 (And.intro hmhB (And.intro hmB (And.intro hla hK))))
            clear hb4 hmhB hmB hla hK hkc hkd hA HE z3 z4B rl rh e20
            go_wp2_with fail
            go_loopw [171] (fun i wr => ∃ m : Nat, i = .int .i64 m ∧ m ≤ l.length ∧ BridgeAt wr c g s4 ∧ MapI wr bh (putI H fr (.int .i64 port)) ∧ MapI wr ba (putI A fr (.int .i64 (t + dn))) ∧ ListAt wr a2 cap2 l ∧ Only (fun _ => False) W wr) (fun i _ => l.length - (intOf i).toNat)
            case atStart => exact ⟨0, rfl, by omega, HR0.out⟩
            case round =>
              clear HR0
              obtain ⟨m, rfl, hml, hb4, hmhB, hmB, hla, hK⟩ := hrel
              have HR := Lib.hid (And.intro hb4 (And.intro hmhB (And.intro hmB (And.intro hla hK))))
              clear hb4 hmhB hmB hK
              by_cases hlt : m < l.length
              · obtain ⟨⟨lb, lo, lsp⟩, rfl, hsp, hcell⟩ := hla.at_ m hlt
                simp only at hsp hcell
                subst hsp
                cases m with
                | zero =>
                  obtain ⟨g1, g2, g3, _⟩ := HGD.out 0 hlt
                  generalize l.getD 0 0 = x at hcell g1 g2 g3
                  have e1 : (x == port) = false := by simpa using g1
                  have e2 : decide (x < 0) = false := by simpa using g2
                  have e3 : decide (3 < x) = false := by simpa using g3
                  rw [Nat.add_zero] at hcell
                  clear g1 hla
                  go_wp2_with fail
                  go_roundw
                  case rel => exact ⟨1, by go_num, by omega, HR.out⟩
                  case measure => simp [intOf]; omega
                | succ m =>
                  obtain ⟨g1, g2, g3, g4⟩ := HGD.out (m + 1) hlt
                  obtain ⟨⟨lb', lo', lsp'⟩, e0, hsp', hcell'⟩ := hla.at_ m (by omega)
                  cases e0
                  simp only at hcell'
                  have g5 := g4 (by omega)
                  rw [Nat.add_sub_cancel] at g5
                  generalize l.getD (m + 1) 0 = x at hcell g1 g2 g3 g5
                  generalize l.getD m 0 = y at hcell' g5
                  have e1 : (x == port) = false := by simpa using g1
                  have e2 : decide (x < 0) = false := by simpa using g2
                  have e3 : decide (3 < x) = false := by simpa using g3
                  have e4 : decide (x ≤ y) = false := by simpa using g5
                  clear g1 g4 hla hsp'
                  go_wp2_with fail
                  go_roundw
                  case rel => exact ⟨m + 2, by go_num, by omega, HR.out⟩
                  case measure => simp [intOf]; omega
              · clear hla
                go_wp2_with fail
                go_roundw
                case rel => exact ⟨k + 1, s4, t + dn, _, _, hist4, by go_num, rfl, by omega, by omega, HST.out, HR.out.1, HR.out.2.1, HR.out.2.2.1, HR.out.2.2.2.2⟩
                case measure => simp [intOf]; omega
      · have HF := Lib.hid hf
        clear hf
        refine (take_frame s c g _ port to fr ty (t + dn) d hb HS.out.ok ⟨p0, by rw [HS.out.po]; exact p1⟩ (by have := HS.out.t1; omega) (by omega) HF.out).mono ?_
        rintro e w4 ⟨rfl, hk4⟩
        replace hb := hb.only hk4
        replace hmh := hmh.only hk4 (fun h => h)
        replace hma := hma.only hk4 (fun h => h)
        replace hK := hK.trans hk4
        replace hp := hk4.at hp (fun h => h)
        clear hk4 z0 z1 z2 z3 z4 z5 z6
        have z3 := blk_cell hp 3
        have z4 := blk_cell hp 4
        have z5 := blk_cell hp 5
        have z6 := blk_cell hp 6
        simp only [List.getElem?_toArray, List.getElem?_cons_zero, List.getElem?_cons_succ] at z3 z4 z5 z6
        go_wp2_with fail
        refine (echeck_bad to fr ty d _ HF.out).mono ?_
        rintro e w5 ⟨rfl, hk5⟩
        go_wp2_with fail
        go_roundw
        case rel => exact ⟨k + 1, s, t + dn, H, A, hist, by go_num, rfl, by omega, by omega, HS.out.bad n0 n1, hb.only hk5, hmh.only hk5 (fun h => h), hma.only hk5 (fun h => h), hK.trans hk5⟩
        case measure => simp [intOf]; omega
    · by_cases hkn' : k < n
      all_goals
        go_wp2_with fail
        go_ret
        exact ⟨rfl, hK.below (by omega) (fun _ _ h => h)⟩

end Go.Proofs.Ytkmnjlegmgohfaa

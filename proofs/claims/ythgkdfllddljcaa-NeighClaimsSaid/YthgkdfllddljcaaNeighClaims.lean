/-
  The walk of the law NeighClaims: who is asked for answers; a claim of an own address is told so; a claim of a known neighbour turns where packets to it go.
  Conditions: numbers are of the kind int.
-/
import Derived.Test.YthgkdfllddljcaaNeiWorks
import Derived.Test.YthgkdfllddljcaaNeiTakeT
import Derived.Test.YthgkdfllddljcaaNeiTakeK
import Derived.Test.YthgkdfllddljcaaNeiTakeC
import Derived.Test.YthgkdfllddljcaaAmong
set_option linter.unusedVariables false
set_option linter.unusedSimpArgs false
set_option maxRecDepth 100000
namespace Go.Proofs.Ythgkdfllddljcaa
open Go.RowKit

def cS (now : Int) (m : Bool) (v : Value) (K : List (Int × Int × Int)) : NS := ⟨2, 50, 4, 9, 30, now, m, v, K, []⟩
theorem cfind (n : Int) (b : Bool) (v : Value) (a m t now : Int) (h : now < t + 50) : (cS n b v [(a, m, t)]).find a now = some m := by
  unfold NS.find lookH cS
  simp [h]
theorem cS_first (v : Value) (a m t : Int) : (NS.learn { cS 0 true v [] with now := t } a m) = cS t true v [(a, m, t)] := rfl
theorem cS_again (n t : Int) (b : Bool) (v : Value) (a m m' u : Int) : (NS.learn { cS n b v [(a, m, u)] with now := t } a m') = cS t b v [(a, m', t)] := by
  unfold NS.learn NS.kept cS keepH
  simp
theorem ckept (n t : Int) (b : Bool) (v : Value) (a m u : Int) : (({ cS n b v [(a, m, u)] with now := t } : NS).kept a).length = 0 := by
  unfold NS.kept cS keepH
  simp

theorem NAt.away {w w' : World} {g c d : Nat} {s : NS} (h : NAt w g c d s) (hm : s.mine = true) {v : Value} (hg : w'.heap[g]? = some (.cells (({ s with own := v, mine := false } : NS).cells c d) 63 (0, 0))) (ho : OwnAt w' v false) (hk : Only (fun k => k = g ∨ s.own.ownBlock = some k) w w') : NAt w' g c d { s with own := v, mine := false } := by
  obtain ⟨b, cap, cur, e1, e2, e3, e4⟩ := h.own.yes hm
  have hob : ∀ k, s.own.ownBlock = some k → k = b := by
    intro k hk
    rw [e1] at hk
    exact (Option.some.inj hk).symm
  have hcells : ∀ k cs (T : TypeId), w.heap[k]? = some (.cells cs T (0, 0)) → T ≠ 63 → T ≠ 3 → ¬ (k = g ∨ s.own.ownBlock = some k) := by
    rintro k cs T hkk h1 h2 (h3 | h3)
    · rw [h3] at hkk
      exact cells_ne hkk h.cell h1 rfl
    · rw [hob k h3] at hkk
      exact cells_ne hkk e3 h2 rfl
  have hmap : ∀ k l, MapI w k l → ¬ (k = g ∨ s.own.ownBlock = some k) := by
    rintro k l hkk (h3 | h3)
    · rw [h3] at hkk
      exact map_ne h.cell hkk rfl
    · rw [hob k h3] at hkk
      exact map_ne e3 hkk rfl
  exact ⟨hg, h.kmap.only hk (hmap _ _ h.kmap), h.amap.only hk (hmap _ _ h.amap), ho, fun p hp => hk.at (h.ask p hp) (hcells _ _ _ (h.ask p hp) (by decide) (by decide)), fun p hp => row_only (h.row p hp) hk fun k hq => by
    obtain ⟨cur, h3⟩ := row_blk (h.row p hp) hq
    exact hcells _ _ _ h3 (by decide) (by decide), h.dis, h.one, h.two⟩

set_option maxHeartbeats 16000000 in
theorem neighClaims_walk (W : World) (mac : Int) (hwm : (Lit.int .i64 mac).wf = true) (ip : Int) (hwi : (Lit.int .i64 ip).wf = true) (other : Int) (hwo : (Lit.int .i64 other).wf = true) :
    Calls Try.prog 4 #[.int .i64 mac, .int .i64 ip, .int .i64 other] W fun e W' => e = .returned (.bool true) ∧ Below W.heap.size W W' := by
  go_enter Try.func4, Try.ntmps4
  go_wp2_with fail
  refine (cache_any W).mono ?_
  rintro e w1 ⟨g, c, d, v, rfl, hn1, hf1, hk1⟩
  have HN := Lib.hid (show NAt w1 g c d (cS 0 true v []) from hn1)
  have HO := Lib.hid hk1
  have HF := Lib.hid (show ∀ k, NFoot g c d (cS 0 true v []) k → W.heap.size ≤ k from hf1)
  clear hn1 hf1 hk1
  go_wp2_with fail
  refine (works_any w1).mono ?_
  rintro e w2 ⟨rfl, hk2⟩
  replace HN := Lib.hid (HN.out.keep hk2)
  replace HO := Lib.hid (HO.out.then hk2 (fun _ _ h => h))
  clear hk2
  go_wp2_with fail
  refine (among_any mac 1000 _ hwm (by decide) (by decide)).mono ?_
  rintro e _ ⟨rfl, rfl⟩
  obtain ⟨M, hM⟩ : ∃ M, M = mac % 1000 + 3 := ⟨_, rfl⟩
  have hM1 : 3 ≤ M ∧ M < 1003 := by omega
  have hw1 : IntKind.i64.wrap (3 + mac % 1000) = M := by rw [IntKind.wrap_i64]; omega
  have HM := Lib.hid hM1
  clear hM hM1
  go_wp2_with fail
  refine (among_any ip 1000 _ hwi (by decide) (by decide)).mono ?_
  rintro e _ ⟨rfl, rfl⟩
  obtain ⟨I, hI⟩ : ∃ I, I = ip % 1000 + 20 := ⟨_, rfl⟩
  have hI1 : 20 ≤ I ∧ I < 1020 := by omega
  have hw2 : IntKind.i64.wrap (20 + ip % 1000) = I := by rw [IntKind.wrap_i64]; omega
  have HI := Lib.hid hI1
  clear hI hI1
  go_wp2_with fail
  refine (among_any other 1000 _ hwo (by decide) (by decide)).mono ?_
  rintro e _ ⟨rfl, rfl⟩
  obtain ⟨O, hO⟩ : ∃ O, O = other % 1000 + 2000 := ⟨_, rfl⟩
  have hO1 : 2000 ≤ O ∧ O < 3000 := by omega
  have hw3 : IntKind.i64.wrap (2000 + other % 1000) = O := by rw [IntKind.wrap_i64]; omega
  have HOT := Lib.hid hO1
  clear hO hO1
  go_wp2_with fail
  have hA1 : ArpOk 1 M I 0 10 := arp_small (.inl rfl) (by have := HM.out; omega) (by decide) (by have := HI.out; omega) (by decide)
  have hA2 : ArpOk 2 2 10 M I := arp_small (.inr rfl) (by decide) (by have := HM.out; omega) (by decide) (by have := HI.out; omega)
  have hA3 : ArpOk 1 O 10 0 10 := arp_small (.inl rfl) (by have := HOT.out; omega) (by decide) (by decide) (by decide)
  have hA4 : ArpOk 1 O I 0 I := arp_small (.inl rfl) (by have := HOT.out; omega) (by decide) (by have := HI.out; omega) (by have := HI.out; omega)
  have hq := ask_any M I 10 w2
  rw [amade_is hA1, arC_is hA1] at hq
  refine hq.mono ?_
  rintro e w3 ⟨rfl, hk3⟩
  have hbig := Lib.hid (show ArpOk 1 M I 0 10 ∧ ArpOk 2 2 10 M I ∧ ArpOk 1 O 10 0 10 ∧ ArpOk 1 O I 0 I from ⟨hA1, hA2, hA3, hA4⟩)
  replace HN := Lib.hid (HN.out.keep hk3)
  replace HO := Lib.hid (HO.out.then hk3 (fun _ _ h => h))
  clear hq hA1 hA2 hA3 hA4 hk3 hw1 hw2 hw3 hwm hwi hwo w2 w1
  simp only
  go_wp2_with fail
  have HIW := Lib.hid (show (Lit.int .i64 I).wf = true by simp [Lit.wf, IntKind.min, IntKind.max, IntKind.bits, IntKind.signed]; have := HI.out; omega)
  have hq3 := blk_new w3 (.cells #[.int .i64 1, .int .i64 M, .int .i64 I, .int .i64 0, .int .i64 10] 31)
  have hk3 := (Only.refl (fun _ => False) w3).alloc (.cells #[.int .i64 1, .int .i64 M, .int .i64 I, .int .i64 0, .int .i64 10] 31)
  have hfl := fun k h => HN.out.foot_lt rfl k h
  have hQW := HO.out.size
  refine (take_asks _ g c d (cS 0 true v []) 1 M I 0 10 1 ⟨0, 0, false, .slice none 0 0, []⟩ (HN.out.keep hk3) (nok_of _ 50 4 _ _ 1 _ _ [] _ (by decide) (by decide) (by decide) (fun p hp => (by cases hp))) (by have := HI.out; omega) (arC_is hbig.out.1) (by show (0 : Int) ≤ 1; decide) (by decide) (by show (true && decide (I = 10)) = false; have := HI.out; simp; omega) rfl rfl (by show (0 : Int) < 9; decide) (fun p hp => (by cases hp)) (by show 0 ≤ 4096; decide)).mono ?_
  rintro e w4 ⟨rfl, hn4, hk4⟩
  rw [cS_first] at hn4
  rw [show (cS 0 true v []).mac = 2 from rfl, atold_is hbig.out.1, amade_is hbig.out.2.1]
  have hq4 := hk4.at hq3 (fun h => Nat.lt_irrefl _ (hfl _ h))
  have HN4 := Lib.hid hn4
  have HO4 := Lib.hid (HO.out.then ((hk3.mono (fun _ _ h => h.elim)).trans hk4) (fun k h1 h2 => by have := HF.out k h2; omega))
  have HFQ := Lib.hid (show ∀ k, NFoot g c d (cS 0 true v []) k → k ≠ w3.heap.size from fun k h e => by have := hfl k h; omega)
  generalize w3.heap.size = q at *
  have HQ4 := Lib.hid hq4
  have hbd := HI.out
  have hbm := HM.out
  have hbo := HOT.out
  obtain ⟨hI1, hI2⟩ := hbd
  obtain ⟨hM1, hM2⟩ := hbm
  obtain ⟨hO1, hO2⟩ := hbo
  clear hq3 hk3 hfl hn4 hk4 hq4 HN HO
  simp only [arpCells]
  go_wp2_with fail
  have hk5 := (Only.refl (fun _ => False) w4).alloc (.cells #[.int .i64 2, .int .i64 2, .int .i64 10, .int .i64 M, .int .i64 I] 31)
  have hp5 := blk_new w4 (.cells #[.int .i64 2, .int .i64 2, .int .i64 10, .int .i64 M, .int .i64 I] 31)
  refine (look_any (cS 1 true v [(I, M, 1)]) g c d _ I 1 (HN4.out.keep hk5) (nok_of _ 50 4 _ _ 1 _ _ [(I, M, 1)] _ (by decide) (by decide) (by decide) (fun p hp => by rw [List.mem_singleton.1 hp]; exact ⟨(by decide : (0 : Int) ≤ 1), (by decide : (1 : Int) ≤ 1)⟩))).mono ?_
  rintro e w5 ⟨rfl, hk6⟩
  rw [cfind 1 true v I M 1 1 (by decide)]
  simp only [Option.getD_some, Option.isSome_some]
  have HN5 := Lib.hid ((HN4.out.keep hk5).keep hk6)
  have HO5 := Lib.hid ((HO4.out.then hk5 (fun _ _ h => h)).then hk6 (fun _ _ h => h))
  have HQ5 := Lib.hid (hk6.at (hk5.at HQ4.out (fun h => h)) (fun h => h))
  have hp6 := hk6.at hp5 (fun h => h)
  have c1 := blk_cell hp6 1
  have c2 := blk_cell hp6 2
  have c3 := blk_cell hp6 3
  have c4 := blk_cell hp6 4
  simp only [List.getElem?_toArray, List.getElem?_cons_zero, List.getElem?_cons_succ] at c1 c2 c3 c4
  clear hk5 hk6 hp5 hp6 HN4 HO4 HQ4
  go_wp2_with fail
  have hq := claim_any O 10 w5
  rw [amade_is hbig.out.2.2.1, arC_is hbig.out.2.2.1] at hq
  refine hq.mono ?_
  rintro e w6 ⟨rfl, hk6⟩
  have HN6 := Lib.hid (HN5.out.keep hk6)
  have HO6 := Lib.hid (HO5.out.then hk6 (fun _ _ h => h))
  have HQ6 := Lib.hid (hk6.at HQ5.out (fun h => h))
  clear hq hk6 c1 c2 c3 c4 HN5 HO5 HQ5
  simp only
  go_wp2_with fail
  have hk7 := (Only.refl (fun _ => False) w6).alloc (.cells #[.int .i64 1, .int .i64 O, .int .i64 10, .int .i64 0, .int .i64 10] 31)
  have hb7 := blk_new w6 (.cells #[.int .i64 1, .int .i64 O, .int .i64 10, .int .i64 0, .int .i64 10] 31)
  have hfl := fun k h => HN6.out.foot_lt rfl k h
  have hql6 := heap_lt HQ6.out
  refine (take_there _ g c d (cS 1 true v [(I, M, 1)]) 1 O 10 0 10 2 ⟨0, 0, false, .slice none 0 0, []⟩ (HN6.out.keep hk7) (nok_of _ 50 4 _ _ 2 _ _ [(I, M, 1)] _ (by decide) (by decide) (by decide) (fun p hp => by rw [List.mem_singleton.1 hp]; exact ⟨(by decide : (0 : Int) ≤ 1), (by decide : (1 : Int) ≤ 2)⟩)) (by decide) (arC_is hbig.out.2.2.1) (by show (1 : Int) ≤ 2; decide) (by decide) rfl (by show (O != 2) = true; simp; omega)).mono ?_
  rintro e w8 ⟨rfl, hn8, hk8⟩
  have HN8 := Lib.hid (show NAt w8 g c d (cS 2 true v [(I, M, 1)]) from hn8)
  have HFL := Lib.hid (show ∀ k, NFoot g c d (cS 1 true v [(I, M, 1)]) k → W.heap.size ≤ k ∧ k ≠ q from fun k h => ⟨HF.out k h, HFQ.out k h⟩)
  have HO8 := Lib.hid (HO6.out.then ((hk7.mono (fun _ _ h => h.elim)).trans hk8) (fun k h1 h2 => by have := (HFL.out k h2).1; omega))
  have HQ8 := Lib.hid (hk8.at (hk7.at HQ6.out (fun h => h)) (fun h => (HFL.out q h).2 rfl))
  have hb8 := hk8.at hb7 (fun h => Nat.lt_irrefl _ (hfl _ h))
  have HBN := Lib.hid (show q < w6.heap.size from hql6)
  have HFB := Lib.hid (show ∀ k, NFoot g c d (cS 1 true v [(I, M, 1)]) k → k ≠ w6.heap.size from fun k h e => by have := hfl k h; omega)
  generalize w6.heap.size = b at *
  have HB8 := Lib.hid hb8
  clear hk7 hb7 hb8 hfl hn8 hk8 HN6 HO6 HQ6 hql6
  simp only [arpCells]
  go_wp2_with fail
  have hk9 := (Only.refl (fun _ => False) w8).alloc (.cells #[.int .i64 0, .int .i64 0, .int .i64 0, .int .i64 0, .int .i64 0] 31)
  have hq := claim_any O I (w8.alloc (.cells #[.int .i64 0, .int .i64 0, .int .i64 0, .int .i64 0, .int .i64 0] 31))
  rw [amade_is hbig.out.2.2.2, arC_is hbig.out.2.2.2] at hq
  refine hq.mono ?_
  rintro e w9 ⟨rfl, hk10⟩
  have HN9 := Lib.hid ((HN8.out.keep hk9).keep hk10)
  have HO9 := Lib.hid ((HO8.out.then hk9 (fun _ _ h => h)).then hk10 (fun _ _ h => h))
  have HQ9 := Lib.hid (hk10.at (hk9.at HQ8.out (fun h => h)) (fun h => h))
  have hb9 := hk10.at (hk9.at HB8.out (fun h => h)) (fun h => h)
  obtain ⟨z0, z1, z2, z3, z4, q0, q1, q2, q3, q4⟩ := arp_cells (a := ⟨1, O, 10, 0, 10⟩) hb9
  clear hq hk9 hk10 HN8 HO8 HQ8 HB8
  simp only
  have hbl9 := heap_lt hb9
  go_wp2_with fail
  have hs10 := arp_set (x := ⟨1, O, 10, 0, 10⟩) hb9 ⟨1, O, I, 0, I⟩
  have hk10 := arp_set_only w9 b ⟨1, O, I, 0, I⟩
  simp only at hs10 hk10
  have hn10 := HN9.out.arp hb9 hk10
  have HO10 := Lib.hid ((HO9.out.mono (S' := fun k => k = b) (fun _ _ h => h.elim)).trans hk10)
  have HQ10 := Lib.hid (hk10.at HQ9.out (by have := HBN.out; omega))
  generalize (World.setCell (World.setCell (World.setCell (World.setCell (World.setCell w9 ⟨b, 0, none⟩ (.int .i64 1)) ⟨b, 1, none⟩ (.int .i64 O)) ⟨b, 2, none⟩ (.int .i64 I)) ⟨b, 3, none⟩ (.int .i64 0)) ⟨b, 4, none⟩ (.int .i64 I)) = w10 at hs10 hn10 HO10 HQ10 ⊢
  have HWb := Lib.hid (show W.heap.size ≤ b by have := HBN.out; omega)
  refine (take_known _ g c d (cS 2 true v [(I, M, 1)]) 1 O I 0 I 3 ⟨0, 0, false, .slice none 0 0, []⟩ hn10 (nok_of _ 50 4 _ _ 3 _ _ [(I, M, 1)] _ (by decide) (by decide) (by decide) (fun p hp => by rw [List.mem_singleton.1 hp]; exact ⟨(by decide : (0 : Int) ≤ 1), (by decide : (1 : Int) ≤ 3)⟩)) (by omega) (arC_is hbig.out.2.2.2) (by show (2 : Int) ≤ 3; decide) (by decide) (by show (true && decide (I = 10)) = false; simp; omega) (by show ((1 == 1) && (true && decide (I = 10))) = false; simp; omega) rfl (by show ((cS 3 true v [(I, M, 1)]).find I 3).isSome = true; rw [cfind 3 true v I M 1 3 (by decide)]; rfl) (by rw [ckept]; show (0 : Int) < 9; decide) (fun p hp => by rw [List.mem_singleton.1 hp]; exact HIW.out) (by show 1 ≤ 4096; decide)).mono ?_
  rintro e w11 ⟨rfl, hn11, hk11⟩
  rw [cS_again] at hn11
  have HN11 := Lib.hid hn11
  have HO11 := Lib.hid (HO10.out.then hk11 (fun k h1 h2 => by have := (HFL.out k h2).1; omega))
  have HQ11 := Lib.hid (hk11.at HQ10.out (fun h => (HFL.out q h).2 rfl))
  clear z0 z1 z2 z3 z4 q0 q1 q2 q3 q4 hb9 hbl9 hs10 hk10 hn10 hn11 hk11 HN9 HO9 HQ9 HO10 HQ10
  go_wp2_with fail
  refine (look_any (cS 3 true v [(I, O, 3)]) g c d _ I 3 HN11.out (nok_of _ 50 4 _ _ 3 _ _ [(I, O, 3)] _ (by decide) (by decide) (by decide) (fun p hp => by rw [List.mem_singleton.1 hp]; exact ⟨(by decide : (0 : Int) ≤ 3), (by decide : (3 : Int) ≤ 3)⟩))).mono ?_
  rintro e w12 ⟨rfl, hk12⟩
  rw [cfind 3 true v I O 3 3 (by decide)]
  simp only [Option.getD_some, Option.isSome_some]
  have HN12 := Lib.hid (HN11.out.keep hk12)
  have HO12 := Lib.hid (HO11.out.then hk12 (fun _ _ h => h.elim))
  have HQ12 := Lib.hid (hk12.at HQ11.out (fun h => h))
  clear hk12 HN11 HO11 HQ11
  go_wp2_with fail
  refine (own_away w12 g c d (cS 3 true v [(I, O, 3)]) HN12.out.cell HN12.out.own rfl).mono ?_
  rintro e w13 ⟨v2, rfl, hg13, ho13, hv13, hk13⟩
  have hn13 := HN12.out.away rfl hg13 ho13 hk13
  have HN13 := Lib.hid (show NAt w13 g c d (cS 3 false v2 [(I, O, 3)]) from hn13)
  have hin : ∀ k, (k = g ∨ (cS 3 true v [(I, O, 3)]).own.ownBlock = some k) → NFoot g c d (cS 1 true v [(I, M, 1)]) k := fun k h => h.elim (fun h => .inl h) (fun h => .inr (.inr (.inr (.inl h))))
  have HO13 := Lib.hid (HO12.out.then hk13 (fun k h1 h2 => by have := (HFL.out k (hin k h2)).1; omega))
  have hq13 := hk13.at HQ12.out (fun h => (HFL.out q (hin q h)).2 rfl)
  have HF13 := Lib.hid (show ∀ k, NFoot g c d (cS 3 false v2 [(I, O, 3)]) k → W.heap.size ≤ k from fun k h => by
    rcases h with h | h | h | h | ⟨p, hp, _⟩
    · exact (HFL.out k (.inl h)).1
    · exact (HFL.out k (.inr (.inl h))).1
    · exact (HFL.out k (.inr (.inr (.inl h)))).1
    · exact (HFL.out k (.inr (.inr (.inr (.inl (by rw [← h]; exact hv13.symm)))))).1
    · cases hp)
  obtain ⟨z0, z1, z2, z3, z4, q0, q1, q2, q3, q4⟩ := arp_cells (a := ⟨1, M, I, 0, 10⟩) hq13
  clear hg13 ho13 hv13 hk13 hn13 hin HN12 HO12 HQ12 HFL
  go_wp2_with fail
  refine (take_known _ g c d (cS 3 false v2 [(I, O, 3)]) 1 M I 0 10 4 ⟨0, 0, false, .slice none 0 0, []⟩ HN13.out (nok_of _ 50 4 _ _ 4 _ _ [(I, O, 3)] _ (by decide) (by decide) (by decide) (fun p hp => by rw [List.mem_singleton.1 hp]; exact ⟨(by decide : (0 : Int) ≤ 3), (by decide : (3 : Int) ≤ 4)⟩)) (by omega) (arC_is hbig.out.1) (by show (3 : Int) ≤ 4; decide) (by decide) rfl rfl rfl (by show ((cS 4 false v2 [(I, O, 3)]).find I 4).isSome = true; rw [cfind 4 false v2 I O 3 4 (by decide)]; rfl) (by rw [ckept]; show (0 : Int) < 9; decide) (fun p hp => by rw [List.mem_singleton.1 hp]; exact HIW.out) (by show 1 ≤ 4096; decide)).mono ?_
  rintro e w14 ⟨rfl, hn14, hk14⟩
  have HO14 := Lib.hid (HO13.out.then hk14 (fun k h1 h2 => by have := HF13.out k h2; have := HWb.out; omega))
  clear z0 z1 z2 z3 z4 q0 q1 q2 q3 q4 hq13 hn14 hk14 HN13 HO13 HF13
  simp only [arpCells]
  go_wp2_with fail
  go_ret
  exact ⟨rfl, ((HO14.out.alloc _)).below (Nat.le_refl _) (fun k h e => by have := HWb.out; omega)⟩

end Go.Proofs.Ythgkdfllddljcaa

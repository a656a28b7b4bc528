/-
  samePackets of the laws, at two rows of one like packet; works.
  Conditions: numbers are of the kind int.
-/
import Derived.Test.YthgkdfllddljcaaNeiSend
import Derived.Test.YthgkdfllddljcaaNeiNew
import Derived.Test.YthgkdfllddljcaaNeiTakeW
set_option linter.unusedVariables false
set_option linter.unusedSimpArgs false
set_option maxRecDepth 100000
namespace Go.Proofs.Ythgkdfllddljcaa
open Go.RowKit

set_option maxHeartbeats 2000000 in
theorem same_one (w : World) (ba bb ca cb : Nat) (to i : Int) (hA : ∀ j u, (pk to i)[j]? = some u → w.cell? ⟨ba, j, none⟩ = some u) (hB : ∀ j u, (pk to i)[j]? = some u → w.cell? ⟨bb, j, none⟩ = some u) :
    Calls Try.prog 20 #[.slice (some ⟨ba, 0, none⟩) 1 ca, .slice (some ⟨bb, 0, none⟩) 1 cb] w fun e w' => e = .returned (.bool true) ∧ Only (fun _ => False) w w' := by
  have HA := Lib.hid hA
  have HB := Lib.hid hB
  clear hA hB
  go_enter Try.func20, Try.ntmps20
  go_wp2_with fail
  go_loopw [5] (fun v wr => (v = .int .i64 0 ∨ v = .int .i64 1) ∧ Only (fun _ => False) w wr) (fun v _ => 1 - (intOf v).toNat)
  case atStart => exact ⟨.inl rfl, Only.refl _ _⟩
  case round =>
    obtain ⟨rfl | rfl, hO⟩ := hrel
    · have a0 := cell_only hO (fun h => h) (HA.out 0 _ rfl)
      have a1 := cell_only hO (fun h => h) (HA.out 1 _ rfl)
      have a2 := cell_only hO (fun h => h) (HA.out 2 _ rfl)
      have a3 := cell_only hO (fun h => h) (HA.out 3 _ rfl)
      have a4 := cell_only hO (fun h => h) (HA.out 4 _ rfl)
      have a5 := cell_only hO (fun h => h) (HA.out 5 _ rfl)
      have a6 := cell_only hO (fun h => h) (HA.out 6 _ rfl)
      have a7 := cell_only hO (fun h => h) (HA.out 7 _ rfl)
      have a8 := cell_only hO (fun h => h) (HA.out 8 _ rfl)
      have a9 := cell_only hO (fun h => h) (HA.out 9 _ rfl)
      have b0 := cell_only hO (fun h => h) (HB.out 0 _ rfl)
      have b1 := cell_only hO (fun h => h) (HB.out 1 _ rfl)
      have b2 := cell_only hO (fun h => h) (HB.out 2 _ rfl)
      have b3 := cell_only hO (fun h => h) (HB.out 3 _ rfl)
      have b4 := cell_only hO (fun h => h) (HB.out 4 _ rfl)
      have b5 := cell_only hO (fun h => h) (HB.out 5 _ rfl)
      have b6 := cell_only hO (fun h => h) (HB.out 6 _ rfl)
      have b7 := cell_only hO (fun h => h) (HB.out 7 _ rfl)
      have b8 := cell_only hO (fun h => h) (HB.out 8 _ rfl)
      have b9 := cell_only hO (fun h => h) (HB.out 9 _ rfl)
      go_wp2_with fail
      go_quiet (fail)
      go_wp2_with fail
      go_roundw
      case rel => exact ⟨.inr (by go_num), hO.drewN _⟩
      case measure => simp [intOf]
    · go_wp2_with fail
      go_ret
      exact ⟨rfl, hO⟩

theorem arp_small {op fm fi tm ti : Int} (h : op = 1 ∨ op = 2) (h1 : 0 ≤ fm ∧ fm < 1099511627776) (h2 : 0 ≤ tm ∧ tm < 1099511627776) (h3 : 0 ≤ fi ∧ fi ≤ 4294967295) (h4 : 0 ≤ ti ∧ ti ≤ 4294967295) : ArpOk op fm fi tm ti := by
  refine ⟨h, ⟨h1.1, by omega⟩, ?_, ⟨h2.1, by omega⟩, h3, h4⟩
  unfold groupB
  have : fm / 1099511627776 = 0 := by omega
  rw [this]
  decide
theorem amade_is {op fm fi tm ti : Int} (h : ArpOk op fm fi tm ti) : amade op fm fi tm ti = ⟨op, fm, fi, tm, ti⟩ := if_pos h
theorem arC_is {op fm fi tm ti : Int} (h : ArpOk op fm fi tm ti) : arC op fm fi tm ti = 0 := if_pos h
theorem atold_is {fm fi tm ti mac : Int} (h : ArpOk 1 fm fi tm ti) : atold 1 fm fi tm ti mac = amade 2 mac ti fm fi := if_pos ⟨h, rfl⟩
theorem atolC_is {fm fi tm ti mac : Int} (h : ArpOk 1 fm fi tm ti) : atolC 1 fm fi tm ti mac = arC 2 mac ti fm fi := if_pos ⟨h, rfl⟩

theorem nok_of (mac age pat room waits now : Int) (mine : Bool) (own : Value) (K : List (Int × Int × Int)) (A : List (Int × Asked)) (ha : 1 ≤ age ∧ age ≤ 1048576) (hp : 1 ≤ pat ∧ pat ≤ 1048576) (hn : 0 ≤ now ∧ now ≤ 1099511627776) (hk : ∀ p ∈ K, 0 ≤ p.2.2 ∧ p.2.2 ≤ now) : NOk ⟨mac, age, pat, room, waits, now, mine, own, K, A⟩ :=
  ⟨ha.1, ha.2, hp.1, hp.2, hn.1, hn.2, hk⟩

set_option maxHeartbeats 8000000 in
/-- The chapter's example. -/
theorem works_any (w : World) : Calls Try.prog 8 #[] w fun e w' => e = .returned (.bool true) ∧ Only (fun _ => False) w w' := by
  have hA1 : ArpOk 1 2 10 0 11 := arp_small (.inl rfl) (by decide) (by decide) (by decide) (by decide)
  have hA2 : ArpOk 2 7 11 2 10 := arp_small (.inr rfl) (by decide) (by decide) (by decide) (by decide)
  have HA1 := Lib.hid hA1
  have HA2 := Lib.hid hA2
  clear hA1 hA2
  go_enter Try.func8, Try.ntmps8
  go_wp2_with fail
  refine (cache_any w).mono ?_
  rintro e w1 ⟨g, c, d, v, rfl, hn, hf, hk⟩
  have HN := Lib.hid hn
  have HF := Lib.hid hf
  have HK := Lib.hid hk
  have hls := hk.size
  clear hn hf hk
  go_wp2_with fail
  have hal := (Only.refl (fun _ => False) w1).alloc (.cells #[.int .i64 10, .int .i64 11, .int .i64 9, .int .i64 0, .int .i64 0, .int .i64 0, .bool false, .bool false, .string ⟨#[]⟩, .string ⟨#[]⟩] 47)
  have hq := blk_new w1 (.cells #[.int .i64 10, .int .i64 11, .int .i64 9, .int .i64 0, .int .i64 0, .int .i64 0, .bool false, .bool false, .string ⟨#[]⟩, .string ⟨#[]⟩] 47)
  have hsz := World.size_alloc w1 (.cells #[.int .i64 10, .int .i64 11, .int .i64 9, .int .i64 0, .int .i64 0, .int .i64 0, .bool false, .bool false, .string ⟨#[]⟩, .string ⟨#[]⟩] 47)
  have hn1 := HN.out.keep hal
  have hflt := fun k h => HN.out.foot_lt rfl k h
  refine (send_first _ g c d _ 11 0 1 hn1 (nok_of _ 50 4 _ _ 1 _ _ [] _ (by decide) (by decide) (by decide) (fun p hp => (by cases hp))) rfl (by decide) (by decide) (by show (0 : Int) ≤ 1; decide) (by decide) rfl (by show (0 : Int) < 30; decide) (by show 0 ≤ 1099511627776; decide) rfl).mono ?_
  rintro e w2 ⟨blk, ws, rfl, hn2, hb1, hb2, hk2⟩
  have hq2 := hk2.at hq (fun h => by have := hflt _ h; omega)
  have HN2 := Lib.hid hn2
  have HQ2 := Lib.hid hq2
  have HO2 := Lib.hid (show Only (fun _ => False) w w2 from HK.out.then ((hal.mono (fun _ _ h => h.elim)).trans hk2) (fun k h1 h2 => by have := HF.out k h2; omega))
  have HB2 := Lib.hid (show w1.heap.size + 1 ≤ w2.heap.size by have := hk2.size; omega)
  rw [hsz] at hb1 hb2
  have HF1 : Hid (∀ k, NFoot g c d ⟨2, 50, 4, 9, 30, 1, true, v, [], [(11, ⟨blk, 1, false, ws, [0]⟩)]⟩ k → w.heap.size ≤ k ∧ k ≠ w1.heap.size) := Lib.hid (by
    have hold : ∀ k, NFoot g c d ⟨2, 50, 4, 9, 30, 0, true, v, [], []⟩ k → w.heap.size ≤ k ∧ k ≠ w1.heap.size := fun k h => ⟨HF.out k h, by have := hflt k h; omega⟩
    rintro k (h | h | h | h | ⟨p, hp, h⟩)
    · exact hold k (.inl h)
    · exact hold k (.inr (.inl h))
    · exact hold k (.inr (.inr (.inl h)))
    · exact hold k (.inr (.inr (.inr (.inl h))))
    · rw [List.mem_singleton.1 hp] at h
      rcases h with h | h
      · have h' : k = blk := h
        omega
      · have := hb2 k h
        omega)
  generalize w1.heap.size = q at *
  clear hn1 hn2 hq hq2 hk2 hal hsz hflt HN
  rw [show amade 1 (NS.mac ⟨2, 50, 4, 9, 30, 0, true, v, [], []⟩) 10 0 11 = ⟨1, 2, 10, 0, 11⟩ from amade_is HA1.out]
  simp only [arpCells]
  go_wp2_with fail
  have ht := tell_any 1 2 10 0 11 7 (w2.alloc (.cells #[.int .i64 1, .int .i64 2, .int .i64 10, .int .i64 0, .int .i64 11] 31))
  rw [atold_is HA1.out, atolC_is HA1.out, amade_is HA2.out, arC_is HA2.out] at ht
  refine ht.mono ?_
  rintro e w3 ⟨rfl, hk3⟩
  have hk3' := ((Only.refl (fun _ => False) w2).alloc (.cells #[.int .i64 1, .int .i64 2, .int .i64 10, .int .i64 0, .int .i64 11] 31)).then hk3 (fun _ _ h => h)
  replace HN2 := Lib.hid (HN2.out.keep hk3')
  replace HQ2 := Lib.hid (hk3'.at HQ2.out (fun h => h))
  replace HO2 := Lib.hid (HO2.out.then hk3' (fun _ _ h => h))
  replace HB2 := Lib.hid (show q + 1 ≤ w3.heap.size by have := hk3'.size; have := HB2.out; omega)
  clear hk3 hk3' ht
  go_wp2_with fail
  have hal := (Only.refl (fun _ => False) w3).alloc (.cells #[.int .i64 2, .int .i64 7, .int .i64 11, .int .i64 2, .int .i64 10] 31)
  have hflt := fun k h => HN2.out.foot_lt rfl k h
  refine (take_waits _ g c d _ 2 7 11 2 10 2 ⟨blk, 1, false, ws, [0]⟩ (HN2.out.keep hal) (nok_of _ 50 4 _ _ 2 _ _ [] _ (by decide) (by decide) (by decide) (fun p hp => (by cases hp))) (by decide) (arC_is HA2.out) (by show (1 : Int) ≤ 2; decide) (by decide) rfl rfl rfl (by simp) (by show (0 : Int) < 9; decide) (fun p hp => (by cases hp)) (by show 0 ≤ 4096; decide)).mono ?_
  rintro e w4 ⟨rfl, hn4, hrow, hk4⟩
  have hq4 := hk4.at (blk_alloc HQ2.out _) (fun h => (HF1.out q h).2 rfl)
  have hO4 := HO2.out.then ((hal.mono (fun _ _ h => h.elim)).trans hk4) (fun k h1 h2 => by have := (HF1.out k h2).1; omega)
  obtain ⟨hrl, ⟨hw, h0⟩ | ⟨gb, cap, cur, hw, hb, hgb, hc1, hm1, hs1, ht1⟩⟩ := hrow
  · cases h0
  have hws : ws = .slice (some ⟨gb, 0, none⟩) 1 cap := hw
  subst hws
  have hcur : ∀ (j : Nat) (u : Value), (pk 11 0)[j]? = some u → cur[j]? = some u := by
    intro j u hj
    have hj2 : j < 10 := by
      have := (List.getElem?_eq_some_iff.1 hj).1
      simpa [pk] using this
    have e : pks 11 [0] = pk 11 0 := by simp [pks]
    rw [← e, ← ht1, List.getElem?_take, if_pos (by show j < 1 * 10; omega), Array.getElem?_toList] at hj
    simpa [pk] using hj
  have HG4 := Lib.hid hgb
  have HQ4 := Lib.hid hq4
  have HO4 := Lib.hid hO4
  have HCU := Lib.hid hcur
  clear hw hrl hb hgb hc1 hm1 hs1 ht1 hcur hq4 hO4 hk4 hal hflt hb1 hb2
  have c0 := blk_cell HQ4.out 0
  have c1 := blk_cell HQ4.out 1
  have c2 := blk_cell HQ4.out 2
  have c3 := blk_cell HQ4.out 3
  have c4 := blk_cell HQ4.out 4
  have c5 := blk_cell HQ4.out 5
  have c6 := blk_cell HQ4.out 6
  have c7 := blk_cell HQ4.out 7
  have c8 := blk_cell HQ4.out 8
  have c9 := blk_cell HQ4.out 9
  simp only [List.getElem?_toArray, List.getElem?_cons_zero, List.getElem?_cons_succ] at c0 c1 c2 c3 c4 c5 c6 c7 c8 c9
  have hk5 := (Only.refl (fun _ => False) w4).alloc (.cells (arpCells ⟨0, 0, 0, 0, 0⟩) 31)
  replace c0 := cell_only hk5 (fun h => h) c0
  replace c1 := cell_only hk5 (fun h => h) c1
  replace c2 := cell_only hk5 (fun h => h) c2
  replace c3 := cell_only hk5 (fun h => h) c3
  replace c4 := cell_only hk5 (fun h => h) c4
  replace c5 := cell_only hk5 (fun h => h) c5
  replace c6 := cell_only hk5 (fun h => h) c6
  replace c7 := cell_only hk5 (fun h => h) c7
  replace c8 := cell_only hk5 (fun h => h) c8
  replace c9 := cell_only hk5 (fun h => h) c9
  simp only [arpCells] at c0 c1 c2 c3 c4 c5 c6 c7 c8 c9 hk5 ⊢
  go_wp2_with fail
  have hkz := hk5.alloc (.cells #[.int .i64 10, .int .i64 11, .int .i64 9, .int .i64 0, .int .i64 0, .int .i64 0, .bool false, .bool false, .string ⟨#[]⟩, .string ⟨#[]⟩] 47)
  refine (same_one _ gb _ cap 1 11 0 ?_ ?_).mono ?_
  · intro j u hj
    have h1 := blk_cell (hkz.at HG4.out (fun h => h)) j
    rw [h1]; exact HCU.out j u hj
  · intro j u hj
    have h1 := blk_cell (blk_new (w4.alloc (.cells #[.int .i64 0, .int .i64 0, .int .i64 0, .int .i64 0, .int .i64 0] 31)) (.cells #[.int .i64 10, .int .i64 11, .int .i64 9, .int .i64 0, .int .i64 0, .int .i64 0, .bool false, .bool false, .string ⟨#[]⟩, .string ⟨#[]⟩] 47)) j
    rw [World.size_alloc] at h1
    rw [h1]
    simpa [pk] using hj
  rintro e w5 ⟨rfl, hk6⟩
  go_wp2_with fail
  go_ret
  exact ⟨rfl, HO4.out.then (hkz.then hk6 (fun _ _ h => h)) (fun _ _ h => h)⟩
end Go.Proofs.Ythgkdfllddljcaa

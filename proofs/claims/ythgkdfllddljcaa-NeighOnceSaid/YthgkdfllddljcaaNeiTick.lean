/-
  The contract of Tick of package neigh: who is asked for again, who is given up, what is lost.
  Conditions: numbers are of the kind int, the cache's own in their bounds; the cache has the address 10.
-/
import Derived.Test.YthgkdfllddljcaaNeiLost
import Derived.Test.YthgkdfllddljcaaNeiAsk
import Derived.Test.YthgkdfllddljcaaNeiWait
import Derived.Test.YthgkdfllddljcaaNeiLearn
import Derived.BigQuiet
set_option linter.unusedVariables false
set_option linter.unusedSimpArgs false
set_option maxRecDepth 100000
namespace Go.Proofs.Ythgkdfllddljcaa
open Go.RowKit


theorem pks_one (a : Int) : ∀ (L : List Int), ∀ u ∈ pks a L, u.oneCell' = true := by
  intro L u hu
  unfold pks at hu
  obtain ⟨l, hl, hul⟩ := List.mem_flatten.1 hu
  obtain ⟨i, _, rfl⟩ := List.mem_map.1 hl
  simp only [pk, List.mem_cons, List.not_mem_nil, or_false] at hul
  rcases hul with rfl | rfl | rfl | rfl | rfl | rfl | rfl | rfl | rfl | rfl <;> rfl
theorem le_sum : ∀ {l : List Nat} {x : Nat}, x ∈ l → x ≤ l.sum
  | [], _, h => by cases h
  | y :: l, x, h => by
    rw [List.sum_cons]
    rcases List.mem_cons.1 h with rfl | h
    · omega
    · have := le_sum h; omega
theorem le_waiting {s : NS} {p : Int × Asked} (h : p ∈ s.A) : p.2.L.length ≤ s.waiting := by
  unfold NS.waiting
  exact le_sum (List.mem_map_of_mem (f := fun p : Int × Asked => p.2.L.length) h)
theorem row_base {w : World} {B B' m n : Nat} {T : TypeId} {v : Value} {vs : List Value} (h : w.ownsRow B T m v n vs) (hB : B' ≤ B) : w.ownsRow B' T m v n vs := by
  obtain ⟨h1, h2 | ⟨b, cap, cur, h2, h3, h4⟩⟩ := h
  · exact ⟨h1, .inl h2⟩
  · exact ⟨h1, .inr ⟨b, cap, cur, h2, by omega, h4⟩⟩
/-- A row's cells. -/
theorem row_cells {w : World} {B m n : Nat} {T : TypeId} {v : Value} {vs : List Value} (h : w.ownsRow B T m v n vs) (hn : n ≠ 0) : ∃ gb cap, v = .slice (some ⟨gb, 0, none⟩) n cap ∧ ∀ j u, vs[j]? = some u → w.cell? ((⟨gb, 0, none⟩ : Addr).add j) = some u := by
  obtain ⟨hl, ⟨_, h0⟩ | ⟨gb, cap, cur, rfl, _, hg, _, _, _, ht⟩⟩ := h
  · exact absurd h0 hn
  · refine ⟨gb, cap, rfl, fun j u hj => ?_⟩
    rw [Addr.add_lit, Nat.zero_add, blk_cell hg]
    rw [← ht, List.getElem?_take] at hj
    split at hj
    · simpa using hj
    · cases hj

/-- Where Tick's loop stands. -/
structure TInv (W1 : World) (g c d : Nat) (s : NS) (ks : List Int) (k : Nat) (va vl : Value) (wr : World) (s' : NS) (lost : List (Int × Int)) (m : Nat) (ys : List Value) : Prop where
  cache : NAt wr g c d s'
  ticked : Ticked s s' lost
  left : ∀ j, k ≤ j → j < ks.length → s'.A.find? (fun p => p.1 == ks.getD j 0) = s.A.find? (fun p => p.1 == ks.getD j 0)
  rowL : wr.ownsRow W1.heap.size 47 10 vl lost.length (pksOf lost)
  rowA : wr.ownsRow W1.heap.size 31 5 va m ys
  few : m ≤ k
  only : Only (NFoot g c d s) W1 wr

set_option maxHeartbeats 8000000 in
theorem tick_all (w : World) (g c d : Nat) (s0 : NS) (now : Int) (hN : NAt w g c d s0) (hm : s0.mine = true) (h0 : s0.now ≤ now) (h1 : now ≤ 1099511627776) (hat : ∀ p ∈ s0.A, 0 ≤ p.2.at_ ∧ p.2.at_ ≤ 1099511627776)
    (hwf : ∀ p ∈ s0.A, (Lit.int .i64 p.1).wf = true) (hlen : s0.A.length ≤ 4096) (hne : ∀ p ∈ s0.A, p.2.L ≠ []) (hpat : 1 ≤ s0.pat ∧ s0.pat ≤ 1048576) (hwt : s0.waiting ≤ 100000) :
    Calls Try.prog 17 #[.pointer (some ⟨g, 0, none⟩), .int .i64 now] w fun e w' => ∃ va vl s' lost, e = .returned (.tuple #[va, vl, .int .i64 0]) ∧ NAt w' g c d s' ∧ Ticked { s0 with now := now } s' lost ∧ w'.ownsRow w.heap.size 47 10 vl lost.length (pksOf lost) ∧ Only (NFoot g c d s0) w w' := by
  have HN := Lib.hid hN
  have HFL := Lib.hid (hN.foot_lt hm)
  go_enter Try.func17, Try.ntmps17
  go_wp2_with fail
  refine (tick_ok w g c d s0 now hN h0 h1).mono ?_
  rintro e w1 ⟨rfl, hn1, hk1⟩
  obtain ⟨s, hs⟩ : ∃ s : NS, ({ s0 with now := now } : NS) = s := ⟨_, rfl⟩
  rw [hs] at hn1
  have HAT : Hid (∀ p ∈ s.A, 0 ≤ p.2.at_ ∧ p.2.at_ ≤ 1099511627776) := Lib.hid (by subst hs; exact hat)
  have HWF : Hid (∀ p ∈ s.A, (Lit.int .i64 p.1).wf = true) := Lib.hid (by subst hs; exact hwf)
  have HNE : Hid (∀ p ∈ s.A, p.2.L ≠ []) := Lib.hid (by subst hs; exact hne)
  have HLE : Hid (s.A.length ≤ 4096) := Lib.hid (by subst hs; exact hlen)
  have HPA : Hid (1 ≤ s.pat ∧ s.pat ≤ 1048576) := Lib.hid (by subst hs; exact hpat)
  have HWT : Hid (s.waiting ≤ 100000) := Lib.hid (by subst hs; exact hwt)
  have HM : Hid (s.mine = true) := Lib.hid (by subst hs; exact hm)
  have HNOW : Hid (s.now = now) := Lib.hid (by subst hs; rfl)
  have HF2 : Hid (∀ k, NFoot g c d s k → NFoot g c d s0 k) := Lib.hid (by subst hs; exact fun k h => h)
  have HH := Lib.hid (show 0 ≤ now ∧ now ≤ 1099511627776 ∨ True from .inr trivial)
  have HNB := Lib.hid h1
  have HSE := Lib.hid hs
  have x8 := blk_cell hn1.cell 8
  simp only [NS.cells, List.getElem?_toArray, List.getElem?_cons_zero, List.getElem?_cons_succ] at x8
  have HN1 := Lib.hid hn1
  have HO1 := Lib.hid (hk1.mono (S' := NFoot g c d s0) (fun k _ h => .inl h))
  have HZ1 := Lib.hid hk1.size
  clear hN hm h0 h1 hat hwf hlen hne hpat hwt hs hn1 hk1 HN
  go_wp2_with fail
  refine (keys_any (some d) w1).mono ?_
  rintro e _ ⟨rfl, rfl⟩
  go_wp2_with fail
  have hel : (encW s.A).length = s.A.length := by simp [encW]
  refine (sorted_any d (encW s.A) w1 HN1.out.amap (fun p hp => ?_) (by rw [hel]; have := HLE.out; omega)).mono ?_
  · obtain ⟨y, hy, rfl⟩ := List.mem_map.1 hp
    exact HWF.out y hy
  rintro e W1 ⟨v, rfl, hrow, hk2⟩
  obtain ⟨hKl, la, lcap, rfl, hlcap, hlc⟩ := ints_lie hrow
  have HLC := Lib.hid hlc
  have hnl : (keysUp (encW s.A)).length = s.A.length := by
    unfold keysUp
    rw [List.length_mergeSort, List.length_map, hel]
  have hperm : (keysUp (encW s.A)).Perm (s.A.map Prod.fst) := by
    unfold keysUp
    refine (List.mergeSort_perm _ _).trans ?_
    unfold encW
    rw [List.map_map]
    exact List.Perm.refl _
  have HMEM := Lib.hid (show ∀ j, j < (keysUp (encW s.A)).length → ∃ x, ((keysUp (encW s.A)).getD j 0, x) ∈ s.A from fun j hj => by
    have h1 : (keysUp (encW s.A)).getD j 0 ∈ keysUp (encW s.A) := by rw [List.getD, List.getElem?_eq_getElem hj]; exact List.getElem_mem hj
    obtain ⟨p, hp, he⟩ := List.mem_map.1 (hperm.mem_iff.1 h1)
    exact ⟨p.2, by rw [← he]; exact hp⟩)
  have HND := Lib.hid (show (keysUp (encW s.A)).Nodup from hperm.nodup_iff.2 HN1.out.keysA)
  have HN2 := Lib.hid (HN1.out.keep hk2)
  have HO2 := Lib.hid (HO1.out.then hk2 (fun _ _ h => h.elim))
  have HZ2 := Lib.hid (show w.heap.size ≤ W1.heap.size by have := HZ1.out; have := hk2.size; omega)
  have hnle : (keysUp (encW s.A)).length ≤ 4096 := by have := HLE.out; omega
  clear hrow hlc hk2 hKl hnl hperm hel x8 HN1 HO1
  generalize keysUp (encW s.A) = ks at *
  generalize hkl : ks.length = n at *
  have HKL := Lib.hid hkl
  clear hkl
  go_wp2_with fail
  go_loopw [4, 5, 24] (fun va vl iv wr => ∃ (k : Nat) (s' : NS) (lost : List (Int × Int)) (m : Nat) (ys : List Value), iv = .int .i64 k ∧ k ≤ n ∧ TInv W1 g c d s ks k va vl wr s' lost m ys) (fun _ _ iv _ => n - (intOf iv).toNat)
  case atStart => exact ⟨0, s, [], 0, [], rfl, by omega, ⟨HN2.out, Ticked.refl s, fun _ _ _ => rfl, World.ownsRow_nil _ _ _ _, World.ownsRow_nil _ _ _ _, Nat.le_refl _, Only.refl _ _⟩⟩
  case round =>
    obtain ⟨k, s', lost, m, ys, rfl, hk, hI⟩ := hrel
    have HI := Lib.hid hI
    clear hI
    by_cases hlt : k < n
    · obtain ⟨blk, rfl, hb1, hb2, hcell⟩ := HLC.out k hlt
      have HNF := Lib.hid (show ∀ b, w1.heap.size ≤ b → ¬ NFoot g c d s b from fun b hb h => by have := HFL.out b (HF2.out b h); have := HZ1.out; omega)
      have hcq := cell_only HI.out.only (HNF.out blk hb1) hcell
      obtain ⟨a, ha⟩ : ∃ a, ks.getD k 0 = a := ⟨_, rfl⟩
      rw [ha] at hcq
      obtain ⟨x, hx⟩ := HMEM.out k (by have := HKL.out; omega)
      rw [ha] at hx
      have hfx : s'.A.find? (fun p => p.1 == a) = some (a, x) := by
        have h1 := HI.out.left k (Nat.le_refl _) (by have := HKL.out; omega)
        rw [ha] at h1
        rw [h1]
        exact find_of HN2.out.keysA hx
      have HXA := Lib.hid (show (a, x) ∈ s'.A from List.mem_of_find?_eq_some hfx)
      have HX := Lib.hid hx
      have HAE := Lib.hid ha
      have x8 := blk_cell HI.out.cache.cell 8
      have x2 := blk_cell HI.out.cache.cell 2
      have hask := HI.out.cache.ask _ HXA.out
      simp only at hask
      have y0 := blk_cell hask 0
      have y1 := blk_cell hask 1
      have y2 := blk_cell hask 2
      simp only [NS.cells, List.getElem?_toArray, List.getElem?_cons_zero, List.getElem?_cons_succ] at x8 x2 y0 y1 y2
      have hp' : s'.pat = s.pat := by have := HI.out.ticked.rest; rw [← this]
      rw [hp'] at x2
      have hm' := HI.out.cache.amap
      have HASK := Lib.hid hask
      have hg' : getI (encW s'.A) a = some (.pointer (some ⟨x.blk, 0, none⟩)) := by rw [getI_encW, hfx]; rfl
      obtain ⟨hat1, hat2⟩ := HAT.out _ hx
      simp only at hat1 hat2
      obtain ⟨hpa1, hpa2⟩ := HPA.out
      have hblt := heap_lt hask
      have hnw := HNB.out
      clear hcell hfx hask ha hx hp' hb1 hb2
      by_cases hd0 : now < x.at_ + s.pat
      · have hd : decide (now < x.at_ + s.pat) = true := by simpa using hd0
        clear hd0
        go_wp2_with (at_lookup; refine wpList_look_I _ rfl _ _ 61 false rfl 3 69 und_amap und_int _ (zero_pasked _) d _ rfl hm' _ rfl ?_; rw [hg']; simp only [Option.getD_some, Bool.false_eq_true, if_false])
        go_quiet (fail)
        go_wp2_with fail
        go_roundw
        case rel =>
          refine ⟨k + 1, s', lost, m, ys, by go_num, by omega, ?_⟩
          have h := HI.out
          have hdr : Only (fun _ => False) wr (wr.drewN nq) := (Only.refl _ wr).drewN nq
          exact ⟨h.cache.keep hdr, h.ticked, fun j hj hl => h.left j (by omega) hl, row_only h.rowL hdr (fun _ _ h => h), row_only h.rowA hdr (fun _ _ h => h), by have := h.few; omega, h.only.drewN nq⟩
        case measure => simp [intOf]; omega
      · have hd : decide (now < x.at_ + s.pat) = false := by simpa using hd0
        clear hd0
        cases htw : x.twice with
        | true =>
          rw [htw] at y1
          go_wp2_with (at_lookup; refine wpList_look_I _ rfl _ _ 61 false rfl 3 69 und_amap und_int _ (zero_pasked _) d _ rfl hm' _ rfl ?_; rw [hg']; simp only [Option.getD_some, Bool.false_eq_true, if_false])
          go_quiet (fail)
          have hdr : Only (fun _ => False) wr (wr.drewN nq) := (Only.refl _ wr).drewN nq
          have hI := HI.out
          have hc5 := hI.cache.keep hdr
          have hL5 := row_only hI.rowL hdr (fun _ _ h => h)
          have hA5 := row_only hI.rowA hdr (fun _ _ h => h)
          have hO5 := hI.only.drewN nq
          generalize wr.drewN nq = w5 at hc5 hL5 hA5 hO5 hdr ⊢
          have y5 := cell_only hdr (fun h => h) y2
          have y6 := cell_only hdr (fun h => h) y1
          obtain ⟨gb, cap, hws, hcells⟩ := row_cells (hc5.row _ HXA.out) (by simp only; exact fun e => HNE.out _ HX.out (List.eq_nil_of_length_eq_zero e))
          simp only at hws hcells
          have hbL := le_waiting HXA.out
          simp only at hbL
          have hmany := hI.ticked.many
          have hwt := HWT.out
          obtain ⟨v2, w2, hr, hrow2, hg2, hb2⟩ := append_pk w5 32 W1.heap.size u5 lost.length (pksOf lost) hL5 ⟨gb, 0, none⟩ x.L.length cap (pks a x.L) (hc5.row _ HXA.out).1 hcells (pks_one a x.L) hO5.size (by omega)
          have hk2 := Only.of_grown hg2
          have hfr : ∀ b, NFoot g c d s' b → ¬ some b = u5.ownBlock := fun b hb e => by
            have h1 := HFL.out b (HF2.out b (hI.ticked.foot b hb))
            have h2 := (hL5.lt b e.symm).1
            have := HZ2.out
            omega
          have hc2 := hc5.only hk2 hfr
          have x9 := blk_cell hc2.cell 8
          simp only [NS.cells, List.getElem?_toArray, List.getElem?_cons_zero, List.getElem?_cons_succ] at x9
          have hm2 := hc2.amap
          rw [hws] at y5
          rw [hws] at y2
          have HALL := Lib.hid (show _ ∧ _ ∧ _ ∧ _ ∧ _ ∧ _ from ⟨hc2, hL5, hA5, hO5, hrow2, hk2⟩)
          clear hI hc5 hL5 hA5 hO5 hcells hbL hmany hwt hg2 hb2 hk2 hfr hc2 hrow2
          go_wp2_with (first | (at_builtin; refine wpList_append_run _ rfl _ _ 32 rfl _ _ v2 w2 rfl rfl hr ?_) | (at_delete; refine wpList_del_I _ rfl _ _ 61 3 rfl 69 und_amap und_int d _ rfl hm2 _ rfl ?_; intro w3 hmd hkd hzd))
          obtain ⟨hc2, hL5, hA5, hO5, hrow2, hk2⟩ := HALL.out
          clear HALL
          have hI := HI.out
          have hdlt : d < W1.heap.size := by have := HFL.out d (HF2.out d (.inr (.inr (.inl rfl)))); have := HZ2.out; omega
          go_roundw
          case rel =>
            refine ⟨k + 1, { s' with A := delA s'.A a }, lost ++ x.L.map (fun i => (a, i)), m, ys, by go_num, by omega, ?_⟩
            refine ⟨hc2.less a hkd hmd, hI.ticked.lose hI.cache.keysA HXA.out, fun j hj hl => ?_, ?_, ?_, by have := hI.few; omega, ?_⟩
            · rw [find_delA, if_neg (fun e => ?_)]
              · exact hI.left j (by omega) hl
              · have hkn : k < ks.length := by have := HKL.out; omega
                rw [← HAE.out, List.getD, List.getD, List.getElem?_eq_getElem hl, List.getElem?_eq_getElem hkn] at e
                have := (List.getElem_inj HND.out).1 e
                omega
            · rw [pksOf_more, List.length_append, List.length_map]
              exact row_only hrow2 hkd (fun b hb e => by have := (hrow2.lt b hb).1; omega)
            · exact row_only (row_only hA5 hk2 (fun b hb e => by
                obtain ⟨c1, h1⟩ := row_blk hA5 hb
                obtain ⟨c2, h2⟩ := row_blk hL5 e.symm
                exact cells_ne h1 h2 (by decide) rfl)) hkd (fun b hb e => by have := (hA5.lt b hb).1; omega)
            · exact (hO5.then hk2 (fun b hb e => by have := (hL5.lt b e.symm).1; omega)).then hkd (fun b hb e => .inr (.inr (.inl e)))
          case measure => simp [intOf]; omega
        | false =>
          rw [htw] at y1
          go_wp2_with (at_lookup; refine wpList_look_I _ rfl _ _ 61 false rfl 3 69 und_amap und_int _ (zero_pasked _) d _ rfl hm' _ rfl ?_; rw [hg']; simp only [Option.getD_some, Bool.false_eq_true, if_false])
          go_quiet (fail)
          have hdr : Only (fun _ => False) wr (wr.drewN nq) := (Only.refl _ wr).drewN nq
          have hI := HI.out
          have HC5 := Lib.hid (hI.cache.keep hdr)
          have HL5 := Lib.hid (row_only hI.rowL hdr (fun _ _ h => h))
          have HA5 := Lib.hid (row_only hI.rowA hdr (fun _ _ h => h))
          have HO5 := Lib.hid (hI.only.drewN nq)
          have hdl := wr.drewN nq
          generalize wr.drewN nq = w5 at HC5 HL5 HA5 HO5 hdr ⊢
          have y6 := cell_only hdr (fun h => h) y1
          have hms : s'.mine = true := by have := hI.ticked.rest; have h := HM.out; rw [← this] at h; exact h
          clear hI hdl
          go_wp2_with fail
          refine (nask_any w5 g c d s' a HC5.out hms).mono ?_
          rintro e w6 ⟨rfl, hk6⟩
          simp only [arpCells]
          generalize amade 1 s'.mac 10 0 a = r
          have hk7 := hk6.alloc (.cells (arpCells r) 31)
          have hz7 := blk_new w6 (.cells (arpCells r) 31)
          have hc7 := HC5.out.keep hk7
          have hL7 := row_only HL5.out hk7 (fun _ _ h => h)
          have hA7 := row_only HA5.out hk7 (fun _ _ h => h)
          have hO7 := HO5.out.then hk7 (fun _ _ h => h.elim)
          simp only [arpCells] at hk7 hz7 hc7 hL7 hA7 hO7
          have hfew := HI.out.few
          obtain ⟨v2, w2, hr, hrow2, hg2, hb2⟩ := append_arp (w6.alloc (.cells #[.int .i64 r.op, .int .i64 r.fm, .int .i64 r.fi, .int .i64 r.tm, .int .i64 r.ti] 31)) 54 W1.heap.size u4 m ys hA7 ⟨w6.heap.size, 0, none⟩ 1 1 [.int .i64 r.op, .int .i64 r.fm, .int .i64 r.fi, .int .i64 r.tm, .int .i64 r.ti] rfl (by
            intro j u hj
            rw [Addr.add_lit, Nat.zero_add, blk_cell hz7]
            simpa using hj) (by simp [Value.oneCell']) hO7.size (by omega)
          have hk2 := Only.of_grown hg2
          have hfr : ∀ b, NFoot g c d s' b → ¬ some b = u4.ownBlock := fun b hb e => by
            have h1 := HFL.out b (HF2.out b (HI.out.ticked.foot b hb))
            have h2 := (hA7.lt b e.symm).1
            have := HZ2.out
            omega
          have hc2 := hc7.only hk2 hfr
          have hask2 := hc2.ask _ HXA.out
          simp only at hask2
          have e0 := blk_cell hask2 0
          have e1 := blk_cell hask2 1
          have f0 := blk_free hask2 0
          have f1 := blk_free hask2 1
          simp only [List.getElem?_toArray, List.getElem?_cons_zero, List.getElem?_cons_succ] at e0 e1
          have hl2 := heap_lt hask2
          have HALL := Lib.hid (show _ ∧ _ ∧ _ ∧ _ ∧ _ ∧ _ ∧ _ from ⟨hc2, hL7, hA7, hO7, hrow2, hk2, hask2⟩)
          clear hk6 hk7 hz7 hc7 hL7 hA7 hO7 hfew hg2 hb2 hk2 hfr hc2 hrow2 hask2
          go_wp2_with (at_builtin; refine wpList_append_run _ rfl _ _ 54 rfl _ _ v2 w2 rfl rfl hr ?_)
          obtain ⟨hc2, hL7, hA7, hO7, hrow2, hk2, hask2⟩ := HALL.out
          clear HALL
          have hI := HI.out
          have hkS := ((Only.refl (fun b => b = x.blk) w2).setCell ⟨x.blk, 0, none⟩ (.int .i64 now) (fun _ => rfl)).setCell ⟨x.blk, 1, none⟩ (.bool true) (fun _ => rfl)
          have haS : ((w2.setCell ⟨x.blk, 0, none⟩ (.int .i64 now)).setCell ⟨x.blk, 1, none⟩ (.bool true)).heap[x.blk]? = some (.cells #[.int .i64 now, .bool true, x.ws] 71 (0, 0)) := (blk_set (blk_set hask2 0 (.int .i64 now)) 1 (.bool true)).trans rfl
          have hrS : ((w2.setCell ⟨x.blk, 0, none⟩ (.int .i64 now)).setCell ⟨x.blk, 1, none⟩ (.bool true)).ownsRow 0 47 10 x.ws x.L.length (pks a x.L) := row_only (hc2.row _ HXA.out) hkS (fun b hb e => by
            obtain ⟨c1, h1⟩ := row_blk (hc2.row _ HXA.out) hb
            rw [e] at h1
            exact cells_ne h1 hask2 (by decide) rfl)
          have hnS := hc2.turn HXA.out (x' := { x with at_ := now, twice := true }) rfl (hkS.mono (fun b _ e => .inl e)) haS hrS (fun b hb => .inl hb)
          have hblS : x.blk < w.heap.size := HFL.out _ (HF2.out _ (hI.ticked.foot _ (.inr (.inr (.inr (.inr ⟨_, HXA.out, .inl rfl⟩))))))
          go_roundw
          case rel =>
            refine ⟨k + 1, { s' with A := setA s'.A a { x with at_ := now, twice := true } }, lost, m + 1, ys ++ [.int .i64 r.op, .int .i64 r.fm, .int .i64 r.fi, .int .i64 r.tm, .int .i64 r.ti], by go_num, by omega, ?_⟩
            refine ⟨hnS, ?_, fun j hj hl => ?_, ?_, ?_, by have := hI.few; omega, ?_⟩
            · have := hI.ticked.ask hI.cache.keysA HXA.out
              rw [HNOW.out] at this
              exact this
            · rw [find_setA]
              have h1 := hI.left j (by omega) hl
              rw [← h1]
              cases hf : s'.A.find? (fun p => p.1 == ks.getD j 0) with
              | none => rfl
              | some q =>
                simp only [Option.map_some]
                rw [if_neg (fun e => ?_)]
                have h2 := List.find?_some hf
                have h3 : q.1 = ks.getD j 0 := by simpa using h2
                have hkn : k < ks.length := by have := HKL.out; omega
                rw [h3, ← HAE.out, List.getD, List.getD, List.getElem?_eq_getElem hl, List.getElem?_eq_getElem hkn] at e
                have := (List.getElem_inj HND.out).1 e
                omega
            · exact row_only (row_only hL7 hk2 (fun b hb e => by
                obtain ⟨c1, h1⟩ := row_blk hL7 hb
                obtain ⟨c2, h2⟩ := row_blk hA7 e.symm
                exact cells_ne h1 h2 (by decide) rfl)) hkS (fun b hb e => by have := (hL7.lt b hb).1; have := HZ2.out; omega)
            · exact row_only hrow2 hkS (fun b hb e => by have := (hrow2.lt b hb).1; have := HZ2.out; omega)
            · exact (hO7.then hk2 (fun b hb e => by have := (hA7.lt b e.symm).1; omega)).then hkS (fun b hb e => hI.ticked.foot _ (.inr (.inr (.inr (.inr ⟨_, HXA.out, .inl e⟩)))))
          case measure => simp [intOf]; omega
    · obtain rfl : k = n := by omega
      go_wp2_with fail
      refine bodyPost_ret (v := .tuple #[u4, u5, .int .i64 0]) (by simp [results, Try.results17, go_sem]) rfl ?_
      have h := HI.out
      refine ⟨u4, u5, s', lost, rfl, h.cache, by rw [HSE.out]; exact h.ticked, row_base h.rowL HZ2.out, HO2.out.then h.only (fun k _ hk => HF2.out k hk)⟩

end Go.Proofs.Ythgkdfllddljcaa

/-
  The walk of the law ChannelBack.
  No conditions.
-/
import Derived.Test.YteifehienpeaiaaBackLaw
import Derived.Test.YteifehienpeaiaaAmong
import Derived.Test.YteifehienpeaiaaOpen
import Derived.IntWalk
set_option linter.unusedVariables false
set_option linter.unusedSimpArgs false
set_option maxRecDepth 100000
namespace Go.Proofs.Yteifehienpeaiaa
open Go.RowKit

theorem letter_cells {cs : List Value} (h : CellsAre [.i, .i, .i, .i, .i, .s] cs) : ∃ (k e r n a : Int) (d : ByteArray), cs = [.int .i64 k, .int .i64 e, .int .i64 r, .int .i64 n, .int .i64 a, .string d] ∧ d.size ≤ reachB := by
  obtain ⟨k, _, rfl, _, h1⟩ := h.i
  obtain ⟨e, _, rfl, _, h2⟩ := h1.i
  obtain ⟨r, _, rfl, _, h3⟩ := h2.i
  obtain ⟨n, _, rfl, _, h4⟩ := h3.i
  obtain ⟨a, _, rfl, _, h5⟩ := h4.i
  obtain ⟨d, _, rfl, hd, h6⟩ := h5.s
  obtain rfl := h6.nil
  exact ⟨k, e, r, n, a, d, rfl, hd⟩

/-- The bytes under way. -/
structure Turned (S : ByteArray) (f0 pb j : Nat) (m : List Nat) (w : World) : Prop where
  burst : Burst (natsOf S) f0 j m
  byte : ∀ c ∈ m, c < 256
  cell : ∀ q, q < S.size → w.cell? ⟨pb, q, none⟩ = some (.int .u8 (m.getD q 0 : Nat))
  free : ∀ q, q < S.size → w.frozen? ⟨pb, q, none⟩ = false

theorem xor_u8 (c rr : Nat) (hc : c < 256) (hr : rr < 8) : bits .xor .u8 (c : Int) (2 ^ rr % 256) = ((c ^^^ 2 ^ rr : Nat) : Int) := by
  have h2 : 2 ^ rr < 256 := Nat.pow_lt_pow_right (n := 8) (by decide) hr
  have e : ((2 : Int) ^ rr % 256) = ((2 ^ rr : Nat) : Int) := by
    have : ((2 : Int) ^ rr) = ((2 ^ rr : Nat) : Int) := by simp
    rw [this]
    exact Int.emod_eq_of_lt (Int.natCast_nonneg _) (by exact_mod_cast h2)
  have hx : c ^^^ 2 ^ rr < 256 := Nat.xor_lt_two_pow (n := 8) hc h2
  have ha' : c % 2 ^ IntKind.u8.bits = c := Nat.mod_eq_of_lt (by show c < 2 ^ 8; omega)
  have hb' : 2 ^ rr % 2 ^ IntKind.u8.bits = 2 ^ rr := Nat.mod_eq_of_lt (by show 2 ^ rr < 2 ^ 8; omega)
  rw [e]
  simp only [bits, BitVec.ofInt_natCast, BitVec.toNat_xor, BitVec.toNat_ofNat, ha', hb']
  unfold IntKind.wrap
  simp [IntKind.bits, IntKind.signed]
  omega

theorem Turned.turn {S : ByteArray} {f0 pb j : Nat} {m : List Nat} {w : World} (h : Turned S f0 pb j m w) (hb : f0 + j < 8 * S.size) :
    Turned S f0 pb (j + 1) (m.set ((f0 + j) / 8) (m.getD ((f0 + j) / 8) 0 ^^^ 2 ^ ((f0 + j) % 8))) (w.setCell ⟨pb, ((f0 + j) / 8 : Nat), none⟩ (.int .u8 ((m.getD ((f0 + j) / 8) 0 ^^^ 2 ^ ((f0 + j) % 8) : Nat) : Int))).drew := by
  have hlm : m.length = S.size := by rw [h.burst.len, natsOf_length]
  have hr8 : (f0 + j) % 8 < 8 := Nat.mod_lt _ (by decide)
  have hq : (f0 + j) / 8 < S.size := by omega
  have hbt := h.burst.turn (by rw [natsOf_length]; exact hb)
  generalize (f0 + j) / 8 = q at *
  generalize (f0 + j) % 8 = rr at *
  have hg : m.getD q 0 < 256 := by
    rw [List.getD, List.getElem?_eq_getElem (by omega)]
    exact h.byte _ (List.getElem_mem _)
  refine ⟨hbt, ?_, ?_, ?_⟩
  · intro c hc
    rcases List.mem_or_eq_of_mem_set hc with h1 | h1
    · exact h.byte c h1
    · rw [h1]
      exact Nat.xor_lt_two_pow (n := 8) hg (Nat.pow_lt_pow_right (n := 8) (by decide) hr8)
  · intro q' hq'
    by_cases e : q' = q
    · subst e
      rw [show (m.set q' (m.getD q' 0 ^^^ 2 ^ rr)).getD q' 0 = m.getD q' 0 ^^^ 2 ^ rr by simp [List.getD, hlm, hq']]
      exact cell_setSame (h.cell q' hq')
    · rw [show (m.set q (m.getD q 0 ^^^ 2 ^ rr)).getD q' 0 = m.getD q' 0 by simp [List.getD, List.getElem?_set_ne (Ne.symm e)]]
      exact cell_setElse (h.cell q' hq') (fun h => e h.symm)
  · intro q' hq'
    show (w.setCell _ _).frozen? _ = false
    rw [World.frozen?_setCell]
    exact h.free q' hq'

theorem natsOf_str (m : List Nat) (h : ∀ c ∈ m, c < 256) : natsOf (strOfNums (m.map fun (c : Nat) => (c : Int))) = m := by
  rw [natsOf_nums, nums_strOf _ (by
    intro c hc
    obtain ⟨b, hb, rfl⟩ := List.mem_map.1 hc
    have := h b hb
    omega)]
  rw [List.map_map]
  conv => rhs; rw [← List.map_id m]
  apply List.map_congr_left
  intro a _
  simp

set_option maxHeartbeats 4000000 in
theorem chanBack_walk (W : World) (cs : List Value) (hcs : CellsAre [.i, .i, .i, .i, .i, .s] cs) (at0 : Int) (wat : (Lit.int .i64 at0).wf = true) (by0 : Int) (wby : (Lit.int .i64 by0).wf = true) :
    Calls Try.prog 4 #[.agg cs.toArray, .int .i64 at0, .int .i64 by0] W fun e W' => e = .returned (.bool true) ∧ Below W.heap.size W W' := by
  obtain ⟨k, e, r, n, a, d, rfl, hd⟩ := letter_cells hcs
  unfold reachB at hd
  clear hcs
  have hO := (Only.refl (fun _ => False) W).alloc (.cells #[.int .i64 k, .int .i64 e, .int .i64 r, .int .i64 n, .int .i64 a, .string d] 23)
  have hx := blk_new W (.cells #[.int .i64 k, .int .i64 e, .int .i64 r, .int .i64 n, .int .i64 a, .string d] 23)
  go_enter Try.func4, Try.ntmps4
  go_wp2_with fail
  refine (works24 _).mono ?_
  rintro e' w1 ⟨rfl, hk⟩
  replace hO := hO.then hk (fun _ _ h => h)
  replace hx := hk.at hx (fun h => h)
  clear hk
  have z0 := blk_cell hx 0
  have z1 := blk_cell hx 1
  have z2 := blk_cell hx 2
  have z3 := blk_cell hx 3
  have z4 := blk_cell hx 4
  have z5 := blk_cell hx 5
  simp only [List.getElem?_toArray, List.getElem?_cons_zero, List.getElem?_cons_succ] at z0 z1 z2 z3 z4 z5
  go_wp2_with fail
  refine (encode_any k e r n a d _).mono ?_
  rintro e' w2 ⟨rfl, hk⟩
  replace hO := hO.then hk (fun _ _ h => h)
  replace hx := hk.at hx (fun h => h)
  clear hk z0 z1 z2 z3 z4 z5
  by_cases hL : letterB k e r n a d = true
  case neg =>
    have hc : lcode k e r n a d = 240 := by unfold lcode; rw [if_neg hL]
    have hE : encB k e r n a d = ⟨#[]⟩ := by unfold encB; rw [if_neg hL]
    rw [hc, hE]
    clear hc hE hL
    go_wp2_with fail
    go_ret
    exact ⟨rfl, hO.below (Nat.le_refl _) (fun _ _ h => h)⟩
  have hc : lcode k e r n a d = 0 := by unfold lcode; rw [if_pos hL]
  have hE : encB k e r n a d = letBytes k e r n a d := by unfold encB; rw [if_pos hL]
  rw [hc, hE]
  clear hc hE
  have HV := Lib.hid (let_value hL)
  have HOK := Lib.hid (let_ok hL)
  have hdl := (letterB_bounds hL).2.2.2.2.2
  have hSz := let_size k e r n a d
  clear hL
  generalize letBytes k e r n a d = S at HV HOK hSz ⊢
  have hS0 : 20 ≤ S.size := by omega
  clear hSz hdl hd
  by_cases hbig : 2000 < S.size
  · go_wp2_with fail
    go_ret
    exact ⟨rfl, hO.below (Nat.le_refl _) (fun _ _ h => h)⟩
  have hS2 : (S.size : Int) ≤ 2000 := by omega
  go_wp2_with fail
  have hx0 := hx
  refine (decode_ok S _ (by omega) HOK.out).mono ?_
  rintro e' w3 ⟨rfl, hk⟩
  rw [HV.out]
  replace hO := (hO.then hk (fun _ _ h => h)).alloc (.cells #[.int .i64 k, .int .i64 e, .int .i64 r, .int .i64 n, .int .i64 a, .string d] 23)
  replace hx := blk_alloc (hk.at hx (fun h => h)) (.cells #[.int .i64 k, .int .i64 e, .int .i64 r, .int .i64 n, .int .i64 a, .string d] 23)
  have hy := blk_new w3 (.cells #[.int .i64 k, .int .i64 e, .int .i64 r, .int .i64 n, .int .i64 a, .string d] 23)
  have hpy : W.heap.size < w3.heap.size := heap_lt (hk.at hx0 (fun h => h))
  clear hx0 hk
  generalize hw4 : w3.alloc (.cells #[.int .i64 k, .int .i64 e, .int .i64 r, .int .i64 n, .int .i64 a, .string d] 23) = w4 at hO hx hy
  have hyl := heap_lt hy
  have hconv := Lib.run_convert_string_bytes (P := Try.prog) w4 9 34 5 S Try.underlying9 Try.underlying34 Try.underlying5
  have hcell := Lib.bytesWorld_cell w4 5 S
  have hnew := Lib.bytesWorld_at_new w4 5 S
  have hbo := bytesWorld_only w4 S
  have hcap : S.size ≤ grownCap w4 S.size 0 5 := grownCap_ge _ _ _ _
  have hcs : S.size ≤ (Lib.bytesCells w4 5 S).size := by
    unfold Lib.bytesCells
    simp only [Array.size_append, Array.size_map, Array.size_replicate]
    exact Nat.le_trans (Nat.le_refl _) (Nat.le_add_right _ _)
  have hfz : ∀ q, q < S.size → (Lib.bytesWorld w4 5 S).frozen? ⟨w4.heap.size, q, none⟩ = false := by
    intro q hq
    unfold World.frozen?
    rw [hnew]
    simp only [Bool.and_eq_false_iff, decide_eq_false_iff_not]
    exact Or.inl (by omega)
  have hT0 : Turned S 0 w4.heap.size 0 (natsOf S) (Lib.bytesWorld w4 5 S) := ⟨Burst.start _ _, fun c hc => by
      simp only [natsOf, List.mem_map] at hc
      obtain ⟨b, _, rfl⟩ := hc
      exact UInt8.toNat_lt _, fun q hq => by
      rw [hcell q hq]
      have hl : q < S.data.toList.length := by simpa using hq
      simp [natsOf, List.getD, List.getElem?_eq_getElem hl], hfz⟩
  have hO5 := hO.then hbo (fun _ _ h => h)
  have hx5 := hbo.at hx (fun h => h)
  have hy5 := hbo.at hy (fun h => h)
  clear hcell hnew hbo hcs hfz hO hx hy
  generalize Lib.bytesWorld w4 5 S = w5 at hconv hT0 hO5 hx5 hy5
  generalize grownCap w4 S.size 0 5 = cap at hconv hcap
  generalize w4.heap.size = pb at hconv hT0 hyl
  rw [← hw4] at hconv
  clear hw4 w4
  have H32 : ∃ P : Int, IntKind.u32.wrap by0 = P := ⟨_, rfl⟩
  obtain ⟨P, hP⟩ := H32
  by_cases hP0 : P = 0
  all_goals
    go_wp2_with fail
    refine (among_any at0 (8 * (S.size : Int)) _ wat (by omega) (by omega)).mono ?_
    rintro e' w6 ⟨rfl, rfl⟩
    have hf0 : 0 ≤ at0 % (8 * (S.size : Int)) := Int.emod_nonneg _ (by omega)
    have hf1 : at0 % (8 * (S.size : Int)) < 8 * (S.size : Int) := Int.emod_lt_of_pos _ (by omega)
    obtain ⟨f0, hf⟩ := Int.eq_ofNat_of_zero_le hf0
    rw [hf] at hf0 hf1 ⊢
    clear hf hf0 hconv
    replace hT0 : Turned S f0 pb 0 (natsOf S) _ := ⟨Burst.start _ _, hT0.byte, hT0.cell, hT0.free⟩
    generalize w3.heap.size = y at hpy hy5 hyl ⊢
    generalize hpp : W.heap.size = p at hx5 hpy ⊢
    go_wp2_with fail
    go_loopw [54] (fun i wr => ∃ (j : Nat) (m : List Nat), i = .int .i64 j ∧ j ≤ 32 ∧ Turned S f0 pb j m wr ∧ Only (fun _ => False) W wr ∧ wr.heap[p]? = some (.cells #[.int .i64 k, .int .i64 e, .int .i64 r, .int .i64 n, .int .i64 a, .string d] 23 (0, 0)) ∧ wr.heap[y]? = some (.cells #[.int .i64 k, .int .i64 e, .int .i64 r, .int .i64 n, .int .i64 a, .string d] 23 (0, 0))) (fun i _ => 32 - (intOf i).toNat)
    case atStart => exact ⟨0, _, rfl, by omega, hT0, hO5, hx5, hy5⟩
    case round =>
      clear hT0 hO5 hx5 hy5
      obtain ⟨j, m, rfl, hj, hT, hO, hx, hy⟩ := hrel
      by_cases hj32 : j < 32
      · go_wp2_with fail
        · have hq : (f0 + j) / 8 < S.size := by omega
          have hc := hT.cell _ hq
          have hfr := hT.free _ hq
          have hq2 : ((f0 : Int) + (j : Int)) / 8 = (((f0 + j) / 8 : Nat) : Int) := by omega
          have hr2 : ((f0 : Int) + (j : Int)) % 8 = (((f0 + j) % 8 : Nat) : Int) := by omega
          have hr8 : (f0 + j) % 8 < 8 := Nat.mod_lt _ (by decide)
          have hlm : m.length = S.size := by rw [hT.burst.len, natsOf_length]
          have hg : m.getD ((f0 + j) / 8) 0 < 256 := by
            rw [List.getD, List.getElem?_eq_getElem (by omega)]
            exact hT.byte _ (List.getElem_mem _)
          have hxr := xor_u8 (m.getD ((f0 + j) / 8) 0) ((f0 + j) % 8) hg hr8
          have hT2 := hT.turn (by omega)
          rw [← hxr] at hT2
          replace hx : (wr.setCell ⟨pb, ((f0 + j) / 8 : Nat), none⟩ (.int .u8 (bits .xor .u8 (m.getD ((f0 + j) / 8) 0 : Nat) (2 ^ ((f0 + j) % 8) % 256)))).drew.heap[p]? = _ := blk_set_other hx _ _ (by simp only; omega)
          replace hy : (wr.setCell ⟨pb, ((f0 + j) / 8 : Nat), none⟩ (.int .u8 (bits .xor .u8 (m.getD ((f0 + j) / 8) 0 : Nat) (2 ^ ((f0 + j) % 8) % 256)))).drew.heap[y]? = _ := blk_set_other hy _ _ (by simp only; omega)
          replace hO := (hO.setCell ⟨pb, ((f0 + j) / 8 : Nat), none⟩ (.int .u8 (bits .xor .u8 (m.getD ((f0 + j) / 8) 0 : Nat) (2 ^ ((f0 + j) % 8) % 256))) (by simp only; omega)).drew
          clear hxr hg hlm hT
          generalize hm2 : m.set ((f0 + j) / 8) (m.getD ((f0 + j) / 8) 0 ^^^ 2 ^ ((f0 + j) % 8)) = m2 at hT2
          clear hm2
          simp only [List.getD_eq_getElem?_getD] at hc hT2 hx hy hO
          generalize hQ : (f0 + j) / 8 = q at *
          generalize hR : (f0 + j) % 8 = rr at *
          clear hQ hR
          go_region
          generalize (wr.setCell ⟨pb, q, none⟩ (.int .u8 (bits .xor .u8 ((m[q]?.getD 0 : Nat) : Int) (2 ^ rr % 256)))).drew = w7 at hT2 hx hy hO ⊢
          clear hc hfr
          go_wp2_with fail
          go_roundw
          case rel => exact ⟨j + 1, m2, by go_num, by omega, hT2, hO, hx, hy⟩
          case measure => simp [intOf]; omega
        all_goals
          go_roundw
          case rel => exact ⟨j + 1, m, by go_num, by omega, ⟨hT.burst.stay, hT.byte, hT.cell, hT.free⟩, hO, hx, hy⟩
          case measure => simp [intOf]; omega
      · obtain rfl : j = 32 := by omega
        have hlm : m.length = S.size := by rw [hT.burst.len, natsOf_length]
        have hcv := run_convert_bytes_arg (P := Try.prog) wr 34 5 Try.underlying34 Try.underlying5 pb 0 S.size cap (m.map fun (c : Nat) => (c : Int)) (by simp [hlm]) (fun q hq => by
          rw [Nat.zero_add, hT.cell q hq]
          simp only [List.getD_eq_getElem?_getD, List.getElem?_map, List.getElem?_eq_getElem (show q < m.length by omega), Option.map_some, Option.getD_some]) 9 Try.underlying9
        have hnt := natsOf_str m hT.byte
        generalize strOfNums (m.map fun (c : Nat) => (c : Int)) = t at hcv hnt
        have HB := Lib.hid hT.burst
        rw [← hnt] at HB
        have hts2 : t.size = S.size := by rw [← natsOf_length, hnt, hlm]
        clear hT hlm hnt
        have z0 := blk_cell hx 0
        have z1 := blk_cell hx 1
        have z2 := blk_cell hx 2
        have z3 := blk_cell hx 3
        have z4 := blk_cell hx 4
        have z5 := blk_cell hx 5
        have y0 := blk_cell hy 0
        have y1 := blk_cell hy 1
        have y2 := blk_cell hy 2
        have y3 := blk_cell hy 3
        have y4 := blk_cell hy 4
        have y5 := blk_cell hy 5
        simp only [List.getElem?_toArray, List.getElem?_cons_zero, List.getElem?_cons_succ] at z0 z1 z2 z3 z4 z5 y0 y1 y2 y3 y4 y5
        by_cases hts : t = S
        · subst hts
          clear hts2
          go_wp2_with fail
          go_ret
          exact ⟨rfl, hO.below (Nat.le_refl _) (fun _ _ h => h)⟩
        · have hne : (t.toList == S.toList) = false := by rw [toList_beq]; exact decide_eq_false hts
          have hno := burst_none HOK.out HB.out (by omega) hts
          have hts3 : t.size ≤ 2000 := by omega
          clear hts2 hts
          go_wp2_with fail
          refine (decode_none t _ (by omega) hno).mono ?_
          rintro e' w7 ⟨rfl, hk⟩
          unfold noLetter
          replace hO := (hO.then hk (fun _ _ h => h)).alloc (.cells #[.int .i64 0, .int .i64 0, .int .i64 0, .int .i64 0, .int .i64 0, .string ⟨#[]⟩] 23)
          replace hx := hk.at hx (fun h => h)
          replace hy := hk.at hy (fun h => h)
          have hpl := heap_lt hx
          have hyl7 := heap_lt hy
          clear hk z0 z1 z2 z3 z4 z5 y0 y1 y2 y3 y4 y5
          have z0 := blk_cell hx 0
          have z1 := blk_cell hx 1
          have z2 := blk_cell hx 2
          have z3 := blk_cell hx 3
          have z4 := blk_cell hx 4
          have z5 := blk_cell hx 5
          have y0 := blk_cell hy 0
          have y1 := blk_cell hy 1
          have y2 := blk_cell hy 2
          have y3 := blk_cell hy 3
          have y4 := blk_cell hy 4
          have y5 := blk_cell hy 5
          simp only [List.getElem?_toArray, List.getElem?_cons_zero, List.getElem?_cons_succ] at z0 z1 z2 z3 z4 z5 y0 y1 y2 y3 y4 y5
          go_wp2_with fail
          go_ret
          exact ⟨rfl, hO.below (Nat.le_refl _) (fun _ _ h => h)⟩
end Go.Proofs.Yteifehienpeaiaa

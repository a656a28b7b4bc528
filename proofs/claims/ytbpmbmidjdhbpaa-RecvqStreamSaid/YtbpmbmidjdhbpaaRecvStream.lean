/-
  The walk of the law RecvqStream.
  No conditions.
-/
import Derived.Test.YtbpmbmidjdhbpaaRecvWorks
import Derived.Test.YtbpmbmidjdhbpaaStreamLaw
import Derived.Test.YtbpmbmidjdhbpaaRecvEdge
import Derived.Test.YtbpmbmidjdhbpaaAmong
import Derived.Test.YtbpmbmidjdhbpaaOpen
set_option linter.unusedVariables false
set_option linter.unusedSimpArgs false
set_option maxRecDepth 100000
namespace Go.Proofs.Ytbpmbmidjdhbpaa
open Go.RowKit Go.Sort
attribute [local go_sem] max_ii min_ii

/-- What came, as it lies. -/
structure CameAt (w : World) (cb : Nat) (came : Nat → Bool) : Prop where
  cell : ∀ j, j < 301 → w.cell? ⟨cb, j, none⟩ = some (.bool (came j))
  free : ∀ j, w.frozen? ⟨cb, j, none⟩ = false

theorem CameAt.only {w w' : World} {cb : Nat} {came : Nat → Bool} {S : Nat → Prop} (h : CameAt w cb came) (hlt : cb < w.heap.size) (hk : Only S w w') (hS : ¬ S cb) : CameAt w' cb came :=
  ⟨fun j hj => cell_only hk hS (h.cell j hj), fun j => by
    have := hk.block cb hlt hS
    have h1 := h.free j
    unfold World.frozen? at h1 ⊢
    rw [this]; exact h1⟩

theorem zero_arr (w : World) : (zeroValue 44).run Try.prog w = .ok (.agg (Array.replicate 301 (.bool false))) w := by kernel_rfl

theorem CameAt.set {w : World} {cb : Nat} {came : Nat → Bool} (h : CameAt w cb came) (j : Nat) (hj : j < 301) (came2 : Nat → Bool) (h2 : ∀ i, came2 i = (came i || decide (i = j))) : CameAt (w.setCell ⟨cb, j, none⟩ (.bool true)) cb came2 := by
  refine ⟨fun i hi => ?_, fun i => by rw [World.frozen?_setCell]; exact h.free i⟩
  rw [h2]
  by_cases e : i = j
  · subst e
    have hc := h.cell i hi
    have : (w.setCell ⟨cb, i, none⟩ (.bool true)).cell? ⟨cb, i, none⟩ = some (.bool true) := by
      revert hc
      unfold World.cell? World.setCell
      simp only [Array.getElem?_modify, if_true]
      cases w.heap[cb]? with
      | none => simp
      | some o =>
        cases o <;> simp
        intro h3
        have := (Array.getElem?_eq_some_iff.1 h3).1
        simp [this]
    rw [this]
    simp
  · have hc := h.cell i hi
    have : (w.setCell ⟨cb, j, none⟩ (.bool true)).cell? ⟨cb, i, none⟩ = some (.bool (came i)) := by
      revert hc
      unfold World.cell? World.setCell
      simp only [Array.getElem?_modify, if_true]
      cases w.heap[cb]? with
      | none => simp
      | some o => cases o <;> simp [Array.getElem?_setIfInBounds, Ne.symm e]
    rw [this]
    simp [e]

/-- Where the queue and the marks lie. -/
structure StAt (W : World) (g m cb : Nat) (T : ByteArray) (first : Int) (q : QS) (l r : Nat) (came : Nat → Bool) (w : World) : Prop where
  qat : QAt w g m q
  inv : SInv T first q l r came
  marks : CameAt w cb came
  clt : cb < w.heap.size
  only : Only (fun _ => False) W w

theorem StAt.keep {W : World} {g m cb : Nat} {T : ByteArray} {first : Int} {q : QS} {l r : Nat} {came : Nat → Bool} {w w' : World} (h : StAt W g m cb T first q l r came w) (hk : Only (fun _ => False) w w') : StAt W g m cb T first q l r came w' :=
  ⟨h.qat.keep hk, h.inv, h.marks.only h.clt hk (fun h => h), Nat.lt_of_lt_of_le h.clt hk.size, h.only.trans hk⟩

theorem dist_first (first : Int) (l : Nat) (f0 : 0 ≤ first) (f1 : first < 4294967296) (hl : l ≤ 300) : ((first + (l : Int)) % 4294967296 - first) % 4294967296 = (l : Int) := by omega

set_option maxHeartbeats 4000000 in
theorem recvStream_walk (W : World) (f0 : Int) (wf0 : (Lit.int .i64 f0).wf = true) (T : ByteArray) (hT : T.size ≤ reachB) (v : Value) (n : Nat) (f : Nat → List Value) (h : SlIs W [.i, .i, .i] v n f) :
    Calls Try.prog 5 #[.int .i64 f0, .string T, v] W fun e W' => e = .returned (.bool true) ∧ Below W.heap.size W W' := by
  obtain ⟨⟨a, cap, rfl, hle, hat⟩, hcells, hsmall, _, _⟩ := h
  obtain ⟨pa, hpa⟩ := Deep.choose_lt (fun i hi => piece_cells (hcells i hi))
  obtain ⟨pb, hpb⟩ := Deep.choose_lt hpa
  obtain ⟨pc, hpc⟩ := Deep.choose_lt hpb
  have HPC := Lib.hid hpc
  have HAT := Lib.hid hat
  clear hcells hpa hpb hpc hat
  unfold reachB at hT
  simp only [List.length_cons, List.length_nil, reachB] at hsmall
  by_cases hbig : 300 < T.size
  · go_enter Try.func5, Try.ntmps5
    go_wp2_with fail
    refine (works16 _).mono ?_
    rintro e w1 ⟨rfl, hk1⟩
    go_wp2_with fail
    go_ret
    exact ⟨rfl, hk1.below (Nat.le_refl _) (fun _ _ h => h)⟩
  have hT3 : (T.size : Int) ≤ 300 := by omega
  clear hbig
  go_enter Try.func5, Try.ntmps5
  go_wp2_with fail
  refine (works16 _).mono ?_
  rintro e w1 ⟨rfl, hk1⟩
  go_wp2_with fail
  refine (among_any f0 4294967296 _ wf0 (by decide) (by decide)).mono ?_
  rintro e _ ⟨rfl, rfl⟩
  have hf0 : 0 ≤ f0 % 4294967296 := Int.emod_nonneg _ (by decide)
  have hf1 : f0 % 4294967296 < 4294967296 := Int.emod_lt_of_pos _ (by decide)
  generalize f0 % 4294967296 = first at hf0 hf1 ⊢
  clear wf0
  go_wp2_with fail
  refine (qnew first 100 w1 hf0 hf1 (by decide) (by decide)).mono ?_
  rintro e w2 ⟨rfl, hQ, hk2⟩
  have hI : SInv T first ⟨first, 100, ⟨#[]⟩, []⟩ 0 0 (fun _ => false) := ⟨QInv.new first 100 hf0 hf1 (by decide) (by decide), rfl, hf0, hf1, by show first = (first + 0) % 4294967296; omega, by omega, by omega, Nat.le_refl _, by
      apply nums_inj
      rw [nums_extract]
      simp [nums], fun j hj => by simp [lookA_nil], fun p hp => (by cases hp)⟩
  have hO : Only (fun _ => False) W w2 := hk1.trans hk2
  have hs1 := hk1.size
  generalize hg : w1.heap.size + 1 = g at hQ ⊢
  generalize hm : w1.heap.size = m at hQ hg hs1
  have hgW : W.heap.size ≤ g := by omega
  clear hg hm hk1 hk2
  have hzr := zero_arr w2
  have hkc := (Only.refl (fun _ => False) w2).alloc (.cells (Array.replicate 301 (.bool false)) 44)
  have hnb := blk_new w2 (.cells (Array.replicate 301 (.bool false)) 44)
  have hC : CameAt (w2.alloc (.cells (Array.replicate 301 (.bool false)) 44)) w2.heap.size (fun _ => false) := ⟨fun j hj => by
      rw [blk_cell hnb j, Array.getElem?_replicate, if_pos hj], fun j => blk_free hnb j⟩
  have hlq := hQ.lt
  have hcg : g < w2.heap.size ∧ m < w2.heap.size := hlq
  have hSt : StAt W g m w2.heap.size T first ⟨first, 100, ⟨#[]⟩, []⟩ 0 0 (fun _ => false) (w2.alloc (.cells (Array.replicate 301 (.bool false)) 44)) := ⟨hQ.keep hkc, hI, hC, heap_lt hnb, hO.trans hkc⟩
  have hcW : W.heap.size ≤ w2.heap.size := hO.size
  have HR0 : Hid ((⟨#[]⟩ : ByteArray) = T.extract 0 0) := Lib.hid (by
    apply nums_inj
    rw [nums_extract]
    simp [nums])
  clear hQ hI hO hkc hnb hC hlq
  go_wp2_with fail
  generalize (⟨first, 100, ⟨#[]⟩, []⟩ : QS) = q0 at hSt
  generalize w2.alloc (.cells (Array.replicate 301 (.bool false)) 44) = w3 at hSt ⊢
  generalize w2.heap.size = cb at hSt hcg hcW ⊢
  clear hzr
  go_loopw [11, 10] (fun iv rv wr => ∃ (k : Nat) (q : QS) (l r : Nat) (came : Nat → Bool), iv = .int .i64 k ∧ rv = .string (T.extract 0 r) ∧ k ≤ n ∧ k ≤ 40 ∧ StAt W g m cb T first q l r came wr) (fun i _ _ => 40 - (intOf i).toNat)
  case atStart => exact ⟨0, q0, 0, 0, _, rfl, by rw [← HR0.out], by omega, by omega, hSt⟩
  case round =>
    clear hSt HR0
    obtain ⟨k, q, l, r, came, rfl, rfl, hkn, hk40, hS⟩ := hrel
    by_cases hin : k < n ∧ k < 40
    · obtain ⟨hin, hi40⟩ := hin
      obtain ⟨b, off, rfl, hbW, hat⟩ := HAT.out (by omega)
      have hc := HPC.out k hin
      have hc0 := hat k hin 0 (by decide)
      have hc1 := hat k hin 1 (by decide)
      have hc2 := hat k hin 2 (by decide)
      rw [hc.1] at hc0 hc1 hc2
      simp only [List.getElem?_cons_zero, List.getElem?_cons_succ, Nat.add_zero, List.length_cons, List.length_nil, Nat.zero_add, Nat.reduceAdd] at hc0 hc1 hc2
      obtain ⟨_, wa, wb, wc⟩ := hc
      generalize pa k = xa at hc0 wa
      generalize pb k = xb at hc1 wb
      generalize pc k = xc at hc2 wc
      have hbl := hS.only.block b hbW (fun h => h)
      have y0 : wr.cell? ⟨b, off + k * 3, none⟩ = some (.int .i64 xa) := by
        rw [World.cell?_of_block (w := W) (w' := wr) (a := ⟨b, off + k * 3, none⟩) hbl]; exact hc0
      have y1 : wr.cell? ⟨b, off + k * 3 + 1, none⟩ = some (.int .i64 xb) := by
        rw [World.cell?_of_block (w := W) (w' := wr) (a := ⟨b, off + k * 3 + 1, none⟩) hbl]; exact hc1
      have HC2 := Lib.hid hc2
      clear hat hc0 hc1 hc2 hbl
      go_wp2_with fail
      refine (among_any xa ((T.size : Int) + 1) wr wa (by omega) (by omega)).mono ?_
      rintro e _ ⟨rfl, rfl⟩
      have p0 := Int.emod_nonneg xa (show ((T.size : Int) + 1) ≠ 0 by omega)
      have p1 := Int.emod_lt_of_pos xa (show 0 < ((T.size : Int) + 1) by omega)
      generalize xa % ((T.size : Int) + 1) = ai at p0 p1 ⊢
      obtain ⟨at_, rfl⟩ := Int.eq_ofNat_of_zero_le p0
      have hatT : at_ ≤ T.size := by omega
      clear p0 p1 wa
      go_wp2_with fail
      refine (among_any xb 120 wr wb (by decide) (by decide)).mono ?_
      rintro e _ ⟨rfl, rfl⟩
      have p0 := Int.emod_nonneg xb (show (120 : Int) ≠ 0 by decide)
      have p1 := Int.emod_lt_of_pos xb (show (0 : Int) < 120 by decide)
      generalize xb % 120 = bi at p0 p1 ⊢
      obtain ⟨lo, rfl⟩ := Int.eq_ofNat_of_zero_le p0
      clear p0 wb y0 y1
      have hen : ∃ en : Nat, mn (T.size : Int) ((at_ : Int) + (lo : Int)) = (en : Int) ∧ at_ ≤ en ∧ en ≤ T.size := ⟨min T.size (at_ + lo), by unfold mn; split <;> omega, by omega, by omega⟩
      obtain ⟨en, he1, he2, he3⟩ := hen
      have hq0 := hS.inv.inv.n0
      have hq1 := hS.inv.inv.n1
      have hl300 : l ≤ 300 := by have := hS.inv.lT; omega
      have hsz := hS.inv.size
      have hrl := hS.inv.rl
      have HNX := Lib.hid hS.inv.next
      have HDI := Lib.hid (dist_first first l hf0 hf1 hl300)
      have HSS := Lib.hid hS
      clear hS
      go_wp2_with fail
      refine (qnext wr g m q HSS.out.qat).mono ?_
      rintro e _ ⟨rfl, rfl⟩
      go_wp2_with fail
      refine (distance_ok first q.next wr hf0 hf1 hq0 hq1).mono ?_
      rintro e _ ⟨rfl, rfl⟩
      rw [show (q.next - first) % 4294967296 = (l : Int) from by rw [HNX.out, HDI.out]]
      go_wp2_with fail
      refine (qwindow wr g m q HSS.out.qat HSS.out.inv.inv.sz HSS.out.inv.inv.r2).mono ?_
      rintro e w4 ⟨rfl, n4, rfl⟩
      have hwin : q.room - (q.s.size : Int) = ((100 - (l - r) : Nat) : Int) := by
        have h1 := HSS.out.inv.inv.sz
        have h2 := HSS.out.inv.room
        rw [h2] at h1 ⊢
        omega
      rw [hwin]
      have HWIN := Lib.hid hwin
      clear hwin
      have HS4 := Lib.hid (HSS.out.keep ((Only.refl _ wr).drewN n4))
      have hsz4 := hsz
      clear hsz
      generalize wr.drewN n4 = w4 at HS4 ⊢
      clear HSS
      generalize hwn : 100 - (l - r) = win at HWIN ⊢
      have HWN := Lib.hid hwn
      have hw100 : win ≤ 100 := by omega
      clear hwn
      go_wp2_with fail
      refine (add_ok first (at_ : Int) w4 hf0 hf1 (by omega) (by omega)).mono ?_
      rintro e _ ⟨rfl, rfl⟩
      have nn0 := Int.emod_nonneg (first + (at_ : Int)) (show (4294967296 : Int) ≠ 0 by decide)
      have nn1 := Int.emod_lt_of_pos (first + (at_ : Int)) (show (0 : Int) < 4294967296 by decide)
      have hSz : (T.extract at_ en).size ≤ 65536 := by rw [ByteArray.size_extract]; omega
      have hS5 := HS4.out.inv.put at_ en he2 he3
      rw [HWN.out] at hS5
      generalize (first + (at_ : Int)) % 4294967296 = nn at nn0 nn1 hS5 ⊢
      generalize hEE : T.extract at_ en = S at hSz hS5
      have HEE := Lib.hid hEE
      clear hEE
      have i0 : (0 : Int) ≤ (at_ : Int) := by omega
      have i1 : (at_ : Int) ≤ (en : Int) := by omega
      have i2 : (en : Int) ≤ (T.size : Int) := by omega
      go_wp2_with fail
      rw [HEE.out]
      refine (put_any w4 g m q nn S HS4.out.qat nn0 nn1 hSz hq0 hq1 HS4.out.inv.inv.sz HS4.out.inv.inv.r2 HS4.out.inv.inv.len).mono ?_
      rintro e w5 ⟨rfl, hQ5, hk5⟩
      have hcl := HS4.out.clt
      have hM5 := HS4.out.marks.only HS4.out.clt hk5 (fun e => by omega)
      have hO5 : Only (fun _ => False) W w5 := HS4.out.only.then hk5 (fun i hi e => by omega)
      have hc5 : cb < w5.heap.size := Nat.lt_of_lt_of_le hcl hk5.size
      have HIV := Lib.hid hS5
      clear hk5 HS4 hcl hS5 i0 i1 i2 nn0 nn1 hq0 hq1 HNX HDI hSz
      generalize q.put nn S = q5 at hQ5 HIV
      generalize q.came nn S = c at HIV ⊢
      have hlcT := HIV.out.lT
      have hstart : CameAt w5 cb (fun i => came i || (decide (at_ ≤ i) && decide (i < at_))) := ⟨fun j hj => by
        rw [hM5.cell j hj]
        have : (decide (at_ ≤ j) && decide (j < at_)) = false := by rw [Bool.and_eq_false_iff, decide_eq_false_iff_not, decide_eq_false_iff_not]; omega
        rw [this, Bool.or_false], hM5.free⟩
      clear hM5
      go_wp2_with fail
      go_loopw [21] (fun jv wq => ∃ j : Nat, jv = .int .i64 j ∧ at_ ≤ j ∧ (j ≤ at_ ∨ (j ≤ en ∧ j ≤ l + win)) ∧ CameAt wq cb (fun i => came i || (decide (at_ ≤ i) && decide (i < j))) ∧ QAt wq g m q5 ∧ cb < wq.heap.size ∧ Only (fun _ => False) W wq) (fun i _ => 301 - (intOf i).toNat)
      case atStart => exact ⟨at_, rfl, Nat.le_refl _, .inl (Nat.le_refl _), hstart, hQ5, hc5, hO5⟩
      case round =>
        clear hstart hQ5 hc5 hO5
        obtain ⟨j, rfl, hj1, hj2, hM, hQ, hcl, hO⟩ := hrel
        by_cases hgo : j < en ∧ j < l + win
        · obtain ⟨g1, g2⟩ := hgo
          have hcj := hM.cell j (by omega)
          have hfj := hM.free j
          have hM2 := hM.set j (by omega) (fun i => came i || (decide (at_ ≤ i) && decide (i < j + 1))) (fun i => by
            cases came i with
            | true => rfl
            | false =>
              simp only [Bool.false_or]
              by_cases e : i = j
              · subst e; simp [hj1]
              · simp only [e, decide_false, Bool.or_false]
                congr 1
                apply decide_eq_decide.2
                omega)
          have hk1 := (Only.refl (fun k => k = cb) wr).setCell ⟨cb, j, none⟩ (.bool true) (fun _ => rfl)
          have hQ2 := hQ.only hk1 (fun e => by omega) (fun e => by omega)
          have hO2 := hO.then hk1 (fun i hi e => by omega)
          have hcl2 : cb < (wr.setCell ⟨cb, j, none⟩ (.bool true)).heap.size := Nat.lt_of_lt_of_le hcl hk1.size
          have HMM2 := Lib.hid hM2
          clear hM hM2 hk1
          go_wp2_with fail
          go_roundw
          case rel => exact ⟨j + 1, by go_num, by omega, .inr ⟨by omega, by omega⟩, HMM2.out, hQ2, hcl2, hO2⟩
          case measure => simp [intOf]; omega
        · have hM2 : CameAt wr cb (cameP came at_ en (l + win)) := ⟨fun i hi => by
            rw [hM.cell i hi]
            congr 2
            unfold cameP
            congr 1
            rw [Bool.eq_iff_iff]
            simp only [Bool.and_eq_true, decide_eq_true_eq]
            omega, hM.free⟩
          have HGO := Lib.hid hgo
          have HM2 := Lib.hid hM2
          clear hM
          by_cases hje : j < en
          · have dB : decide ((j : Int) < (l : Int) + (win : Int)) = false := decide_eq_false (by omega)
            clear hgo
            go_wp2_with fail
            go_loopw [22] (fun iv wq => ∃ i : Nat, iv = .int .i64 ((l + i : Nat) : Int) ∧ i ≤ c ∧ CameAt wq cb (cameP came at_ en (l + win)) ∧ QAt wq g m q5 ∧ cb < wq.heap.size ∧ Only (fun _ => False) W wq) (fun i _ => l + c - (intOf i).toNat)
            case atStart => exact ⟨0, by simp, by omega, hM2, hQ, hcl, hO⟩
            case round =>
              clear hM2 hQ hcl hO
              obtain ⟨i, rfl, hic, hM, hQ, hcl, hO⟩ := hrel
              have hli : l + i < 301 := by omega
              have hcell := hM.cell (l + i) hli
              have hi0 : (0 : Int) ≤ ((l + i : Nat) : Int) := by omega
              have hi1 : ((l + i : Nat) : Int) < 301 := by omega
              by_cases hc : i < c
              · have htrue : cameP came at_ en (l + win) (l + i) = true := (HIV.out.came (l + i) (by omega)).2 (.inl (by omega))
                rw [htrue] at hcell
                generalize hln : l + i = ln at *
                have HLN := Lib.hid hln
                clear hln htrue
                go_wp2_with fail
                go_roundw
                case rel => exact ⟨i + 1, by rw [← HLN.out]; simp; omega, by omega, hM, hQ, hcl, hO⟩
                case measure => have hx := HLN.out; simp [intOf]; omega
              · obtain rfl : i = c := by omega
                have hfalse : cameP came at_ en (l + win) (l + i) = false := HIV.out.stop
                rw [hfalse] at hcell
                have hlc3 : l + i ≤ 300 := by omega
                have HDI := Lib.hid (dist_first first (l + i) hf0 hf1 hlc3)
                have HNX := Lib.hid HIV.out.next
                have HSS : Hid (StAt W g m cb T first q5 (l + i) r (cameP came at_ en (l + win)) wr) := Lib.hid ⟨hQ, HIV.out, hM, hcl, hO⟩
                have hrl5 := HIV.out.rl
                have hq0 := HIV.out.inv.n0
                have hq1 := HIV.out.inv.n1
                have hsz5 := HIV.out.size
                clear hM hQ hcl hO hfalse hc
                generalize hln : l + i = ln at *
                have HLN := Lib.hid hln
                have hcnt : (ln : Int) - (l : Int) = (i : Int) := by omega
                clear hln
                go_wp2_with fail
                refine (qnext wr g m q5 HSS.out.qat).mono ?_
                rintro e _ ⟨rfl, rfl⟩
                go_wp2_with fail
                refine (distance_ok first q5.next wr hf0 hf1 hq0 hq1).mono ?_
                rintro e _ ⟨rfl, rfl⟩
                rw [show (q5.next - first) % 4294967296 = (ln : Int) from by rw [HNX.out, HDI.out]]
                go_wp2_with fail
                refine (qready wr g m q5 HSS.out.qat).mono ?_
                rintro e _ ⟨rfl, rfl⟩
                go_wp2_with fail
                refine (qwindow wr g m q5 HSS.out.qat HSS.out.inv.inv.sz HSS.out.inv.inv.r2).mono ?_
                rintro e w6 ⟨rfl, n6, rfl⟩
                have HS6 := Lib.hid (HSS.out.keep ((Only.refl _ wr).drewN n6))
                generalize wr.drewN n6 = w6 at HS6 ⊢
                have hsum : (q5.s.size : Int) + (q5.room - (q5.s.size : Int)) = 100 := by
                  have := HS6.out.inv.room
                  omega
                have hrr : q5.room ≤ 65536 := HS6.out.inv.inv.r2
                have hrs : (q5.s.size : Int) ≤ q5.room := HS6.out.inv.inv.sz
                clear HSS hcell
                have hbl := HS6.out.only.block b hbW (fun h => h)
                have y2 : w6.cell? ⟨b, off + k * 3 + 2, none⟩ = some (.int .i64 xc) := by
                  rw [World.cell?_of_block (w := W) (w' := w6) (a := ⟨b, off + k * 3 + 2, none⟩) hbl]; exact HC2.out
                clear hbl
                go_wp2_with fail
                refine (among_any xc 60 w6 wc (by decide) (by decide)).mono ?_
                rintro e _ ⟨rfl, rfl⟩
                generalize xc % 60 = nr
                go_wp2_with fail
                refine (qread w6 g m q5 nr HS6.out.qat (by have := HS6.out.inv.inv.sz; have := HS6.out.inv.inv.r2; omega)).mono ?_
                rintro e w7 ⟨rfl, hQ7, hk7⟩
                obtain ⟨hV7, hX7, hr7⟩ := HS6.out.inv.read nr
                have hS7 : StAt W g m cb T first (q5.read nr) ln (r + q5.many nr) (cameP came at_ en (l + win)) w7 :=
                  ⟨hQ7, hV7, HS6.out.marks.only HS6.out.clt hk7 (fun e => by omega), Nat.lt_of_lt_of_le HS6.out.clt hk7.size, HS6.out.only.then hk7 (fun i hi e => by omega)⟩
                rw [hX7]
                have hadd : T.extract 0 r ++ T.extract r (r + q5.many nr) = T.extract 0 (r + q5.many nr) := extract_join T 0 r _ (by omega) (by omega)
                have hsz7 : (q5.read nr).s.size = ln - (r + q5.many nr) := hV7.size
                have hz1 : (T.extract 0 r).size = r := by rw [ByteArray.size_extract]; omega
                have hz2 : (T.extract r (r + q5.many nr)).size = q5.many nr := by rw [ByteArray.size_extract]; omega
                have hz3 : (T.extract 0 (r + q5.many nr)).size = r + q5.many nr := by rw [ByteArray.size_extract]; omega
                have HS7 := Lib.hid hS7
                have hcat : ¬ 9223372036854775807 < (T.extract 0 r).size + (T.extract r (r + q5.many nr)).size := by rw [hz1, hz2]; omega
                clear hS7 hV7 hQ7 hk7 hX7 HS6 y2 hz1 hz2 hsum hcnt
                generalize q5.read nr = q7 at HS7 hsz7 ⊢
                generalize q5.many nr = mm at *
                generalize T.extract r (r + mm) = X7 at hadd hcat ⊢
                have hle7 : r + mm ≤ ln := hr7
                generalize r + mm = r7 at *
                have dle : decide (ln < r7) = false := decide_eq_false (by omega)
                have hsub : ((ln - r7 : Nat) : Int) = (ln : Int) - (r7 : Int) := by omega
                have hr7T : r7 ≤ T.size := by omega
                go_wp2_with fail
                refine (qready w7 g m q7 HS7.out.qat).mono ?_
                rintro e _ ⟨rfl, rfl⟩
                rw [hsz7, hsub]
                go_wp2_with fail
                go_roundw
                case rel => exact ⟨k + 1, q7, ln, r7, _, by go_num, rfl, by omega, by omega, HS7.out⟩
                case measure => simp [intOf]; omega
          · have dA : decide (j < en) = false := decide_eq_false hje
            clear hgo hje
            go_wp2_with fail
            go_loopw [22] (fun iv wq => ∃ i : Nat, iv = .int .i64 ((l + i : Nat) : Int) ∧ i ≤ c ∧ CameAt wq cb (cameP came at_ en (l + win)) ∧ QAt wq g m q5 ∧ cb < wq.heap.size ∧ Only (fun _ => False) W wq) (fun i _ => l + c - (intOf i).toNat)
            case atStart => exact ⟨0, by simp, by omega, hM2, hQ, hcl, hO⟩
            case round =>
              clear hM2 hQ hcl hO
              obtain ⟨i, rfl, hic, hM, hQ, hcl, hO⟩ := hrel
              have hli : l + i < 301 := by omega
              have hcell := hM.cell (l + i) hli
              have hi0 : (0 : Int) ≤ ((l + i : Nat) : Int) := by omega
              have hi1 : ((l + i : Nat) : Int) < 301 := by omega
              by_cases hc : i < c
              · have htrue : cameP came at_ en (l + win) (l + i) = true := (HIV.out.came (l + i) (by omega)).2 (.inl (by omega))
                rw [htrue] at hcell
                generalize hln : l + i = ln at *
                have HLN := Lib.hid hln
                clear hln htrue
                go_wp2_with fail
                go_roundw
                case rel => exact ⟨i + 1, by rw [← HLN.out]; simp; omega, by omega, hM, hQ, hcl, hO⟩
                case measure => have hx := HLN.out; simp [intOf]; omega
              · obtain rfl : i = c := by omega
                have hfalse : cameP came at_ en (l + win) (l + i) = false := HIV.out.stop
                rw [hfalse] at hcell
                have hlc3 : l + i ≤ 300 := by omega
                have HDI := Lib.hid (dist_first first (l + i) hf0 hf1 hlc3)
                have HNX := Lib.hid HIV.out.next
                have HSS : Hid (StAt W g m cb T first q5 (l + i) r (cameP came at_ en (l + win)) wr) := Lib.hid ⟨hQ, HIV.out, hM, hcl, hO⟩
                have hrl5 := HIV.out.rl
                have hq0 := HIV.out.inv.n0
                have hq1 := HIV.out.inv.n1
                have hsz5 := HIV.out.size
                clear hM hQ hcl hO hfalse hc
                generalize hln : l + i = ln at *
                have HLN := Lib.hid hln
                have hcnt : (ln : Int) - (l : Int) = (i : Int) := by omega
                clear hln
                go_wp2_with fail
                refine (qnext wr g m q5 HSS.out.qat).mono ?_
                rintro e _ ⟨rfl, rfl⟩
                go_wp2_with fail
                refine (distance_ok first q5.next wr hf0 hf1 hq0 hq1).mono ?_
                rintro e _ ⟨rfl, rfl⟩
                rw [show (q5.next - first) % 4294967296 = (ln : Int) from by rw [HNX.out, HDI.out]]
                go_wp2_with fail
                refine (qready wr g m q5 HSS.out.qat).mono ?_
                rintro e _ ⟨rfl, rfl⟩
                go_wp2_with fail
                refine (qwindow wr g m q5 HSS.out.qat HSS.out.inv.inv.sz HSS.out.inv.inv.r2).mono ?_
                rintro e w6 ⟨rfl, n6, rfl⟩
                have HS6 := Lib.hid (HSS.out.keep ((Only.refl _ wr).drewN n6))
                generalize wr.drewN n6 = w6 at HS6 ⊢
                have hsum : (q5.s.size : Int) + (q5.room - (q5.s.size : Int)) = 100 := by
                  have := HS6.out.inv.room
                  omega
                have hrr : q5.room ≤ 65536 := HS6.out.inv.inv.r2
                have hrs : (q5.s.size : Int) ≤ q5.room := HS6.out.inv.inv.sz
                clear HSS hcell
                have hbl := HS6.out.only.block b hbW (fun h => h)
                have y2 : w6.cell? ⟨b, off + k * 3 + 2, none⟩ = some (.int .i64 xc) := by
                  rw [World.cell?_of_block (w := W) (w' := w6) (a := ⟨b, off + k * 3 + 2, none⟩) hbl]; exact HC2.out
                clear hbl
                go_wp2_with fail
                refine (among_any xc 60 w6 wc (by decide) (by decide)).mono ?_
                rintro e _ ⟨rfl, rfl⟩
                generalize xc % 60 = nr
                go_wp2_with fail
                refine (qread w6 g m q5 nr HS6.out.qat (by have := HS6.out.inv.inv.sz; have := HS6.out.inv.inv.r2; omega)).mono ?_
                rintro e w7 ⟨rfl, hQ7, hk7⟩
                obtain ⟨hV7, hX7, hr7⟩ := HS6.out.inv.read nr
                have hS7 : StAt W g m cb T first (q5.read nr) ln (r + q5.many nr) (cameP came at_ en (l + win)) w7 :=
                  ⟨hQ7, hV7, HS6.out.marks.only HS6.out.clt hk7 (fun e => by omega), Nat.lt_of_lt_of_le HS6.out.clt hk7.size, HS6.out.only.then hk7 (fun i hi e => by omega)⟩
                rw [hX7]
                have hadd : T.extract 0 r ++ T.extract r (r + q5.many nr) = T.extract 0 (r + q5.many nr) := extract_join T 0 r _ (by omega) (by omega)
                have hsz7 : (q5.read nr).s.size = ln - (r + q5.many nr) := hV7.size
                have hz1 : (T.extract 0 r).size = r := by rw [ByteArray.size_extract]; omega
                have hz2 : (T.extract r (r + q5.many nr)).size = q5.many nr := by rw [ByteArray.size_extract]; omega
                have hz3 : (T.extract 0 (r + q5.many nr)).size = r + q5.many nr := by rw [ByteArray.size_extract]; omega
                have HS7 := Lib.hid hS7
                have hcat : ¬ 9223372036854775807 < (T.extract 0 r).size + (T.extract r (r + q5.many nr)).size := by rw [hz1, hz2]; omega
                clear hS7 hV7 hQ7 hk7 hX7 HS6 y2 hz1 hz2 hsum hcnt
                generalize q5.read nr = q7 at HS7 hsz7 ⊢
                generalize q5.many nr = mm at *
                generalize T.extract r (r + mm) = X7 at hadd hcat ⊢
                have hle7 : r + mm ≤ ln := hr7
                generalize r + mm = r7 at *
                have dle : decide (ln < r7) = false := decide_eq_false (by omega)
                have hsub : ((ln - r7 : Nat) : Int) = (ln : Int) - (r7 : Int) := by omega
                have hr7T : r7 ≤ T.size := by omega
                go_wp2_with fail
                refine (qready w7 g m q7 HS7.out.qat).mono ?_
                rintro e _ ⟨rfl, rfl⟩
                rw [hsz7, hsub]
                go_wp2_with fail
                go_roundw
                case rel => exact ⟨k + 1, q7, ln, r7, _, by go_num, rfl, by omega, by omega, HS7.out⟩
                case measure => simp [intOf]; omega
    · by_cases hkn' : k < n
      all_goals
        go_wp2_with fail
        go_loopw [192, 10] (fun iv rv wq => ∃ (k : Nat) (q : QS) (l r : Nat) (came : Nat → Bool), iv = .int .i64 k ∧ rv = .string (T.extract 0 r) ∧ k ≤ T.size + 1 ∧ min T.size k ≤ l ∧ (k = 0 ∨ min T.size (k - 1) ≤ r) ∧ QAt wq g m q ∧ SInv T first q l r came ∧ Only (fun _ => False) W wq) (fun i _ _ => T.size + 1 - (intOf i).toNat)
        case atStart => exact ⟨0, q, l, r, came, rfl, rfl, by omega, by omega, .inl rfl, hS.qat, hS.inv, hS.only⟩
        case round =>
          clear hS
          obtain ⟨k2, q, l, r, came, rfl, rfl, hk2, hl2, hr2, hQA, hSV, hOA⟩ := hrel
          by_cases hlt : k2 < T.size + 1
          · have hsz := hSV.size
            have hrl := hSV.rl
            have hlT := hSV.lT
            have hmany : q.many 100 = l - r := by
              have h1 := hSV.inv.sz
              rw [hSV.room, hsz] at h1
              unfold QS.many mx mn
              rw [hsz]
              split <;> (try split) <;> omega
            have HSS := Lib.hid (show QAt wr g m q ∧ SInv T first q l r came ∧ Only (fun _ => False) W wr from ⟨hQA, hSV, hOA⟩)
            have hq2 := hSV.inv.sz
            have hq3 := hSV.inv.r2
            clear hQA hSV hOA
            go_wp2_with fail
            refine (qread wr g m q 100 HSS.out.1 (by omega)).mono ?_
            rintro e w7 ⟨rfl, hQ7, hk7⟩
            obtain ⟨hV7, hX7, hr7⟩ := HSS.out.2.1.read 100
            rw [hmany, show r + (l - r) = l by omega] at hX7 hV7
            have hS7 : QAt w7 g m (q.read 100) ∧ SInv T first (q.read 100) l l came ∧ Only (fun _ => False) W w7 :=
              ⟨hQ7, hV7, HSS.out.2.2.then hk7 (fun i hi e => by omega)⟩
            rw [hmany, hX7]
            have hadd : T.extract 0 r ++ T.extract r l = T.extract 0 l := extract_join T 0 r l (by omega) (by omega)
            have hz1 : (T.extract 0 r).size = r := by rw [ByteArray.size_extract]; omega
            have hz2 : (T.extract r l).size = l - r := by rw [ByteArray.size_extract]; omega
            have hz3 : (T.extract 0 l).size = l := by rw [ByteArray.size_extract]; omega
            have HS7 := Lib.hid hS7
            have hcat : ¬ 9223372036854775807 < (T.extract 0 r).size + (T.extract r l).size := by rw [hz1, hz2]; omega
            have HNX := Lib.hid hV7.next
            clear hS7 hV7 hQ7 hk7 hX7 HSS hz1 hz2 hmany hsz hq2 hr7
            generalize q.read 100 = q7 at HS7 HNX ⊢
            generalize T.extract r l = X7 at hadd hcat ⊢
            have hl300 : l ≤ 300 := by omega
            go_wp2_with fail
            refine (add_ok first (l : Int) w7 hf0 hf1 (by omega) (by omega)).mono ?_
            rintro e _ ⟨rfl, rfl⟩
            rw [← HNX.out]
            go_wp2_with fail
            refine (qnext w7 g m q7 HS7.out.1).mono ?_
            rintro e _ ⟨rfl, rfl⟩
            have hen : ∃ en : Nat, mn (T.size : Int) ((l : Int) + 50) = (en : Int) ∧ l ≤ en ∧ en ≤ T.size ∧ min T.size (l + 1) ≤ en ∧ en ≤ l + 50 := ⟨min T.size (l + 50), by unfold mn; split <;> omega, by omega, by omega, by omega, by omega⟩
            obtain ⟨en, he1, he2, he3, he4, he5⟩ := hen
            have hSz : (T.extract l en).size ≤ 65536 := by rw [ByteArray.size_extract]; omega
            have hS5 := HS7.out.2.1.put l en he2 he3
            rw [← HNX.out] at hS5
            generalize hEE : T.extract l en = S at hSz hS5
            have HEE := Lib.hid hEE
            clear hEE
            have i1 : (l : Int) ≤ (en : Int) := by omega
            have i2 : (en : Int) ≤ (T.size : Int) := by omega
            have q70 := HS7.out.2.1.inv.n0
            have q71 := HS7.out.2.1.inv.n1
            go_wp2_with fail
            rw [HEE.out]
            refine (put_any w7 g m q7 q7.next S HS7.out.1 q70 q71 hSz q70 q71 HS7.out.2.1.inv.sz HS7.out.2.1.inv.r2 HS7.out.2.1.inv.len).mono ?_
            rintro e w5 ⟨rfl, hQ5, hk5⟩
            have hst := hS5.stop
            have hge : en ≤ l + q7.came q7.next S := by
              rcases Nat.lt_or_ge (l + q7.came q7.next S) en with h1 | h1
              · exfalso
                unfold cameP at hst
                have h2 : (decide (l ≤ l + q7.came q7.next S) && decide (l + q7.came q7.next S < en) && decide (l + q7.came q7.next S < l + (100 - (l - l)))) = true := by
                  simp only [Bool.and_eq_true, decide_eq_true_eq]
                  omega
                rw [h2, Bool.or_true] at hst
                cases hst
              · exact h1
            have hO5 : Only (fun _ => False) W w5 := HS7.out.2.2.then hk5 (fun i hi e => by omega)
            have HIV := Lib.hid hS5
            have hlc := hS5.lT
            have HQ5 := Lib.hid hQ5
            clear hst hk5 HS7 hS5 i1 i2 q70 q71 hSz hQ5
            generalize q7.put q7.next S = q5 at HQ5 HIV
            generalize q7.came q7.next S = c at HIV hge hlc ⊢
            go_wp2_with fail
            go_roundw
            case rel => exact ⟨k2 + 1, q5, l + c, l, _, by go_num, rfl, by omega, by omega, .inr (by omega), HQ5.out, HIV.out, hO5⟩
            case measure => simp [intOf]; omega
          · have hrT : r = T.size := by
              have h1 := hSV.rl
              have h2 := hSV.lT
              rcases hr2 with h3 | h3 <;> omega
            have hfull : T.extract 0 r = T := by
              rw [hrT]
              apply nums_inj
              rw [nums_extract, List.drop_zero, Nat.sub_zero, List.take_of_length_le (by rw [nums_length]; exact Nat.le_refl _)]
            have hO := hOA
            have hk2e : k2 = T.size + 1 := by omega
            have HK2 := Lib.hid hk2e
            clear hQA hSV hrT hr2 hl2 hk2e
            go_wp2_with fail
            go_ret
            exact ⟨rfl, hO.below (Nat.le_refl _) (fun _ _ h => h)⟩

end Go.Proofs.Ytbpmbmidjdhbpaa

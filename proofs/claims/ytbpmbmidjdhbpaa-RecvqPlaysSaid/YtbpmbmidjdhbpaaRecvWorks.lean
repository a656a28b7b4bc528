/-
  The chapter's example for receive queues; whether two lists of stretches are the same.
  No conditions.
-/
import Derived.Test.YtbpmbmidjdhbpaaRecvApart
import Derived.Test.YtbpmbmidjdhbpaaRecvInv
set_option linter.unusedVariables false
set_option linter.unusedSimpArgs false
set_option maxRecDepth 100000
namespace Go.Proofs.Ytbpmbmidjdhbpaa
open Go.RowKit Go.Sort

theorem RangesAt.keep {w w' : World} {B : Nat} {a : Option Addr} {L : List (Int × Int)} {S : Nat → Prop} (h : RangesAt w B a L) (hk : Only S w w') (hS : ∀ k, B ≤ k → k < w.heap.size → ¬ S k) : RangesAt w' B a L :=
  ⟨fun i hi => by
    obtain ⟨g, h1, h2, h3, h4, h5⟩ := h.at_ i hi
    exact ⟨g, h1, h2, Nat.lt_of_lt_of_le h3 hk.size, cell_only hk (hS g h2 h3) h4, cell_only hk (hS g h2 h3) h5⟩⟩

set_option maxHeartbeats 2000000 in
theorem same_any (w : World) (a b : Option Addr) (n k ca cb : Nat) (L M : List (Int × Int)) (B B' : Nat) (hL : L.length = n) (hM : M.length = k) (hn : n ≤ 1099511627776) (hk : k ≤ 1099511627776) (ha : RangesAt w B a L) (hb : RangesAt w B' b M) :
    Calls Try.prog 16 #[.slice a n ca, .slice b k cb] w fun e w' => e = .returned (.bool (decide (L = M))) ∧ Only (fun _ => False) w w' := by
  by_cases hlen : n = k
  case neg =>
    have hne : decide (L = M) = false := decide_eq_false (fun e => hlen (by rw [← hL, ← hM, e]))
    rw [hne]
    have d1 : ((n : Int) != (k : Int)) = true := by simp; omega
    clear hne hL hM ha hb
    go_enter Try.func16, Try.ntmps16
    go_wp2_with fail
    go_ret
    exact ⟨rfl, Only.refl _ _⟩
  have HLL := Lib.hid hL
  have HMM := Lib.hid hM
  subst hlen
  have HA := Lib.hid ha
  have HB := Lib.hid hb
  clear ha hb hL hM
  go_enter Try.func16, Try.ntmps16
  go_wp2_with fail
  go_loopw [5] (fun iv wr => ∃ i : Nat, iv = .int .i64 i ∧ i ≤ n ∧ (∀ j, j < i → L.getD j (0, 0) = M.getD j (0, 0)) ∧ Only (fun _ => False) w wr) (fun i _ => n - (intOf i).toNat)
  case atStart => exact ⟨0, rfl, by omega, fun j hj => absurd hj (Nat.not_lt_zero _), Only.refl _ _⟩
  case round =>
    obtain ⟨i, rfl, hin, hpre, hO⟩ := hrel
    have HPRE := Lib.hid hpre
    clear hpre
    by_cases hlt : i < n
    · obtain ⟨ga, rfl, _, _, x0, x1⟩ := HA.out.at_ i (by rw [HLL.out]; exact hlt)
      obtain ⟨gb, rfl, _, _, y0, y1⟩ := HB.out.at_ i (by rw [HMM.out]; exact hlt)
      replace x0 := cell_only hO (fun h => h) x0
      replace x1 := cell_only hO (fun h => h) x1
      replace y0 := cell_only hO (fun h => h) y0
      replace y1 := cell_only hO (fun h => h) y1
      by_cases heq : L.getD i (0, 0) = M.getD i (0, 0)
      · rw [heq] at x0 x1
        have HEQ := Lib.hid heq
        clear heq
        generalize (M.getD i (0, 0)).1 = u at x0 y0
        generalize (M.getD i (0, 0)).2 = v at x1 y1
        go_wp2_with fail
        go_quiet (fail)
        go_wp2_with fail
        go_roundw
        case rel => exact ⟨i + 1, by go_num, by omega, fun j hj => by
          by_cases e : j = i
          · rw [e]; exact HEQ.out
          · exact HPRE.out j (by omega), hO.drewN _⟩
        case measure => simp [intOf]; omega
      · have hne : decide (L = M) = false := decide_eq_false (fun e => heq (by rw [e]))
        have HNE := Lib.hid hne
        have hb2 : ((L.getD i (0, 0)).1 == (M.getD i (0, 0)).1 && (L.getD i (0, 0)).2 == (M.getD i (0, 0)).2) = false := by
          rw [Bool.eq_false_iff]
          intro h
          simp only [Bool.and_eq_true, beq_iff_eq] at h
          exact heq (Prod.ext h.1 h.2)
        clear hne heq
        generalize (L.getD i (0, 0)).1 = u at x0 hb2
        generalize (L.getD i (0, 0)).2 = v at x1 hb2
        generalize (M.getD i (0, 0)).1 = u' at y0 hb2
        generalize (M.getD i (0, 0)).2 = v' at y1 hb2
        by_cases hu : u = u'
        · subst hu
          have hv : (v == v') = false := by simpa using hb2
          clear hb2
          go_wp2_with fail
          go_quiet (fail)
          go_wp2_with fail
          go_ret
          exact ⟨by rw [HNE.out]; rfl, hO.drewN _⟩
        · have hv : (u == u') = false := by simpa using hu
          clear hb2 hu
          go_wp2_with fail
          go_quiet (fail)
          go_wp2_with fail
          go_ret
          exact ⟨by rw [HNE.out]; rfl, hO.drewN _⟩
    · obtain rfl : i = n := by omega
      have hall : decide (L = M) = true := by
        apply decide_eq_true
        apply List.ext_getElem (by rw [HLL.out, HMM.out])
        intro j h1 h2
        have := HPRE.out j (by rw [← HLL.out]; exact h1)
        simpa [List.getD, h1, h2] using this
      have HALL := Lib.hid hall
      clear hall
      go_wp2_with fail
      go_ret
      exact ⟨by rw [HALL.out]; rfl, hO⟩

/-! ### The example -/

def q16 : QS := ⟨10, 8, ⟨#[]⟩, []⟩
theorem q16_a : q16.put 12 ⟨#[99, 100]⟩ = ⟨10, 8, ⟨#[]⟩, [(12, 99), (13, 100)]⟩ ∧ q16.came 12 ⟨#[99, 100]⟩ = 0 := ⟨by rfl, by rfl⟩
theorem q16_b : (⟨10, 8, ⟨#[]⟩, [(12, 99), (13, 100)]⟩ : QS).put 10 ⟨#[97, 98]⟩ = ⟨14, 8, ⟨#[97, 98, 99, 100]⟩, []⟩ ∧ (⟨10, 8, ⟨#[]⟩, [(12, 99), (13, 100)]⟩ : QS).came 10 ⟨#[97, 98]⟩ = 4 := ⟨by rfl, by rfl⟩
theorem q16_s : (⟨10, 8, ⟨#[]⟩, [(12, 99), (13, 100)]⟩ : QS).stretches = [(12, 14)] := by
  have h : (⟨10, 8, ⟨#[]⟩, [(12, 99), (13, 100)]⟩ : QS).far = [2, 3] := by
    unfold QS.far
    have e : ([(12, 99), (13, 100)] : List (Int × Nat)).map (fun p => off 10 p.1) = [2, 3] := by decide
    rw [e]
    exact List.mergeSort_of_pairwise (by decide)
  unfold QS.stretches
  rw [h]
  decide

set_option maxHeartbeats 2000000 in
theorem works16 (w : World) : Calls Try.prog 8 #[] w fun e w' => e = .returned (.bool true) ∧ Only (fun _ => False) w w' := by
  go_enter Try.func8, Try.ntmps8
  go_wp2_with fail
  refine (qnew 10 8 w (by decide) (by decide) (by decide) (by decide)).mono ?_
  rintro e w1 ⟨rfl, h1, hk1⟩
  have hI0 : QInv ⟨10, 8, ⟨#[]⟩, []⟩ := QInv.new 10 8 (by decide) (by decide) (by decide) (by decide)
  generalize hg : w.heap.size + 1 = g at h1 ⊢
  generalize hm : w.heap.size = m at h1 hg
  have hgm : m ≤ g := by omega
  have HM := Lib.hid hm
  clear hg hm
  go_wp2_with fail
  refine (put_any w1 g m _ 12 ⟨#[99, 100]⟩ h1 (by decide) (by decide) (by decide) hI0.n0 hI0.n1 hI0.sz hI0.r2 hI0.len).mono ?_
  rintro e w2 ⟨rfl, h2, hk2⟩
  have hI1 := hI0.put (at_ := 12) (s := ⟨#[99, 100]⟩) (by decide) (by decide) (by decide)
  have e1 := q16_a
  unfold q16 at e1
  rw [e1.1] at h2 hI1
  rw [e1.2]
  clear e1 h1 hI0
  go_wp2_with fail
  refine (apart_any w2 g m _ 9 h2 hI1.n0 hI1.n1 hI1.len hI1.keys).mono ?_
  rintro e w3 ⟨la, lcap, rfl, hR, hk3⟩
  rw [q16_s] at hR ⊢
  have hm1 : (mx 0 (mn 9 (([(12, 14)] : List (Int × Int)).length : Int))).toNat = 1 := by decide
  rw [hm1] at hR ⊢
  have h3 := h2.keep hk3
  go_wp2_with fail
  refine (put_any w3 g m _ 10 ⟨#[97, 98]⟩ h3 (by decide) (by decide) (by decide) hI1.n0 hI1.n1 hI1.sz hI1.r2 hI1.len).mono ?_
  rintro e w4 ⟨rfl, h4, hk4⟩
  have hlt2 := h2.lt
  rw [q16_b.1] at h4
  rw [q16_b.2]
  have hR4 : RangesAt w4 w2.heap.size la [(12, 14)] := hR.keep hk4 (fun k h1 h2 e => by omega)
  have hkA : Only (fun _ => False) w w4 := ((hk1.then hk2 (fun i hi e => by have := HM.out; omega)).trans hk3).then hk4 (fun i hi e => by have := HM.out; omega)
  clear hR hk1 hk2 hk3 hk4 h2 h3 hI1
  have hkb := (Only.refl (fun _ => False) w4).alloc (.cells #[.int .i64 12, .int .i64 14] 37)
  have hnb := blk_new w4 (.cells #[.int .i64 12, .int .i64 14] 37)
  have hR5 := hR4.keep hkb (fun _ _ _ h => h)
  have hR6 : RangesAt (w4.alloc (.cells #[.int .i64 12, .int .i64 14] 37)) 0 (some ⟨w4.heap.size, 0, none⟩) [(12, 14)] := ⟨fun i hi => by
    have : i = 0 := by simpa using hi
    subst this
    exact ⟨w4.heap.size, rfl, Nat.zero_le _, heap_lt hnb, (blk_cell hnb 0).trans rfl, (blk_cell hnb 1).trans rfl⟩⟩
  have h5 := h4.keep hkb
  clear hR4 hnb h4
  go_wp2_with fail
  refine (same_any _ la (some ⟨w4.heap.size, 0, none⟩) 1 1 lcap 1 [(12, 14)] [(12, 14)] w2.heap.size 0 rfl rfl (by decide) (by decide) hR5 hR6).mono ?_
  rintro e w5 ⟨rfl, hk5⟩
  have h6 := h5.keep hk5
  have hkB := (hkA.trans hkb).trans hk5
  clear hR5 hR6 h5 hk5 hkb hkA
  rw [show decide (([(12, 14)] : List (Int × Int)) = [(12, 14)]) = true from by decide]
  go_wp2_with fail
  refine (qread w5 g m _ 9 h6 (by decide)).mono ?_
  rintro e w6 ⟨rfl, h7, hk7⟩
  rw [show (⟨#[97, 98, 99, 100]⟩ : ByteArray).extract 0 ((⟨14, 8, ⟨#[97, 98, 99, 100]⟩, []⟩ : QS).many 9) = ⟨#[97, 98, 99, 100]⟩ from by decide +kernel]
  go_wp2_with fail
  go_ret
  exact ⟨rfl, hkB.then hk7 (fun i hi e => by have := HM.out; omega)⟩

end Go.Proofs.Ytbpmbmidjdhbpaa

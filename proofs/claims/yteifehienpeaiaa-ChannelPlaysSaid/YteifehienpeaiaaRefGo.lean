/-
  Go (the tick) of the reference end of a channel.
  Conditions: numbers are of the kind int, the end's own in their bounds.
-/
import Derived.Test.YteifehienpeaiaaRefSend
set_option linter.unusedVariables false
set_option linter.unusedSimpArgs false
set_option maxRecDepth 100000
namespace Go.Proofs.Yteifehienpeaiaa
open Go.RowKit

theorem resent_succ (s : CS) (i : Nat) (h : i < s.W.length) : s.resent (i + 1) = s.resent i ++ (if (s.W.getD i st0).2.1 + s.wait ≤ s.now then [s.letter 1 (s.W.getD i st0).1 (s.W.getD i st0).2.2] else []) := by
  have h' : i < s.O.length := by unfold CS.W at h; rwa [List.length_map] at h
  have hx : s.O[i]? = some s.O[i] := List.getElem?_eq_getElem h'
  rw [resent_at s i s.O[i] hx]
  have e : s.W.getD i st0 = (s.O[i].key, s.O[i].at_, s.O[i].data) := by
    rw [List.getD_eq_getElem?_getD]
    unfold CS.W
    rw [List.getElem?_map, hx]
    rfl
  rw [e]
  congr 1
  unfold CS.due
  simp

theorem row_own {S : Nat → Prop} {w w' : World} {base : Nat} {e : TypeId} {size : Nat} {v : Value} {n : Nat} {xs : List Value} (h : w.ownsRow base e size v n xs) (hk : Only S w w') (hS : ∀ k, v.ownBlock = some k → ¬ S k) : w'.ownsRow base e size v n xs := by
  refine ⟨h.1, ?_⟩
  rcases h.2 with h1 | ⟨g, cap, cur, rfl, hb, hg, rest⟩
  · exact .inl h1
  · exact .inr ⟨g, cap, cur, rfl, hb, hk.at hg (hS g rfl), rest⟩

theorem row_sent {w : World} {base n b : Nat} {v : Value} {xs : List Value} {cur : Array Value} (h : w.ownsRow base 9 1 v n xs) (hb : w.heap[b]? = some (.cells cur 135 (0, 0))) : v.ownBlock ≠ some b := by
  obtain ⟨_, ⟨rfl, _⟩ | ⟨g, cap, c, rfl, _, hg, _⟩⟩ := h
  · intro e
    cases e
  · intro e
    obtain rfl : g = b := Option.some.inj e
    rw [hg] at hb
    injection hb with hb
    injection hb with _ hb
    revert hb
    decide

def rgG (W : World) (r g i N cap : Nat) (ov : Value) (s : CS) (x : St) : Nat → Value → World → Prop
  | 0, v, w' => v = ov
  | 1, v, w' => v = .pointer (some ⟨r, 0, none⟩)
  | 2, v, w' => v = .slice (some ⟨g, 0, none⟩) N cap
  | 3, v, w' => v = .int .i64 i
  | 4, v, w' => v = .pointer (some ⟨g, i * 3, none⟩)
  | 5, v, w' => v = .pointer (some ⟨g, i * 3, none⟩)
  | 6, v, w' => v = .int .i64 x.1
  | 7, v, w' => v = .slice (some ⟨g, 0, none⟩) N cap
  | 8, v, w' => v = .int .i64 i
  | 9, v, w' => v = .pointer (some ⟨g, i * 3, none⟩)
  | 10, v, w' => v = .pointer (some ⟨g, i * 3 + 2, none⟩)
  | 11, v, w' => v = .string x.2.2
  | 12, v, w' => v = .string (s.letter 1 x.1 x.2.2)
  | 13, v, w' => ∃ k, v = .slice (some ⟨k, 0, none⟩) 1 1 ∧ W.heap.size ≤ k ∧ w'.heap[k]? = some (.cells #[.string (s.letter 1 x.1 x.2.2)] 9 (0, 0))
  | _, _, _ => True
def rgDs : List Nat := [47, 48, 49, 50, 51, 52, 53, 54, 55, 56, 57, 58, 59, 60]
def rgNeed : List (List Nat) := [[], [], [], [], [2, 3], [4], [5], [], [], [7, 8], [9], [10], [1, 6, 11], [12]]
def rgGs : List (Option Bool) := []
theorem rgG.keep {W : World} {r g i N cap : Nat} {ov : Value} {s : CS} {x : St} : ∀ jx v w w', rgG W r g i N cap ov s x jx v w → Only (fun _ => False) w w' → rgG W r g i N cap ov s x jx v w' := by
  intro jx v w w' h hO
  match jx with
  | 0 => exact h
  | 1 => exact h
  | 2 => exact h
  | 3 => exact h
  | 4 => exact h
  | 5 => exact h
  | 6 => exact h
  | 7 => exact h
  | 8 => exact h
  | 9 => exact h
  | 10 => exact h
  | 11 => exact h
  | 12 => exact h
  | 13 => exact (by obtain ⟨k, e1, e2, e3⟩ := h; exact ⟨k, e1, e2, hO.at e3 (fun h => h)⟩)
  | n + 14 => trivial
theorem rgG.guard {W : World} {r g i N cap : Nat} {ov : Value} {s : CS} {x : St} : ∀ g' b', rgGs.getD g' none = some b' → ∀ v w, rgG W r g i N cap ov s x g' v w → v = .bool b' := by
  intro g' b' hbb v w hgg
  match g', hbb, hgg with
  | n' + 0, hbb, hgg => exact absurd hbb (by simp [rgGs])

set_option maxHeartbeats 8000000 in
theorem rgo_any (w : World) (r : Nat) (s : CS) (now : Int) (h : REAt w r s) (ho : COk s) :
    Calls Try.prog 58 #[.pointer (some ⟨r, 0, none⟩), .int .i64 now] w fun e w' => ∃ v, e = .returned v ∧ w'.ownsRow w.heap.size 9 1 v (s.outs now).length ((s.outs now).map Value.string) ∧ REAt w' r (s.ticks now) ∧ Only (fun k => k = r) w w' := by
  obtain ⟨i9, hin, hz0, hz1, hz2⟩ := info_parts info9
  have H := Lib.hid h
  have HOK := Lib.hid (ho.ticked now)
  have HOUT := Lib.hid (show s.outs now = (s.ticked now).resent (s.ticked now).O.length ++ (if s.bat ≤ (s.ticked now).now then [(s.ticked now).letter 2 s.mark ⟨#[]⟩] else []) from by
    unfold CS.outs CS.resent
    rw [List.take_length]
    rfl)
  have HTK := Lib.hid (show s.ticks now = { (s.ticked now).swept (s.ticked now).O.length with bat := if s.bat ≤ (s.ticked now).now then (s.ticked now).now + s.beat else s.bat } from by
    unfold CS.ticks CS.swept
    rw [List.take_length, List.drop_length, List.append_nil]
    rfl)
  have hbat : (s.ticked now).bat = s.bat := rfl
  have hmk : (s.ticked now).mark = s.mark := rfl
  have hbt : (s.ticked now).beat = s.beat := rfl
  clear h ho
  go_enter Try.func58, Try.ntmps58
  go_wp2_with fail
  refine (rtime_any w r s now H.out).mono ?_
  rintro e w1 ⟨rfl, h1, hk1⟩
  rw [← hbat, ← hbt] at HTK
  rw [← hbat, ← hmk] at HOUT
  generalize s.ticked now = T at h1 HOK HOUT HTK
  obtain ⟨wv, yv, wb, eb, hst⟩ := RSt.of h1
  have HST := Lib.hid hst
  have x14 := hst.c14
  have hkA := (Only.refl (fun _ => False) w1).alloc (.cells #[] 135)
  have hnb := blk_new w1 (.cells #[] 135)
  have hst2 := hst.keep hkA
  have y14 := hst2.c14
  have hD : SRow (w1.alloc (.cells #[] 135)) w1.heap.size (.slice (some ⟨w1.heap.size, 0, none⟩) 0 0) [] := ⟨by simp [sentCells], .inr ⟨w1.heap.size, 0, #[], rfl, Nat.le_refl _, hnb, Nat.le_refl _, by decide, by simp, by simp [sentCells]⟩⟩
  have hWl : T.W.length ≤ 64 := by unfold CS.W; rw [List.length_map]; exact HOK.out.len
  clear hbat hmk hbt h1 hst hst2 x14 H
  go_upto_region 4 with (at_builtin; refine wpList_append_src (w1.alloc (.cells #[] 135)) rfl _ _ rfl w1.heap.size _ wv [] T.W rfl rfl hD (HST.out.keep hkA).wrow.src (by rw [World.size_alloc]; omega) (by simp only [List.length_nil]; omega) ?_; intro v6 w6 hrow6 hk6 hbb6)
  rw [List.nil_append] at hrow6
  have hk6' : Only (fun k => k = w1.heap.size) (w1.alloc (.cells #[] 135)) w6 := hk6.mono (fun k _ e => (Option.some.inj e).symm)
  have hst6 := (HST.out.keep hkA).only hk6' (fun z hz e => by omega)
  have hO6 : Only (fun _ => False) w1 w6 := hkA.then hk6' (fun k h1 e => by omega)
  obtain ⟨a6, cap, rfl⟩ := hrow6.form
  have hB6 := hO6.size
  generalize hN : T.W.length = N at hrow6 hWl ⊢
  have HN := Lib.hid hN
  have hrow0 := World.ownsRow_nil w6 w1.heap.size 9 1
  have h0 : SRow w6 w1.heap.size (.slice a6 N cap) (T.swept 0).W := by rw [swept_zero]; exact hrow6
  have H0 := Lib.hid h0
  have HS6 := Lib.hid hst6
  clear hk6 hk6' hkA hnb y14 hD hrow6 hN h0 hst6
  go_wp2_with fail
  go_loopw [5, 7] (fun ov iv wr => ∃ i : Nat, iv = .int .i64 i ∧ i ≤ N ∧ SRow wr w1.heap.size (.slice a6 N cap) (T.swept i).W ∧ RSt wr r T wv yv wb eb w1.heap.size ∧ wr.ownsRow w1.heap.size 9 1 ov (T.resent i).length ((T.resent i).map Value.string) ∧ Only (fun _ => False) w1 wr) (fun _ iv _ => N - (intOf iv).toNat)
  case atStart => exact ⟨0, rfl, by omega, H0.out, HS6.out, hrow0, hO6⟩
  case round =>
    clear hrow0 hO6
    obtain ⟨i, rfl, hiN, hrw, hs6, hro, hO⟩ := hrel
    have hrl := resent_le T i
    have hsz := hO.size
    by_cases hi : i < N
    · obtain ⟨hn1, hn2, hn3⟩ := swept_next T i (by rw [HN.out]; exact hi)
      rw [HN.out] at hn3
      have hrw2 : SRow wr w1.heap.size (.slice a6 (T.swept i).W.length cap) (T.swept i).W := by rw [hn3]; exact hrw
      obtain ⟨g, rfl, hgl, hc0, hc1, hc2⟩ := hrw2.cells i (by rw [hn3]; exact hi)
      rw [hn1] at hc0 hc1 hc2
      have hmem : T.W.getD i st0 ∈ T.W := by
        rw [List.getD_eq_getElem?_getD, List.getElem?_eq_getElem (by rw [HN.out]; exact hi)]
        exact List.getElem_mem _
      have hxb : 0 ≤ (T.W.getD i st0).2.1 ∧ (T.W.getD i st0).2.1 ≤ 1099511627776 ∧ 1 ≤ (T.W.getD i st0).1 ∧ (T.W.getD i st0).1 ≤ 4294967295 ∧ (T.W.getD i st0).2.2.size ≤ 4096 := by
        obtain ⟨y, hy, he⟩ := List.mem_map.1 hmem
        rw [← he]
        have h1 := HOK.out.at0 y hy
        have h2 := HOK.out.key y hy
        exact ⟨h1.1, h1.2, h2.1, h2.2.1, h2.2.2⟩
      have HRS := Lib.hid (resent_succ T i (by rw [HN.out]; exact hi))
      have HSW := Lib.hid hn2
      have HST1 := Lib.hid (fun (w' : World) (hk : Only (fun _ => False) wr w') (a : Int) => (hrw2.only hk (fun _ _ h => h)).store i a (by rw [hn3]; exact hi))
      have HGB : Hid (w1.heap.size ≤ g) := Lib.hid (by
        have := (hrw2.lt g rfl).1
        exact this)
      rw [hn1, hn3] at HST1
      have HUP : Hid (T.updS (T.W.getD i st0) = if (T.W.getD i st0).2.1 + T.wait ≤ T.now then ((T.W.getD i st0).1, T.now, (T.W.getD i st0).2.2) else T.W.getD i st0) := Lib.hid rfl
      have HSAME : Hid ((T.swept i).W.set i (T.W.getD i st0) = (T.swept i).W) := Lib.hid (by
        rw [← hn1, List.getD_eq_getElem?_getD, List.getElem?_eq_getElem (by rw [hn3]; exact hi)]
        simp)
      have HRW := Lib.hid hrw
      generalize T.W.getD i st0 = x at *
      obtain ⟨q0, q1, q2, q3, q4⟩ := hxb
      have x6 := hs6.c6
      have x1 := (blk_cell hs6.blk 1).trans (show (T.rcells wv yv)[1]? = some (.int .i64 T.wait) from rfl)
      have u1 := HOK.out.w1
      have u2 := HOK.out.w2
      have hwr : IntKind.i64.wrap (x.2.1 + T.wait) = x.2.1 + T.wait := by rw [IntKind.wrap_i64]; omega
      have HS7 := Lib.hid hs6
      have HRO := Lib.hid hro
      clear hmem hn1 hn2 hrw hrw2 hs6 hro
      by_cases hdue : x.2.1 + T.wait ≤ T.now
      · have hd : decide (x.2.1 + T.wait ≤ T.now) = true := decide_eq_true hdue
        rw [if_pos hdue] at HRS HUP
        go_wp2_with fail
        go_quiet (fail)
        have y6 : (wr.drewN nq).cell? ⟨r, 6, none⟩ = some (.int .i64 T.now) := x6
        have y1 : (wr.drewN nq).cell? ⟨g, i * 3 + 1, none⟩ = some (.int .i64 x.2.1) := hc1
        have y0 : (wr.drewN nq).cell? ⟨g, i * 3, none⟩ = some (.int .i64 x.1) := hc0
        have y2 : (wr.drewN nq).cell? ⟨g, i * 3 + 2, none⟩ = some (.string x.2.2) := hc2
        obtain ⟨cur, hcur⟩ := HRW.out.block (b := g) rfl
        have hcq : (wr.drewN nq).heap[g]? = some (.cells cur 135 (0, 0)) := hcur
        have fg := blk_free hcq (i * 3 + 1)
        have hk9 := (Only.refl (fun k => k = g) (wr.drewN nq)).setCell ⟨g, i * 3 + 1, none⟩ (.int .i64 T.now) (fun _ => rfl)
        have hg9 := blk_set hcq (i * 3 + 1) (.int .i64 T.now)
        have hrow9 := HST1.out (wr.drewN nq) ((Only.refl (fun _ => False) wr).drewN nq) T.now
        have hs9 := (HS7.out.keep ((Only.refl (fun _ => False) wr).drewN nq)).only hk9 (fun z hz e => by have := HGB.out; omega)
        have hro9 := row_own (row_only HRO.out ((Only.refl (fun _ => False) wr).drewN nq) (fun _ _ h => h)) hk9 (fun k hk e => by subst e; exact row_sent HRO.out hcur hk)
        have c0 := (blk_cell hg9 (i * 3)).trans ((Array.getElem?_setIfInBounds_ne (by omega)).trans ((blk_cell hcq (i * 3)).symm.trans y0))
        have c2 := (blk_cell hg9 (i * 3 + 2)).trans ((Array.getElem?_setIfInBounds_ne (by omega)).trans ((blk_cell hcq (i * 3 + 2)).symm.trans y2))
        have hO9 : Only (fun _ => False) w1 ((wr.drewN nq).setCell ⟨g, i * 3 + 1, none⟩ (.int .i64 T.now)) := (hO.drewN nq).then hk9 (fun k h1 e => by have := HGB.out; omega)
        clear hcq hg9 hk9 hO hsz
        go_upto_region 9 with fail
        generalize hw9 : (wr.drewN nq).setCell ⟨g, i * 3 + 1, none⟩ (.int .i64 T.now) = w9 at c0 c2 hO9 hs9 hro9 hrow9 ⊢
        clear hw9 hcur fg cur hc0 hc1 hc2 y0 y1 y2 y6 x6 x1 hwr HRW HST1 HS7 HRO hgl
        have HLET : Hid (letterB 1 T.epoch T.role x.1 T.taken x.2.2 = true) := Lib.hid (by
          have ho := HOK.out
          have := ho.e0; have := ho.e1; have := ho.o0; have := ho.o1; have := ho.t0; have := ho.t1
          unfold letterB wordB roleB
          simp only [Bool.and_eq_true, Bool.or_eq_true, decide_eq_true_eq, beq_iff_eq]
          refine ⟨⟨⟨⟨⟨?_, ?_⟩, ?_⟩, ?_⟩, ?_⟩, .inl ⟨trivial, ?_⟩⟩ <;> omega)
        have hkd := (Only.refl (fun _ => False) w9).drew
        have HT9 := Lib.hid (show REAt w9.drew r T from ⟨wv, yv, wb, eb, (hs9.keep hkd).blk, (hs9.keep hkd).wrow, (hs9.keep hkd).erow⟩)
        have HC0 : Hid (w9.drew.cell? ⟨g, i * 3, none⟩ = some (.int .i64 x.1)) := Lib.hid c0
        have HC2 : Hid (w9.drew.cell? ⟨g, i * 3 + 2, none⟩ = some (.string x.2.2)) := Lib.hid c2
        have HO9 := Lib.hid hkd
        have HS9 := Lib.hid hs9
        have HRO9 := Lib.hid hro9
        have HROW9 := Lib.hid hrow9
        have HOO9 := Lib.hid hO9
        clear hkd hs9 hro9 hrow9 hO9 c0 c2
        refine wp_region_facts_tail 14 rgDs rgNeed rgGs (fun w' => REAt w' r T ∧ w'.cell? ⟨g, i * 3, none⟩ = some (.int .i64 x.1) ∧ w'.cell? ⟨g, i * 3 + 2, none⟩ = some (.string x.2.2) ∧ Only (fun _ => False) w9 w') (Only (fun _ => False)) (rgG w9 r g i N cap u5 T x) rfl rfl (by kernel_rfl) (by kernel_rfl) (by kernel_rfl) (by kernel_rfl) (by kernel_rfl) ⟨HT9.out, HC0.out, HC2.out, HO9.out⟩ rgG.keep rgG.guard ?_ ?_
        · refine And.intro ?op0 (And.intro ?op1 (And.intro ?op2 (And.intro ?op3 (And.intro ?op4 (And.intro ?op5 (And.intro ?op6 (And.intro ?op7 (And.intro ?op8 (And.intro ?op9 (And.intro ?op10 (And.intro ?op11 (And.intro ?op12 (And.intro ?op13 trivial)))))))))))))
          case op0 =>
            intro ev w1 hT1 hc hf hfr hG
            rw [if_pos (by decide)]
            obtain ⟨hRE, hc0, hc2, hO⟩ := hT1
            have h5 : ev (.tmp 5) = u5 := hfr 5 (by decide)
            clear hG hfr
            refine OpSays.value (v := u5) (w' := w1) ?_ ⟨⟨hRE, hc0, hc2, hO⟩, Only.refl _ _, rfl⟩
            go_simp
          case op1 =>
            intro ev w1 hT1 hc hf hfr hG
            rw [if_pos (by decide)]
            obtain ⟨hRE, hc0, hc2, hO⟩ := hT1
            have h0 : ev (.tmp 0) = .pointer (some ⟨r, 0, none⟩) := hfr 0 (by decide)
            clear hG hfr
            refine OpSays.value (v := .pointer (some ⟨r, 0, none⟩)) (w' := w1) ?_ ⟨⟨hRE, hc0, hc2, hO⟩, Only.refl _ _, rfl⟩
            go_simp
          case op2 =>
            intro ev w1 hT1 hc hf hfr hG
            rw [if_pos (by decide)]
            obtain ⟨hRE, hc0, hc2, hO⟩ := hT1
            have h6 : ev (.tmp 6) = .slice (some ⟨g, 0, none⟩) N cap := hfr 6 (by decide)
            clear hG hfr
            refine OpSays.value (v := .slice (some ⟨g, 0, none⟩) N cap) (w' := w1) ?_ ⟨⟨hRE, hc0, hc2, hO⟩, Only.refl _ _, rfl⟩
            go_simp
          case op3 =>
            intro ev w1 hT1 hc hf hfr hG
            rw [if_pos (by decide)]
            obtain ⟨hRE, hc0, hc2, hO⟩ := hT1
            have h7 : ev (.tmp 7) = .int .i64 i := hfr 7 (by decide)
            clear hG hfr
            refine OpSays.value (v := .int .i64 i) (w' := w1) ?_ ⟨⟨hRE, hc0, hc2, hO⟩, Only.refl _ _, rfl⟩
            go_simp
          case op4 =>
            intro ev w1 hT1 hc hf hfr hG
            rw [if_pos (by decide)]
            obtain ⟨hRE, hc0, hc2, hO⟩ := hT1
            have hg : (ev (.tmp 49) = .slice (some ⟨g, 0, none⟩) N cap) ∧ (ev (.tmp 50) = .int .i64 i) ∧ True := hG
            obtain ⟨g2, g3, _⟩ := hg
            clear hG hfr
            refine OpSays.value (v := .pointer (some ⟨g, i * 3, none⟩)) (w' := w1) ?_ ⟨⟨hRE, hc0, hc2, hO⟩, Only.refl _ _, rfl⟩
            go_simp
          case op5 =>
            intro ev w1 hT1 hc hf hfr hG
            rw [if_pos (by decide)]
            obtain ⟨hRE, hc0, hc2, hO⟩ := hT1
            have hg : (ev (.tmp 51) = .pointer (some ⟨g, i * 3, none⟩)) ∧ True := hG
            obtain ⟨g4, _⟩ := hg
            clear hG hfr
            refine OpSays.value (v := .pointer (some ⟨g, i * 3, none⟩)) (w' := w1) ?_ ⟨⟨hRE, hc0, hc2, hO⟩, Only.refl _ _, rfl⟩
            go_simp
          case op6 =>
            intro ev w1 hT1 hc hf hfr hG
            rw [if_pos (by decide)]
            obtain ⟨hRE, hc0, hc2, hO⟩ := hT1
            have hg : (ev (.tmp 52) = .pointer (some ⟨g, i * 3, none⟩)) ∧ True := hG
            obtain ⟨g5, _⟩ := hg
            clear hG hfr
            have c0 := hc0
            refine OpSays.value (v := .int .i64 x.1) (w' := w1) ?_ ⟨⟨hRE, hc0, hc2, hO⟩, Only.refl _ _, rfl⟩
            go_simp
          case op7 =>
            intro ev w1 hT1 hc hf hfr hG
            rw [if_pos (by decide)]
            obtain ⟨hRE, hc0, hc2, hO⟩ := hT1
            have h6 : ev (.tmp 6) = .slice (some ⟨g, 0, none⟩) N cap := hfr 6 (by decide)
            clear hG hfr
            refine OpSays.value (v := .slice (some ⟨g, 0, none⟩) N cap) (w' := w1) ?_ ⟨⟨hRE, hc0, hc2, hO⟩, Only.refl _ _, rfl⟩
            go_simp
          case op8 =>
            intro ev w1 hT1 hc hf hfr hG
            rw [if_pos (by decide)]
            obtain ⟨hRE, hc0, hc2, hO⟩ := hT1
            have h7 : ev (.tmp 7) = .int .i64 i := hfr 7 (by decide)
            clear hG hfr
            refine OpSays.value (v := .int .i64 i) (w' := w1) ?_ ⟨⟨hRE, hc0, hc2, hO⟩, Only.refl _ _, rfl⟩
            go_simp
          case op9 =>
            intro ev w1 hT1 hc hf hfr hG
            rw [if_pos (by decide)]
            obtain ⟨hRE, hc0, hc2, hO⟩ := hT1
            have hg : (ev (.tmp 54) = .slice (some ⟨g, 0, none⟩) N cap) ∧ (ev (.tmp 55) = .int .i64 i) ∧ True := hG
            obtain ⟨g7, g8, _⟩ := hg
            clear hG hfr
            refine OpSays.value (v := .pointer (some ⟨g, i * 3, none⟩)) (w' := w1) ?_ ⟨⟨hRE, hc0, hc2, hO⟩, Only.refl _ _, rfl⟩
            go_simp
          case op10 =>
            intro ev w1 hT1 hc hf hfr hG
            rw [if_pos (by decide)]
            obtain ⟨hRE, hc0, hc2, hO⟩ := hT1
            have hg : (ev (.tmp 56) = .pointer (some ⟨g, i * 3, none⟩)) ∧ True := hG
            obtain ⟨g9, _⟩ := hg
            clear hG hfr
            refine OpSays.value (v := .pointer (some ⟨g, i * 3 + 2, none⟩)) (w' := w1) ?_ ⟨⟨hRE, hc0, hc2, hO⟩, Only.refl _ _, rfl⟩
            go_simp
          case op11 =>
            intro ev w1 hT1 hc hf hfr hG
            rw [if_pos (by decide)]
            obtain ⟨hRE, hc0, hc2, hO⟩ := hT1
            have hg : (ev (.tmp 57) = .pointer (some ⟨g, i * 3 + 2, none⟩)) ∧ True := hG
            obtain ⟨g10, _⟩ := hg
            clear hG hfr
            have c2 := hc2
            refine OpSays.value (v := .string x.2.2) (w' := w1) ?_ ⟨⟨hRE, hc0, hc2, hO⟩, Only.refl _ _, rfl⟩
            go_simp
          case op12 =>
            intro ev w1 hT1 hc hf hfr hG
            rw [if_pos (by decide)]
            obtain ⟨hRE, hc0, hc2, hO⟩ := hT1
            have hg : (ev (.tmp 48) = .pointer (some ⟨r, 0, none⟩)) ∧ (ev (.tmp 53) = .int .i64 x.1) ∧ (ev (.tmp 58) = .string x.2.2) ∧ True := hG
            obtain ⟨g1, g6, g11, _⟩ := hg
            clear hG hfr
            refine OpSays.enter (f := 75) (args := #[.pointer (some ⟨r, 0, none⟩), .int .i64 1, .int .i64 x.1, .string x.2.2]) (w' := w1) ?_ ?_
            · go_simp
            · refine (retext_any w1 r _ 1 x.1 x.2.2 hRE HLET.out).mono ?_
              rintro e' w2 ⟨rfl, hk⟩
              exact ⟨_, rfl, ⟨hRE.keep hk, cell_only hk (fun h => h) hc0, cell_only hk (fun h => h) hc2, hO.trans hk⟩, hk, rfl⟩
          case op13 =>
            intro ev w1 hT1 hc hf hfr hG
            rw [if_pos (by decide)]
            obtain ⟨hRE, hc0, hc2, hO⟩ := hT1
            have hg : (ev (.tmp 59) = .string (T.letter 1 x.1 x.2.2)) ∧ True := hG
            obtain ⟨g12, _⟩ := hg
            clear hG hfr
            have hk := (Only.refl (fun _ => False) w1).alloc (.cells #[.string (T.letter 1 x.1 x.2.2)] 9)
            refine OpSays.value (v := .slice (some ⟨w1.heap.size, 0, none⟩) 1 1) (w' := w1.alloc (.cells #[.string (T.letter 1 x.1 x.2.2)] 9)) ?_ ⟨⟨hRE.keep hk, cell_only hk (fun h => h) hc0, cell_only hk (fun h => h) hc2, hO.trans hk⟩, hk, w1.heap.size, rfl, hO.size, blk_new w1 _⟩
            go_simp
        rintro ⟨tm, df⟩ w5 ⟨hE5, _, _, hO5⟩ hsz hdf hfr hG
        have k0 : tm.getD 0 undef = .pointer (some ⟨r, 0, none⟩) := hfr 0 (by decide)
        have k1 : tm.getD 1 undef = .int .i64 now := hfr 1 (by decide)
        have k2 : tm.getD 2 undef = undef := hfr 2 (by decide)
        have k3 : tm.getD 3 undef = undef := hfr 3 (by decide)
        have k4 : tm.getD 4 undef = .slice none 0 0 := hfr 4 (by decide)
        have k5 : tm.getD 5 undef = u5 := hfr 5 (by decide)
        have k6 : tm.getD 6 undef = .slice (some ⟨g, 0, none⟩) N cap := hfr 6 (by decide)
        have k7 : tm.getD 7 undef = .int .i64 i := hfr 7 (by decide)
        have k8 : tm.getD 8 undef = .pointer (some ⟨r, 0, none⟩) := hfr 8 (by decide)
        have k9 : tm.getD 9 undef = .int .i64 now := hfr 9 (by decide)
        have k10 : tm.getD 10 undef = .tuple #[] := hfr 10 (by decide)
        have k11 : tm.getD 11 undef = .slice (some ⟨w1.heap.size, 0, none⟩) 0 0 := hfr 11 (by decide)
        have k12 : tm.getD 12 undef = .pointer (some ⟨r, 0, none⟩) := hfr 12 (by decide)
        have k13 : tm.getD 13 undef = .pointer (some ⟨r, 0, none⟩) := hfr 13 (by decide)
        have k14 : tm.getD 14 undef = .pointer (some ⟨r, 14, none⟩) := hfr 14 (by decide)
        have k15 : tm.getD 15 undef = wv := hfr 15 (by decide)
        have k16 : tm.getD 16 undef = .slice (some ⟨g, 0, none⟩) N cap := hfr 16 (by decide)
        have k47 : tm.getD 47 undef = u5 := AllG.get hG 0 (by decide)
        have k62 : tm.getD 62 undef = undef := hfr 62 (by decide)
        have k63 : tm.getD 63 undef = undef := hfr 63 (by decide)
        have k64 : tm.getD 64 undef = undef := hfr 64 (by decide)
        have k65 : tm.getD 65 undef = undef := hfr 65 (by decide)
        have k66 : tm.getD 66 undef = undef := hfr 66 (by decide)
        have k67 : tm.getD 67 undef = undef := hfr 67 (by decide)
        have k68 : tm.getD 68 undef = undef := hfr 68 (by decide)
        have k69 : tm.getD 69 undef = undef := hfr 69 (by decide)
        have k70 : tm.getD 70 undef = undef := hfr 70 (by decide)
        have k71 : tm.getD 71 undef = undef := hfr 71 (by decide)
        have k72 : tm.getD 72 undef = undef := hfr 72 (by decide)
        have k73 : tm.getD 73 undef = undef := hfr 73 (by decide)
        have k74 : tm.getD 74 undef = undef := hfr 74 (by decide)
        have k75 : tm.getD 75 undef = undef := hfr 75 (by decide)
        have k76 : tm.getD 76 undef = undef := hfr 76 (by decide)
        have k77 : tm.getD 77 undef = undef := hfr 77 (by decide)
        have k78 : tm.getD 78 undef = undef := hfr 78 (by decide)
        have k79 : tm.getD 79 undef = undef := hfr 79 (by decide)
        have k80 : tm.getD 80 undef = undef := hfr 80 (by decide)
        have k81 : tm.getD 81 undef = undef := hfr 81 (by decide)
        have k82 : tm.getD 82 undef = undef := hfr 82 (by decide)
        have k83 : tm.getD 83 undef = undef := hfr 83 (by decide)
        have k84 : tm.getD 84 undef = undef := hfr 84 (by decide)
        have k85 : tm.getD 85 undef = undef := hfr 85 (by decide)
        have k86 : tm.getD 86 undef = undef := hfr 86 (by decide)
        have k87 : tm.getD 87 undef = undef := hfr 87 (by decide)
        have k88 : tm.getD 88 undef = undef := hfr 88 (by decide)
        have k89 : tm.getD 89 undef = undef := hfr 89 (by decide)
        have k90 : tm.getD 90 undef = undef := hfr 90 (by decide)
        have k91 : tm.getD 91 undef = undef := hfr 91 (by decide)
        have k92 : tm.getD 92 undef = undef := hfr 92 (by decide)
        have k93 : tm.getD 93 undef = undef := hfr 93 (by decide)
        have k94 : tm.getD 94 undef = undef := hfr 94 (by decide)
        have k95 : tm.getD 95 undef = undef := hfr 95 (by decide)
        have k96 : tm.getD 96 undef = undef := hfr 96 (by decide)
        have k97 : tm.getD 97 undef = undef := hfr 97 (by decide)
        obtain ⟨k60, e60, hk60, hb60⟩ : ∃ k, tm.getD 60 undef = .slice (some ⟨k, 0, none⟩) 1 1 ∧ w9.heap.size ≤ k ∧ w5.heap[k]? = some (.cells #[.string (T.letter 1 x.1 x.2.2)] 9 (0, 0)) := AllG.get hG 13 (by decide)
        have he : tm = #[tm.getD 0 undef, tm.getD 1 undef, tm.getD 2 undef, tm.getD 3 undef, tm.getD 4 undef, tm.getD 5 undef, tm.getD 6 undef, tm.getD 7 undef, tm.getD 8 undef, tm.getD 9 undef, tm.getD 10 undef, tm.getD 11 undef, tm.getD 12 undef, tm.getD 13 undef, tm.getD 14 undef, tm.getD 15 undef, tm.getD 16 undef, tm.getD 17 undef, tm.getD 18 undef, tm.getD 19 undef, tm.getD 20 undef, tm.getD 21 undef, tm.getD 22 undef, tm.getD 23 undef, tm.getD 24 undef, tm.getD 25 undef, tm.getD 26 undef, tm.getD 27 undef, tm.getD 28 undef, tm.getD 29 undef, tm.getD 30 undef, tm.getD 31 undef, tm.getD 32 undef, tm.getD 33 undef, tm.getD 34 undef, tm.getD 35 undef, tm.getD 36 undef, tm.getD 37 undef, tm.getD 38 undef, tm.getD 39 undef, tm.getD 40 undef, tm.getD 41 undef, tm.getD 42 undef, tm.getD 43 undef, tm.getD 44 undef, tm.getD 45 undef, tm.getD 46 undef, tm.getD 47 undef, tm.getD 48 undef, tm.getD 49 undef, tm.getD 50 undef, tm.getD 51 undef, tm.getD 52 undef, tm.getD 53 undef, tm.getD 54 undef, tm.getD 55 undef, tm.getD 56 undef, tm.getD 57 undef, tm.getD 58 undef, tm.getD 59 undef, tm.getD 60 undef, tm.getD 61 undef, tm.getD 62 undef, tm.getD 63 undef, tm.getD 64 undef, tm.getD 65 undef, tm.getD 66 undef, tm.getD 67 undef, tm.getD 68 undef, tm.getD 69 undef, tm.getD 70 undef, tm.getD 71 undef, tm.getD 72 undef, tm.getD 73 undef, tm.getD 74 undef, tm.getD 75 undef, tm.getD 76 undef, tm.getD 77 undef, tm.getD 78 undef, tm.getD 79 undef, tm.getD 80 undef, tm.getD 81 undef, tm.getD 82 undef, tm.getD 83 undef, tm.getD 84 undef, tm.getD 85 undef, tm.getD 86 undef, tm.getD 87 undef, tm.getD 88 undef, tm.getD 89 undef, tm.getD 90 undef, tm.getD 91 undef, tm.getD 92 undef, tm.getD 93 undef, tm.getD 94 undef, tm.getD 95 undef, tm.getD 96 undef, tm.getD 97 undef] := arr_eta (n := 98) hsz
        replace hdf : df = [] := hdf
        subst hdf
        clear hsz hfr hG
        rw [he, e60, k0, k1, k2, k3, k4, k5, k6, k7, k8, k9, k10, k11, k12, k13, k14, k15, k16, k47, k62, k63, k64, k65, k66, k67, k68, k69, k70, k71, k72, k73, k74, k75, k76, k77, k78, k79, k80, k81, k82, k83, k84, k85, k86, k87, k88, k89, k90, k91, k92, k93, k94, k95, k96, k97]
        clear he e60 k0 k1 k2 k3 k4 k5 k6 k7 k8 k9 k10 k11 k12 k13 k14 k15 k16 k47 k62 k63 k64 k65 k66 k67 k68 k69 k70 k71 k72 k73 k74 k75 k76 k77 k78 k79 k80 k81 k82 k83 k84 k85 k86 k87 k88 k89 k90 k91 k92 k93 k94 k95 k96 k97
        generalize tm.getD 17 undef = x17
        generalize tm.getD 18 undef = x18
        generalize tm.getD 19 undef = x19
        generalize tm.getD 20 undef = x20
        generalize tm.getD 21 undef = x21
        generalize tm.getD 22 undef = x22
        generalize tm.getD 23 undef = x23
        generalize tm.getD 24 undef = x24
        generalize tm.getD 25 undef = x25
        generalize tm.getD 26 undef = x26
        generalize tm.getD 27 undef = x27
        generalize tm.getD 28 undef = x28
        generalize tm.getD 29 undef = x29
        generalize tm.getD 30 undef = x30
        generalize tm.getD 31 undef = x31
        generalize tm.getD 32 undef = x32
        generalize tm.getD 33 undef = x33
        generalize tm.getD 34 undef = x34
        generalize tm.getD 35 undef = x35
        generalize tm.getD 36 undef = x36
        generalize tm.getD 37 undef = x37
        generalize tm.getD 38 undef = x38
        generalize tm.getD 39 undef = x39
        generalize tm.getD 40 undef = x40
        generalize tm.getD 41 undef = x41
        generalize tm.getD 42 undef = x42
        generalize tm.getD 43 undef = x43
        generalize tm.getD 44 undef = x44
        generalize tm.getD 45 undef = x45
        generalize tm.getD 46 undef = x46
        generalize tm.getD 48 undef = x48
        generalize tm.getD 49 undef = x49
        generalize tm.getD 50 undef = x50
        generalize tm.getD 51 undef = x51
        generalize tm.getD 52 undef = x52
        generalize tm.getD 53 undef = x53
        generalize tm.getD 54 undef = x54
        generalize tm.getD 55 undef = x55
        generalize tm.getD 56 undef = x56
        generalize tm.getD 57 undef = x57
        generalize tm.getD 58 undef = x58
        generalize tm.getD 59 undef = x59
        generalize tm.getD 61 undef = x61
        have hro5 := row_only HRO9.out hO5 (fun _ _ h => h)
        have hs5 := HS9.out.keep hO5
        have hrow5 := HROW9.out.only hO5 (fun _ _ h => h)
        have hOO5 := HOO9.out.then hO5 (fun _ _ h => h.elim)
        have hb60c : w5.cell? ⟨k60, 0, none⟩ = some (.string (T.letter 1 x.1 x.2.2)) := (blk_cell hb60 0).trans rfl
        have hsz5 := hOO5.size
        clear hE5 hO5 HT9 HC0 HC2 HO9 HLET hb60 hk60
        have hcell : ∀ (j : Nat) (u : Value), ([.string (T.letter 1 x.1 x.2.2)] : List Value)[j]? = some u → w5.cell? ((⟨k60, 0, none⟩ : Addr).add j) = some u := by
          intro j u hj
          match j, hj with
          | 0, hj => rw [Addr.add_lit]; exact hb60c.trans hj
          | j + 1, hj => simp at hj
        simp only [List.drop_succ_cons, List.drop_zero]
        at_builtin
        refine wpList_append_own w5 rfl _ _ 43 rfl w1.heap.size 9 i9 (.string ⟨#[]⟩) 1 16 Try.underlying43 hin hz0 hz1 hz2 rfl (by decide) _ (T.resent i).length _ rfl hro5 ⟨k60, 0, none⟩ 1 1 [.string (T.letter 1 x.1 x.2.2)] rfl rfl hcell (by simp [Value.oneCell']) (by simp [maxLen]; omega) (by omega) hsz5 ?_
        intro v1 w6 hown hg _
        have hrB := hs5.rlt
        have hsep : ∀ z, u5.ownBlock = some z → w1.heap.size ≤ z := fun z hz => (hro5.lt z hz).1
        have hs6 := hs5.only (Only.of_grown hg) (fun z hz e => by have := hsep z e.symm; omega)
        have hrow6 := hrow5.only (Only.of_grown hg) (fun b hb e => by
          obtain ⟨cur, hc⟩ := hrow5.block hb
          exact row_sent hro5 hc e.symm)
        have hO6 := hOO5.then (Only.of_grown hg) (fun k hk e => by have := hsep k e.symm; omega)
        clear hg hro5 hrow5 hs5 hOO5 hb60c hcell hsz5
        go_wp2_with fail
        go_roundw
        case rel =>
          exact ⟨i + 1, by go_num, by omega, by rw [HSW.out, HUP.out]; exact hrow6, hs6, by rw [HRS.out, List.length_append, List.map_append]; exact hown, hO6⟩
        case measure => simp [intOf]; omega
      · have hd : decide (x.2.1 + T.wait ≤ T.now) = false := decide_eq_false hdue
        rw [if_neg hdue] at HRS HUP
        go_wp2_with fail
        go_quiet (fail)
        have hkq := (Only.refl (fun _ => False) wr).drewN nq
        go_wp2_with fail
        go_roundw
        case rel => exact ⟨i + 1, by go_num, by omega, by rw [HSW.out, HUP.out, HSAME.out]; exact HRW.out.only hkq (fun _ _ h => h), HS7.out.keep hkq, by rw [HRS.out, List.append_nil]; exact row_only HRO.out hkq (fun _ _ h => h), hO.drewN nq⟩
        case measure => simp [intOf]; omega
    · have hiN2 : i = N := by omega
      rw [hiN2] at hrw hro hrl
      have hlenO : T.O.length = N := by rw [← HN.out]; unfold CS.W; rw [List.length_map]
      rw [hlenO] at HOUT HTK
      have hrB := hs6.rlt
      have f14 := blk_free hs6.blk 14
      have x14 := hs6.c14
      have hk3 := (Only.refl (fun k => k = r) wr).setCell ⟨r, 14, none⟩ (.slice a6 N cap) (fun _ => rfl)
      have hE3 : REAt (wr.setCell ⟨r, 14, none⟩ (.slice a6 N cap)) r (T.swept N) := ⟨.slice a6 N cap, yv, w1.heap.size, eb, (blk_set hs6.blk 14 _).trans rfl, hrw.only hk3 (fun b hb e => by have := (hrw.lt b hb).1; omega), hs6.erow.only hk3 (fun b hb e => by
        obtain ⟨cur, hc⟩ := hs6.erow.block hb
        exact rblock_ne hs6.blk hc e)⟩
      have hO3 := (hO.mono (fun _ _ h => h.elim) : Only (fun k => k = r) w1 wr).trans hk3
      have hro3 := row_only hro hk3 (fun k hk e => by omega)
      clear hrw hro hs6 hO hk3 hsz
      go_upto_region 11 with fail
      generalize wr.setCell ⟨r, 14, none⟩ (.slice a6 N cap) = w3 at hE3 hO3 hro3 ⊢
      clear f14 x14
      have n0 := HOK.out.n0
      have n1 := HOK.out.n1
      have b1 := HOK.out.b1
      have b2 := HOK.out.b2
      obtain ⟨wv3, yv3, wb3, eb3, hg3, _, _⟩ := id hE3
      have x2 := (blk_cell hg3 2).trans (show ((T.swept N).rcells wv3 yv3)[2]? = some (.int .i64 T.beat) from rfl)
      have x6 := (blk_cell hg3 6).trans (show ((T.swept N).rcells wv3 yv3)[6]? = some (.int .i64 T.now) from rfl)
      have x10 := (blk_cell hg3 10).trans (show ((T.swept N).rcells wv3 yv3)[10]? = some (.int .i64 T.bat) from rfl)
      have f10 := blk_free hg3 10
      have HE := Lib.hid hE3
      have HROW := Lib.hid hro3
      clear hg3 hE3 hro3
      by_cases hdue : T.bat ≤ T.now
      · have hd : decide (T.bat ≤ T.now) = true := decide_eq_true hdue
        rw [if_pos hdue] at HOUT HTK
        clear hdue
        go_wp2_with fail
        go_quiet (fail)
        go_wp2_with fail
        go_region
        have hk4 := ((Only.refl (fun k => k = r) w3).drewN (nq + 1)).setCell ⟨r, 10, none⟩ (.int .i64 (T.now + T.beat)) (fun _ => rfl)
        have h5 : REAt ((w3.drewN (nq + 1)).setCell ⟨r, 10, none⟩ (.int .i64 (T.now + T.beat))) r { T.swept N with bat := T.now + T.beat } :=
          (HE.out.keep ((Only.refl (fun _ => False) w3).drewN (nq + 1))).set (s' := { T.swept N with bat := T.now + T.beat }) 10 (.int .i64 (T.now + T.beat)) (fun _ _ => rfl) rfl rfl
        have hO5 := hO3.trans hk4
        have hrow5 := row_only HROW.out hk4 (fun k hk e => by omega)
        generalize (w3.drewN (nq + 1)).setCell ⟨r, 10, none⟩ (.int .i64 (T.now + T.beat)) = w5 at h5 hO5 hrow5 ⊢
        clear hk4 x2 x6 x10 f10
        obtain ⟨wv5, yv5, wb5, eb5, hg5, _, _⟩ := id h5
        have x5 := (blk_cell hg5 5).trans (show (({ T.swept N with bat := T.now + T.beat } : CS).rcells wv5 yv5)[5]? = some (.int .i64 T.mark) from rfl)
        have hL : letterB 2 T.epoch T.role T.mark T.taken ⟨#[]⟩ = true := by
          have ho := HOK.out
          have := ho.e0; have := ho.e1; have := ho.o0; have := ho.o1; have := ho.t0; have := ho.t1; have := ho.m0; have := ho.m1
          unfold letterB wordB roleB
          simp only [Bool.and_eq_true, Bool.or_eq_true, decide_eq_true_eq, beq_iff_eq]
          refine ⟨⟨⟨⟨⟨?_, ?_⟩, ?_⟩, ?_⟩, ?_⟩, .inr ⟨trivial, ?_⟩⟩ <;> first | omega | rfl | decide
        clear hg5
        go_wp2_with fail
        refine (retext_any w5 r _ 2 T.mark ⟨#[]⟩ h5 hL).mono ?_
        rintro e w8 ⟨rfl, hk8⟩
        have hrow8 := row_only hrow5 hk8 (fun _ _ h => h)
        have hO8 := hO5.then hk8 (fun _ _ h => h.elim)
        have h8 := h5.keep hk8
        have hsz8 := hO8.size
        clear hL h5 hO5 hrow5 hk8
        rw [show ({ T.swept N with bat := T.now + T.beat } : CS).letter 2 T.mark ⟨#[]⟩ = T.letter 2 T.mark ⟨#[]⟩ from rfl]
        go_wp2_with (at_builtin; refine wpList_append_own _ rfl _ _ 43 rfl w1.heap.size 9 i9 (.string ⟨#[]⟩) 1 16 Try.underlying43 hin hz0 hz1 hz2 rfl (by decide) _ (T.resent N).length _ rfl (hrow8.alloc _) ⟨w8.heap.size, 0, none⟩ 1 1 [.string (T.letter 2 T.mark ⟨#[]⟩)] rfl rfl (cell_one_new _ _ _) (by simp [Value.oneCell']) (by simp [maxLen]; omega) (by omega) (by rw [World.size_alloc]; omega) ?_; intro v1 w9 hown hg _)
        have hrow8' : (w8.alloc (.cells #[.string (T.letter 2 T.mark ⟨#[]⟩)] 9)).ownsRow w1.heap.size 9 1 u5 (T.resent N).length ((T.resent N).map Value.string) := hrow8.alloc _
        have h9 := (h8.keep ((Only.refl (fun _ => False) w8).alloc (.cells #[.string (T.letter 2 T.mark ⟨#[]⟩)] 9))).only (Only.of_grown hg) (fun e => by have := (hrow8.lt r e.symm).1; omega) (fun b cur hb e => row_sent hrow8' hb e.symm)
        have hO9 := (hO8.alloc (.cells #[.string (T.letter 2 T.mark ⟨#[]⟩)] 9)).then (Only.of_grown hg) (fun k hk e => by have := (hrow8.lt k e.symm).1; omega)
        have hown9 : w9.ownsRow w.heap.size 9 1 v1 (s.outs now).length ((s.outs now).map Value.string) := by
          rw [HOUT, List.length_append, List.map_append]
          exact World.ownsRow.mono hown hk1.size
        clear hown hg hrow8 hrow8' hO8 h8
        go_wp2_with fail
        go_ret
        exact ⟨v1, rfl, hown9, by rw [HTK]; exact h9, hk1.trans hO9⟩
      · have hd : decide (T.bat ≤ T.now) = false := decide_eq_false hdue
        rw [if_neg hdue] at HOUT HTK
        rw [List.append_nil] at HOUT
        clear hdue
        go_wp2_with fail
        go_quiet (fail)
        have hk4 := (Only.refl (fun _ => False) w3).drewN nq
        go_wp2_with fail
        go_ret
        refine ⟨u5, rfl, ?_, by rw [HTK]; exact HE.out.keep hk4, hk1.trans (hO3.then hk4 (fun _ _ h => h.elim))⟩
        rw [HOUT]
        exact World.ownsRow.mono (row_only HROW.out hk4 (fun _ _ h => h)) hk1.size

end Go.Proofs.Yteifehienpeaiaa

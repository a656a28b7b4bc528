/-
  The contract of bridge.Known: what is known, rising.
  Conditions: numbers are of the kind int, the bridge's own in their bounds.
-/
import Derived.Test.YtkmnjlegmgohfaaKnown
import Derived.StillTailTactics
import Derived.Lib.SliceRun
import Derived.Test.YtkmnjlegmgohfaaBridgeTake
set_option linter.unusedVariables false
set_option linter.unusedSimpArgs false
namespace Go.Proofs.Ytkmnjlegmgohfaa
open Go.RowKit

/-- Is an address forgotten at a tick? -/
def BS.gone (s : BS) (now x : Int) : Bool := decide (((lookH s.L x).getD (0, 0)).2 + s.age ≤ now)

/-- The closure's two variables, at the blocks pb and pn. -/
structure CapAt (w : World) (pb pn c g : Nat) (s : BS) (now : Int) : Prop where
  b : w.cell? ⟨pb, 0, none⟩ = some (.pointer (some ⟨g, 0, none⟩))
  n : w.cell? ⟨pn, 0, none⟩ = some (.int .i64 now)
  at_ : BridgeAt w c g s

theorem CapAt.only {w w' : World} {pb pn c g : Nat} {s : BS} {now : Int} {S : Nat → Prop} (h : CapAt w pb pn c g s now) (hk : Only S w w') (h1 : ¬ S pb) (h2 : ¬ S pn) (h3 : ¬ S c) (h4 : ¬ S g) : CapAt w' pb pn c g s now :=
  ⟨cell_only hk h1 h.b, cell_only hk h2 h.n, hk.at h.at_.1 h4, h.at_.2.1.only hk h3, h.at_.2.2⟩

set_option maxRecDepth 100000 in
theorem pred_any (s : BS) (pb pn c g : Nat) (w : World) (x now : Int) (h : CapAt w pb pn c g s now) (ho : BOk s) :
    Calls Try.prog 30 #[.int .i64 x, .pointer (some ⟨pb, 0, none⟩), .pointer (some ⟨pn, 0, none⟩)] w fun e w' => e = .returned (.bool (s.gone now x)) ∧ Only (fun _ => False) w w' := by
  have xb := h.b
  have xn := h.n
  have x4 := blk_cell h.at_.1 4
  simp only [List.getElem?_toArray, List.getElem?_cons_zero, List.getElem?_cons_succ] at x4
  have hm := h.at_.2.1
  have HA := Lib.hid h.at_
  have hgv : (getI (encH s.L) x).getD (heardV (0, 0)) = .agg #[.int .i64 ((lookH s.L x).getD (0, 0)).1, .int .i64 ((lookH s.L x).getD (0, 0)).2] := by
    rw [getI_encH]
    cases lookH s.L x <;> rfl
  have hb : 0 ≤ ((lookH s.L x).getD (0, 0)).2 ∧ ((lookH s.L x).getD (0, 0)).2 ≤ 1099511627776 := by
    cases hl : lookH s.L x with
    | none => show (0 : Int) ≤ 0 ∧ (0 : Int) ≤ _; omega
    | some q =>
      have h1 : 0 ≤ q.2 ∧ q.2 ≤ s.now := ho.at0 _ (lookH_mem hl)
      have := ho.n2
      show 0 ≤ q.2 ∧ q.2 ≤ _
      omega
  have hgone : s.gone now x = decide (((lookH s.L x).getD (0, 0)).2 + s.age ≤ now) := rfl
  rw [hgone]
  generalize (lookH s.L x).getD (0, 0) = q at hgv hb ⊢
  clear h hgone
  go_enter Try.func30, Try.ntmps30
  go_wp2_with fail
  refine wp_region_still_tail 8 (by kernel_rfl) (by kernel_rfl) ?_
  simp only [List.take_succ_cons, List.take_zero, List.drop_succ_cons, List.drop_zero]
  change wpStill _ _ (w.drew) (fun a' => wpList _ _ _ _ _ (w.drew)) _ _
  replace xb : w.drew.cell? ⟨pb, 0, none⟩ = _ := xb
  replace xn : w.drew.cell? ⟨pn, 0, none⟩ = _ := xn
  replace x4 : w.drew.cell? ⟨g, 4, none⟩ = _ := x4
  have hrun := MapI.look (P := Try.prog) (show MapI w.drew c (encH s.L) from hm) und_map und_int (zero_heard _) x false
  rw [hgv] at hrun
  simp only [Bool.false_eq_true, if_false] at hrun
  have hA : BridgeAt w.drew c g s := HA.out
  have hO : Only (fun _ => False) w w.drew := (Only.refl _ w).drew
  generalize w.drew = wd at xb xn x4 hrun hA hO ⊢
  replace hA := Lib.hid hA
  clear hm hgv
  repeat still_step
  refine wpStill_nil ?_
  go_wp2_with fail
  refine (old_blk s c g _ q now hA.out.1 (by have := ho.a1; omega) ho.a2 hb.1 hb.2).mono ?_
  rintro e w1 ⟨rfl, hk1⟩
  go_wp2_with fail
  go_ret
  exact ⟨rfl, hO.trans hk1⟩

/-- The first place at which a predicate holds. -/
def firstOf (p : Int → Bool) : List Int → Int → Int
  | [], _ => -1
  | x :: l, i => if p x then i else firstOf p l (i + 1)

theorem index_any (s : BS) (pb pn c g : Nat) (w : World) (now : Int) (h : CapAt w pb pn c g s now) (ho : BOk s) (a : Option Addr) (cap : Nat) (l : List Int) (hl : ListAt w a cap l) :
    Calls Try.prog 38 #[.slice a l.length cap, .func (.func 30) #[] #[.pointer (some ⟨pb, 0, none⟩), .pointer (some ⟨pn, 0, none⟩)]] w fun e w' => ∃ i : Int, e = .returned (.int .i64 i) ∧ (i = -1 ∧ (∀ k, k < l.length → s.gone now (l.getD k 0) = false) ∨ ∃ n : Nat, i = n ∧ n < l.length ∧ s.gone now (l.getD n 0) = true ∧ ∀ k, k < n → s.gone now (l.getD k 0) = false) ∧ Only (fun _ => False) w w' := by
  have HO := Lib.hid ho
  have H := Lib.hid h
  have HL := Lib.hid hl
  have hsm := hl.small
  clear h ho hl
  go_enter Try.func38, Try.ntmps38
  go_wp2_with fail
  go_loopw [8] (fun i wr => ∃ k : Nat, i = .int .i64 k ∧ k ≤ l.length ∧ CapAt wr pb pn c g s now ∧ ListAt wr a cap l ∧ (∀ j, j < k → s.gone now (l.getD j 0) = false) ∧ Only (fun _ => False) w wr) (fun i _ => l.length - (intOf i).toNat)
  case atStart => exact ⟨0, rfl, by omega, H.out, HL.out, by intro j hj; omega, Only.refl _ _⟩
  case round =>
    clear H HL
    obtain ⟨k, rfl, hk, hcap, hl, hg, hO⟩ := hrel
    have HG := Lib.hid hg
    have HL := Lib.hid hl
    clear hg
    by_cases hlt : k < l.length
    · obtain ⟨⟨lb, lo, lsp⟩, rfl, hsp, hcell⟩ := hl.at_ k hlt
      simp only at hsp hcell
      subst hsp
      clear hl
      generalize hx : l.getD k 0 = x at hcell
      have HX := Lib.hid hx
      clear hx
      go_wp2_with fail
      refine (pred_any s pb pn c g wr x now hcap HO.out).mono ?_
      rintro e w1 ⟨rfl, hk1⟩
      cases hp : s.gone now x with
      | true =>
        have HP := Lib.hid hp
        clear hp
        go_wp2_with fail
        go_ret
        exact ⟨_, rfl, Or.inr ⟨k, rfl, hlt, by rw [HX.out]; exact HP.out, HG.out⟩, hO.trans hk1⟩
      | false =>
        have HP := Lib.hid hp
        clear hp
        go_wp2_with fail
        go_roundw
        case rel =>
          refine ⟨k + 1, by go_num, by omega, hcap.only hk1 (fun h => h) (fun h => h) (fun h => h) (fun h => h), HL.out.only hk1 (fun _ _ h => h), fun j hj => ?_, hO.trans hk1⟩
          rcases Nat.lt_succ_iff_lt_or_eq.1 hj with h1 | h1
          · exact HG.out j h1
          · subst h1; rw [HX.out]; exact HP.out
        case measure => simp [intOf]; omega
    · obtain rfl : k = l.length := by omega
      clear hl
      go_wp2_with fail
      go_ret
      exact ⟨_, rfl, Or.inl ⟨rfl, HG.out⟩, hO⟩

theorem blk_setCells (b : Nat) (T : TypeId) : ∀ (vs : List Value) (o : Nat) (w : World) (cur : Array Value), w.heap[b]? = some (.cells cur T (0, 0)) →
    ∃ cur', (w.setCells b o vs).heap[b]? = some (.cells cur' T (0, 0)) ∧ cur'.size = cur.size ∧ (∀ k, k < o → cur'[k]? = cur[k]?) ∧ Only (fun k => k = b) w (w.setCells b o vs)
  | [], o, w, cur, h => ⟨cur, h, rfl, fun _ _ => rfl, Only.refl _ _⟩
  | v :: vs, o, w, cur, h => by
    obtain ⟨cur', h1, h2, h3, h4⟩ := blk_setCells b T vs (o + 1) (w.setCell ⟨b, o, none⟩ v) (cur.setIfInBounds o v) (blk_set h o v)
    refine ⟨cur', h1, by rw [h2]; simp, fun k hk => ?_, ((Only.refl (fun k => k = b) w).setCell ⟨b, o, none⟩ v (fun _ => rfl)).trans h4⟩
    rw [h3 k (by omega)]
    rw [Array.getElem?_setIfInBounds, if_neg (by omega)]

theorem filter_take_succ (p : Int → Bool) (l : List Int) (j : Nat) (hj : j < l.length) : (l.take (j + 1)).filter p = (l.take j).filter p ++ (if p (l.getD j 0) = true then [l.getD j 0] else []) := by
  rw [List.take_add_one, List.filter_append]
  congr 1
  rw [List.getElem?_eq_getElem hj]
  simp [List.getD, hj, List.filter_cons]

set_option maxHeartbeats 1000000 in
set_option maxRecDepth 100000 in
theorem delete_any (s : BS) (pb pn c g blk : Nat) (w : World) (now : Int) (h : CapAt w pb pn c g s now) (ho : BOk s) (cap : Nat) (l : List Int) (cur : Array Value) (hg : w.heap[blk]? = some (.cells cur 3 (0, 0))) (hsz : cur.size = cap) (hc : l.length ≤ cap) (hcm : cap ≤ maxLen) (hs : l.length ≤ 1099511627776) (ht : ∀ k, k < l.length → cur[k]? = some (.int .i64 (l.getD k 0)))
    (hn : pb ≠ blk ∧ pn ≠ blk ∧ c ≠ blk ∧ g ≠ blk) :
    Calls Try.prog 29 #[.slice (some ⟨blk, 0, none⟩) l.length cap, .func (.func 30) #[] #[.pointer (some ⟨pb, 0, none⟩), .pointer (some ⟨pn, 0, none⟩)]] w fun e w' => e = .returned (.slice (some ⟨blk, 0, none⟩) (l.filter (fun x => !s.gone now x)).length cap) ∧
      (∃ cur', w'.heap[blk]? = some (.cells cur' 3 (0, 0)) ∧ cur'.size = cap ∧ ∀ k, k < (l.filter (fun x => !s.gone now x)).length → cur'[k]? = some (.int .i64 ((l.filter (fun x => !s.gone now x)).getD k 0))) ∧ Only (fun k => k = blk) w w' := by
  have hla : ListAt w (some ⟨blk, 0, none⟩) cap l := ⟨hc, hs, fun i hi => ⟨⟨blk, 0, none⟩, rfl, rfl, by
    refine (blk_cell hg (0 + i)).trans ?_
    rw [Nat.zero_add]; exact ht i hi⟩⟩
  have H := Lib.hid h
  have HO := Lib.hid ho
  have HT := Lib.hid ht
  clear h ho ht
  go_enter Try.func29, Try.ntmps29
  go_wp2_with fail
  refine (index_any s pb pn c g w now H.out HO.out _ cap l hla).mono ?_
  rintro e w1 ⟨i, rfl, hi, hk1⟩
  rcases hi with ⟨rfl, hall⟩ | ⟨n, rfl, hnl, hgn, hbef⟩
  · have hf : l.filter (fun x => !s.gone now x) = l := by
      apply List.filter_eq_self.2
      intro x hx
      obtain ⟨k, hk, rfl⟩ := List.getElem_of_mem hx
      have := hall k hk
      simp only [List.getD, List.getElem?_eq_getElem hk, Option.getD_some] at this
      simp [this]
    have HF := Lib.hid hf
    clear hf hall
    go_wp2_with fail
    go_ret
    rw [HF.out]
    exact ⟨rfl, ⟨cur, hk1.at hg (fun h => h), hsz, HT.out⟩, hk1.mono (fun _ _ h => h.elim)⟩
  · have hne : ((n : Int) == -1) = false := by simp
    have hg1 := hk1.at hg (fun h => h)
    have hcap1 := H.out.only hk1 (fun h => h) (fun h => h) (fun h => h) (fun h => h)
    have hO1 : Only (fun k => k = blk) w w1 := hk1.mono (fun _ _ h => h.elim)
    have hpre : (l.take n).filter (fun x => !s.gone now x) = l.take n := by
      apply List.filter_eq_self.2
      intro x hx
      obtain ⟨k, hk, rfl⟩ := List.getElem_of_mem hx
      rw [List.length_take] at hk
      have := hbef k (by omega)
      simp only [List.getD, List.getElem?_eq_getElem (show k < l.length by omega), Option.getD_some] at this
      simp [this]
    have hF1 : (l.take (n + 1)).filter (fun x => !s.gone now x) = l.take n := by
      rw [filter_take_succ _ _ _ hnl, hpre, hgn]
      exact List.append_nil _
    have hlt : (l.filter (fun x => !s.gone now x)).length < l.length := by
      apply List.length_filter_lt_length_iff_exists.2
      refine ⟨l.getD n 0, ?_, by simp only [hgn]; decide⟩
      simp [List.getD, hnl]
    have HLT := Lib.hid hlt
    have HF1 := Lib.hid hF1
    have HN := Lib.hid hn
    clear hpre hgn hbef hF1 hlt hla hk1 hg H hn
    go_wp2_with fail
    go_loopw [5, 6] (fun iv jv wr => ∃ (j i : Nat) (cu : Array Value), iv = .int .i64 i ∧ jv = .int .i64 j ∧ i < j ∧ j ≤ l.length ∧ i = ((l.take j).filter (fun x => !s.gone now x)).length ∧ wr.heap[blk]? = some (.cells cu 3 (0, 0)) ∧ cu.size = cap ∧ (∀ k, k < i → cu[k]? = some (.int .i64 (((l.take j).filter (fun x => !s.gone now x)).getD k 0))) ∧ (∀ k, j ≤ k → k < l.length → cu[k]? = some (.int .i64 (l.getD k 0))) ∧ CapAt wr pb pn c g s now ∧ Only (fun k => k = blk) w wr) (fun _ j _ => l.length - (intOf j).toNat)
    case atStart =>
      refine ⟨n + 1, n, cur, rfl, by go_num, by omega, by omega, ?_, hg1, hsz, ?_, fun k _ hk => HT.out k hk, hcap1, hO1⟩
      · rw [HF1.out, List.length_take]; omega
      · intro k hk
        rw [HT.out k (by omega), HF1.out]
        simp [List.getD, hk]
    case round =>
      clear hg1 hcap1 hO1
      obtain ⟨j, i, cu, rfl, rfl, hij, hjl, hieq, hgb, hcs, hfr, hbk, hcap, hO⟩ := hrel
      have HI := Lib.hid hieq
      have HFR := Lib.hid hfr
      have HBK := Lib.hid hbk
      clear hieq hfr
      by_cases hj : j < l.length
      · have hcj : wr.cell? ⟨blk, j, none⟩ = _ := (blk_cell hgb j).trans (hbk j (Nat.le_refl _) hj)
        have hci : ∃ u, wr.cell? ⟨blk, i, none⟩ = some u := ⟨cu[i]'(by omega), (blk_cell hgb i).trans (Array.getElem?_eq_getElem (by omega))⟩
        obtain ⟨u, hci⟩ := hci
        have hfi := blk_free hgb i
        have hsucc := filter_take_succ (fun x => !s.gone now x) l j hj
        generalize hX : l.getD j 0 = x at hcj hsucc
        have HX := Lib.hid hX
        clear hbk hX
        have HS := Lib.hid hsucc
        clear hsucc
        have hgb0 := Lib.hid hgb
        clear hgb
        go_wp2_with fail
        refine (pred_any s pb pn c g wr x now hcap HO.out).mono ?_
        rintro e w2 ⟨rfl, hk2⟩
        have hgb2 := hk2.at hgb0.out (fun h => h)
        replace hci := cell_only hk2 (fun h => h) hci
        replace hfi := blk_free hgb2 i
        replace hcap := hcap.only hk2 (fun h => h) (fun h => h) (fun h => h) (fun h => h)
        replace hO := hO.then hk2 (fun _ _ h => h.elim)
        replace hgb2 := Lib.hid hgb2
        clear hk2 hgb0 hcj
        cases hp : s.gone now x with
        | true =>
          have hs2 : (l.take (j + 1)).filter (fun x => !s.gone now x) = (l.take j).filter (fun x => !s.gone now x) := by rw [HS.out, hp]; simp
          have HS2 := Lib.hid hs2
          clear hp hs2
          go_wp2_with fail
          go_roundw
          case rel => exact ⟨j + 1, i, cu, by go_num, by go_num, by omega, by omega, by rw [HS2.out]; exact HI.out, hgb2.out, hcs, by rw [HS2.out]; exact HFR.out, fun k h1 h2 => HBK.out k (by omega) h2, hcap, hO⟩
          case measure => simp [intOf]; omega
        | false =>
          have hs2 : (l.take (j + 1)).filter (fun x => !s.gone now x) = (l.take j).filter (fun x => !s.gone now x) ++ [x] := by rw [HS.out, hp]; simp
          have HS2 := Lib.hid hs2
          clear hp hs2
          go_wp2_with fail
          have hset := blk_set hgb2.out i (.int .i64 x)
          have hkset := (Only.refl (fun k => k = blk) w2).setCell ⟨blk, i, none⟩ (.int .i64 x) (fun _ => rfl)
          have hcap3 := hcap.only hkset HN.out.1 HN.out.2.1 HN.out.2.2.1 HN.out.2.2.2
          go_roundw
          case rel =>
            refine ⟨j + 1, i + 1, cu.setIfInBounds i (.int .i64 x), by go_num, by go_num, by omega, by omega, ?_, hset, by simpa using hcs, ?_, ?_, hcap3, hO.trans hkset⟩
            · rw [HS2.out, List.length_append]; have := HI.out; simp; omega
            · intro k hk
              rw [HS2.out]
              have hil := HI.out
              by_cases hki : k < i
              · rw [Array.getElem?_setIfInBounds, if_neg (by omega), HFR.out k hki]
                simp only [List.getD]
                rw [List.getElem?_append_left (by omega)]
              · obtain rfl : k = i := by omega
                rw [Array.getElem?_setIfInBounds, if_pos rfl, if_pos (by omega)]
                simp only [List.getD]
                rw [List.getElem?_append_right (by omega)]
                simp [hil]
            · intro k h1 h2
              rw [Array.getElem?_setIfInBounds, if_neg (by omega)]
              exact HBK.out k (by omega) h2
          case measure => simp [intOf]; omega
      · have hjeq : j = l.length := by omega
        have hfull : i = (l.filter (fun x => !s.gone now x)).length := by
          have := HI.out
          rw [hjeq, List.take_length] at this
          exact this
        have hfr2 : ∀ k, k < i → cu[k]? = some (.int .i64 ((l.filter (fun x => !s.gone now x)).getD k 0)) := by
          have := HFR.out
          rw [hjeq, List.take_length] at this
          exact this
        have hil : i < l.length := by have := HLT.out; omega
        have hclr : ∀ ty, (Builtin.clear_ #[34] ty #[.slice (some ⟨blk, i, none⟩) (l.length - i) (cap - i)]).run Try.prog wr = .ok (.tuple #[]) (wr.setCells blk i (List.replicate (l.length - i) (.int .i64 0))) :=
          fun ty => Lib.run_clear_slice wr _ _ ty _ Try.underlying34 (fun w => by kernel_rfl) rfl rfl blk i _ _ (by omega) (fun k hk => by rw [blk_cell hgb (i + k), Array.getElem?_eq_getElem (by omega)]; rfl) (fun k hk => blk_free hgb (i + k))
        obtain ⟨cu', hq1, hq2, hq3, hq4⟩ := blk_setCells blk 3 (List.replicate (l.length - i) (.int .i64 0)) i wr cu hgb
        have HFL := Lib.hid hfull
        have HFR2 := Lib.hid hfr2
        clear hbk hfull hfr2
        go_wp2_with fail
        go_ret
        refine ⟨by rw [← HFL.out]; rfl, ⟨cu', hq1, hq2.trans hcs, fun k hk => ?_⟩, hO.trans hq4⟩
        rw [← HFL.out] at hk
        rw [hq3 k hk]
        exact HFR2.out k hk

theorem delete_nil (s : BS) (pb pn c g : Nat) (w : World) (now : Int) (h : CapAt w pb pn c g s now) (ho : BOk s) :
    Calls Try.prog 29 #[.slice none 0 0, .func (.func 30) #[] #[.pointer (some ⟨pb, 0, none⟩), .pointer (some ⟨pn, 0, none⟩)]] w fun e w' => e = .returned (.slice none 0 0) ∧ Only (fun _ => False) w w' := by
  have H := Lib.hid h
  have HO := Lib.hid ho
  clear h ho
  go_enter Try.func29, Try.ntmps29
  go_wp2_with fail
  refine (index_any s pb pn c g w now H.out HO.out none 0 [] (ListAt.nil w)).mono ?_
  rintro e w1 ⟨i, rfl, hi, hk1⟩
  rcases hi with ⟨rfl, hall⟩ | ⟨n, rfl, hnl, hgn, hbef⟩
  · clear hall
    go_wp2_with fail
    go_ret
    exact ⟨rfl, hk1⟩
  · exact absurd hnl (Nat.not_lt_zero _)

/-- What is known at a tick, rising. -/
def BS.known (s : BS) (now : Int) : List Int := (keysUp (encH s.L)).filter (fun x => !s.gone now x)

set_option maxHeartbeats 1000000 in
set_option maxRecDepth 100000 in
theorem known_any (s : BS) (c g : Nat) (w : World) (now : Int) (h : BridgeAt w c g s) (ho : BOk s) (hw : ∀ p ∈ s.L, (Lit.int .i64 p.1).wf = true) (hl : s.L.length ≤ 1024) :
    Calls Try.prog 15 #[.pointer (some ⟨g, 0, none⟩), .int .i64 now] w fun e w' => ∃ a cap, e = .returned (.slice a (s.known now).length cap) ∧ ListAt w' a cap (s.known now) ∧ (∀ ad : Addr, a = some ad → w.heap.size ≤ ad.block) ∧ Only (fun _ => False) w w' := by
  have x4 := blk_cell h.1 4
  simp only [List.getElem?_toArray, List.getElem?_cons_zero, List.getElem?_cons_succ] at x4
  have H := Lib.hid h
  have HO := Lib.hid ho
  have hg := heap_lt h.1
  have hc := h.2.1.lt
  clear h ho
  go_enter Try.func15, Try.ntmps15
  go_wp2_with fail
  have hb0 := blk_alloc (blk_new w (.cells #[.pointer (some ⟨g, 0, none⟩)] 23)) (.cells #[.int .i64 now] 3)
  have hb1 := blk_new2 w (.cells #[.pointer (some ⟨g, 0, none⟩)] 23) (.cells #[.int .i64 now] 3)
  have hka := ((Only.refl (fun _ => False) w).alloc (.cells #[.pointer (some ⟨g, 0, none⟩)] 23)).alloc (.cells #[.int .i64 now] 3)
  have hcap : CapAt ((w.alloc (.cells #[.pointer (some ⟨g, 0, none⟩)] 23)).alloc (.cells #[.int .i64 now] 3)) w.heap.size (w.heap.size + 1) c g s now := ⟨blk_cell hb0 0, blk_cell hb1 0, H.out.only hka⟩
  have hsa : ((w.alloc (.cells #[.pointer (some ⟨g, 0, none⟩)] 23)).alloc (.cells #[.int .i64 now] 3)).heap.size = w.heap.size + 2 := by rw [World.size_alloc, World.size_alloc]
  generalize (w.alloc (.cells #[.pointer (some ⟨g, 0, none⟩)] 23)).alloc (.cells #[.int .i64 now] 3) = wa at hka hcap hsa ⊢
  clear hb0 hb1
  have HSA := Lib.hid hsa
  clear hsa
  have hma := hcap.at_.2.1
  have hwe : ∀ p ∈ encH s.L, (Lit.int .i64 p.1).wf = true := by
    intro p hp
    obtain ⟨y, hy, rfl⟩ := List.mem_map.1 hp
    exact hw y hy
  have hle : (encH s.L).length ≤ 1099511627776 := by unfold encH; rw [List.length_map]; omega
  refine (keys_any (some c) wa).mono ?_
  rintro e w1 ⟨rfl, rfl⟩
  go_wp2_with fail
  refine (sorted_any c (encH s.L) wa hma hwe hle).mono ?_
  rintro e w1 ⟨v, rfl, hrow, hk1⟩
  have hcap1 := hcap.only hk1 (fun h => h) (fun h => h) (fun h => h) (fun h => h)
  have hlen : (keysUp (encH s.L)).length = s.L.length := by unfold keysUp encH; simp
  have HLN := Lib.hid hlen
  clear hlen
  obtain ⟨hr1, ⟨rfl, h0⟩ | ⟨blk, cap, cur, rfl, hbb, hg1, hc1, hm1, hz1, ht1⟩⟩ := hrow
  · have hnil : keysUp (encH s.L) = [] := List.eq_nil_of_length_eq_zero h0
    have hkn : s.known now = [] := by unfold BS.known; rw [hnil]; rfl
    have HKN := Lib.hid hkn
    clear hkn hnil h0 hr1
    go_wp2_with fail
    refine (delete_nil s w.heap.size (w.heap.size + 1) c g w1 now hcap1 HO.out).mono ?_
    rintro e w2 ⟨rfl, hk2⟩
    go_wp2_with fail
    go_ret
    rw [HKN.out]
    exact ⟨none, 0, rfl, ListAt.nil _, fun ad e => (by cases e), (hka.trans hk1).trans hk2⟩
  · have hsa := HSA.out
    have hlen := HLN.out
    have ht2 : ∀ k, k < (keysUp (encH s.L)).length → cur[k]? = some (.int .i64 ((keysUp (encH s.L)).getD k 0)) := by
      intro k hk
      have h1 : cur[k]? = (cur.toList.take ((keysUp (encH s.L)).length * 1))[k]? := by rw [List.getElem?_take, if_pos (by omega), Array.getElem?_toList]
      rw [h1, ht1, List.getElem?_map, List.getElem?_eq_getElem hk]
      simp [List.getD, hk]
    clear hsa hlen
    go_wp2_with fail
    have hsa := HSA.out
    have hlen := HLN.out
    refine (delete_any s w.heap.size (w.heap.size + 1) c g blk w1 now hcap1 HO.out cap _ cur hg1 (by rw [hz1]; omega) hc1 hm1 (by omega) ht2 (by omega)).mono ?_
    clear hsa hlen
    rintro e w2 ⟨rfl, ⟨cu, hq1, hq2, hq3⟩, hk2⟩
    go_wp2_with fail
    go_ret
    refine ⟨some ⟨blk, 0, none⟩, cap, rfl, ⟨?_, ?_, fun k hk => ⟨⟨blk, 0, none⟩, rfl, rfl, ?_⟩⟩, fun ad e => by cases e; show w.heap.size ≤ blk; have := HSA.out; omega, (hka.trans hk1).then hk2 (fun i hi e => by have := HSA.out; omega)⟩
    · exact Nat.le_trans (List.length_filter_le _ _) hc1
    · exact Nat.le_trans (List.length_filter_le _ _) (by rw [HLN.out]; omega)
    · refine (blk_cell hq1 (0 + k)).trans ?_
      rw [Nat.zero_add]
      exact hq3 k hk

end Go.Proofs.Ytkmnjlegmgohfaa

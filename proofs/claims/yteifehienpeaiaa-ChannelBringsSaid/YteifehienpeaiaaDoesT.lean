/-
  An act of the law ChannelBrings: ticks.
  Conditions: fewer than a hundred acts, texts of at most 500 bytes.
-/
import Derived.Test.YteifehienpeaiaaPairLaw
import Derived.Test.YteifehienpeaiaaPhasedK
import Derived.Test.YteifehienpeaiaaAmong
import Derived.Test.YteifehienpeaiaaPairPh
import Derived.StillTailTactics
set_option linter.unusedVariables false
set_option linter.unusedSimpArgs false
set_option maxRecDepth 100000
namespace Go.Proofs.Yteifehienpeaiaa
open Go.RowKit

def etxG (W : World) (B p q : Nat) (g mo me : Nat → Nat) (rv : Nat → Value) (S : PS) (kd nn : Int) (tx : ByteArray) (sec : Bool) (L : Nat → Bool) : Nat → Value → World → Prop
  | 0, v, w' => v = .pointer (some ⟨p, 0, none⟩)
  | 1, v, w' => v = .int .i64 0
  | 2, v, w' => v = .int .i64 1
  | 3, v, w' => v = .pointer (some ⟨p, 0, none⟩)
  | 4, v, w' => v = .int .i64 0
  | 5, v, w' => v = .int .i64 1
  | 6, v, w' => v = .pointer (some ⟨p, 0, none⟩)
  | 7, v, w' => v = .pointer (some ⟨p, 2, none⟩)
  | 8, v, w' => v = .pointer (some ⟨p, 3, none⟩)
  | 9, v, w' => v = rv 1
  | 10, v, w' => v = .pointer (some ⟨p, 0, none⟩)
  | 11, v, w' => v = .int .i64 0
  | 12, v, w' => v = .pointer (some ⟨p, 0, none⟩)
  | 13, v, w' => v = .pointer (some ⟨p, 0, none⟩)
  | 14, v, w' => v = .pointer (some ⟨p, 0, none⟩)
  | 15, v, w' => v = .pointer (some ⟨g 0, 0, none⟩)
  | 16, v, w' => v = .pointer (some ⟨p, 0, none⟩)
  | 17, v, w' => v = .pointer (some ⟨p, 0, none⟩)
  | 18, v, w' => v = .pointer (some ⟨p, 8, none⟩)
  | 19, v, w' => v = .int .i64 S.now
  | 20, v, w' => w'.ownsRow B 9 1 (v) ((S.s 0).outs S.now).length (((S.s 0).outs S.now).map Value.string) ∧ (∀ b, (rv 1).ownBlock = some b → b < B) ∧ (L 21 = false → PAt W w' 6 p g mo me rv { S with s := put S.s 0 ((S.s 0).ticks S.now) })
  | 21, v, w' => w'.ownsRow W.heap.size 9 1 (v) (S.L 1 ++ ((S.s 0).outs S.now)).length ((S.L 1 ++ ((S.s 0).outs S.now)).map Value.string) ∧ (∀ b, (v).ownBlock = some b → (rv 1).ownBlock = some b ∨ B ≤ b) ∧ (L 20 = true ∧ PAt W w' 1 p g mo me rv { S with s := put S.s 0 ((S.s 0).ticks S.now) })
  | 22, v, w' => v = .pointer (some ⟨p, 0, none⟩)
  | 23, v, w' => v = .pointer (some ⟨p, 2, none⟩)
  | 24, v, w' => v = .pointer (some ⟨p, 3, none⟩)
  | _, _, _ => True
def etxDs : List Nat := [88, 89, 90, 91, 92, 93, 94, 95, 96, 97, 98, 99, 100, 101, 102, 103, 104, 105, 106, 107, 108, 109, 110, 111, 112]
def etxNeed : List (List Nat) := [[], [], [1], [], [], [4], [3], [6], [5, 7], [8], [], [], [10], [12], [11, 13], [14], [], [16], [17], [18], [15, 19], [9, 20], [0], [22], [2, 23]]
def etxGs : List (Option Bool) := []
def etxLate : List (List Nat) := [[], [], [], [21], [21], [21], [21], [21], [21], [21], [20, 21], [20, 21], [20, 21], [20, 21], [20, 21], [20, 21], [20, 21], [20, 21], [20, 21], [20, 21], [21], [], [], [], []]
def etxEarly : List (List Nat) := [[], [], [], [], [], [], [], [], [], [], [], [], [], [], [], [], [], [], [], [], [], [20], [], [], []]
theorem etxG.keep {W : World} {B p q : Nat} {g mo me : Nat → Nat} {rv : Nat → Value} {S : PS} {kd nn : Int} {tx : ByteArray} {sec : Bool} : ∀ L i jx v w w', i ≠ jx → L i = false → L jx = true → etxG W B p q g mo me rv S kd nn tx sec L jx v w → Only (p2St 20 21 (rv 1) i) w w' → etxG W B p q g mo me rv S kd nn tx sec (upd L i) jx v w' := by
  intro L i jx v w w' hij hLi hLj h hO
  match jx, hij, hLj, h with
  | 0, hij, hLj, h => exact h
  | 1, hij, hLj, h => exact h
  | 2, hij, hLj, h => exact h
  | 3, hij, hLj, h => exact h
  | 4, hij, hLj, h => exact h
  | 5, hij, hLj, h => exact h
  | 6, hij, hLj, h => exact h
  | 7, hij, hLj, h => exact h
  | 8, hij, hLj, h => exact h
  | 9, hij, hLj, h => exact h
  | 10, hij, hLj, h => exact h
  | 11, hij, hLj, h => exact h
  | 12, hij, hLj, h => exact h
  | 13, hij, hLj, h => exact h
  | 14, hij, hLj, h => exact h
  | 15, hij, hLj, h => exact h
  | 16, hij, hLj, h => exact h
  | 17, hij, hLj, h => exact h
  | 18, hij, hLj, h => exact h
  | 19, hij, hLj, h => exact h
  | 20, hij, hLj, h => exact (by
    obtain ⟨e1, e2, e3⟩ := h
    refine ⟨row_keepS e1 hO (fun b hb hx => ?_), e2, fun hL => ?_⟩
    · rcases hx with hx | ⟨_, hx⟩
      · exact hij hx
      · have h1 := e2 b hx.symm
        have h2 := (e1.lt b hb).1
        omega
    · have hi : i ≠ 21 := fun e => by subst e; simp [upd] at hL
      have hL' : L 21 = false := by unfold upd at hL; rwa [if_neg (fun e => hi e.symm)] at hL
      exact (e3 hL').keep (hO.mono (fun _ _ hx => hx.elim hij (fun hx => hi hx.1))))
  | 21, hij, hLj, h => exact (by
    obtain ⟨e1, e2, e0, e3⟩ := h
    have hi : i ≠ 20 := fun e => by subst e; rw [e0] at hLi; cases hLi
    have h0 := hO.mono (S' := fun _ => False) (fun _ _ e => e.elim hi (fun e => hij e.1))
    exact ⟨row_keepS e1 h0 (fun _ _ h => h), e2, by unfold upd; rw [if_neg (fun e => hi e.symm)]; exact e0, e3.keep h0⟩)
  | 22, hij, hLj, h => exact h
  | 23, hij, hLj, h => exact h
  | 24, hij, hLj, h => exact h
  | n + 25, hij, hLj, h => trivial
theorem etxG.guard {W : World} {B p q : Nat} {g mo me : Nat → Nat} {rv : Nat → Value} {S : PS} {kd nn : Int} {tx : ByteArray} {sec : Bool} : ∀ g' b', etxGs.getD g' none = some b' → ∀ L v w, etxG W B p q g mo me rv S kd nn tx sec L g' v w → v = .bool b' := by
  intro g' b' hbb L v w hgg
  match g', hbb, hgg with
  | n' + 0, hbb, hgg => exact absurd hbb (by simp [etxGs])
def etyG (W : World) (B p q : Nat) (g mo me : Nat → Nat) (rv : Nat → Value) (S : PS) (kd nn : Int) (tx : ByteArray) (sec : Bool) (L : Nat → Bool) : Nat → Value → World → Prop
  | 0, v, w' => v = .pointer (some ⟨p, 0, none⟩)
  | 1, v, w' => v = .int .i64 1
  | 2, v, w' => v = .int .i64 0
  | 3, v, w' => v = .pointer (some ⟨p, 0, none⟩)
  | 4, v, w' => v = .int .i64 1
  | 5, v, w' => v = .int .i64 0
  | 6, v, w' => v = .pointer (some ⟨p, 0, none⟩)
  | 7, v, w' => v = .pointer (some ⟨p, 2, none⟩)
  | 8, v, w' => v = .pointer (some ⟨p, 2, none⟩)
  | 9, v, w' => v = rv 0
  | 10, v, w' => v = .pointer (some ⟨p, 0, none⟩)
  | 11, v, w' => v = .int .i64 1
  | 12, v, w' => v = .pointer (some ⟨p, 0, none⟩)
  | 13, v, w' => v = .pointer (some ⟨p, 0, none⟩)
  | 14, v, w' => v = .pointer (some ⟨p, 1, none⟩)
  | 15, v, w' => v = .pointer (some ⟨g 1, 0, none⟩)
  | 16, v, w' => v = .pointer (some ⟨p, 0, none⟩)
  | 17, v, w' => v = .pointer (some ⟨p, 0, none⟩)
  | 18, v, w' => v = .pointer (some ⟨p, 8, none⟩)
  | 19, v, w' => v = .int .i64 S.now
  | 20, v, w' => w'.ownsRow B 9 1 (v) ((S.s 1).outs S.now).length (((S.s 1).outs S.now).map Value.string) ∧ (∀ b, (rv 0).ownBlock = some b → b < B) ∧ (L 21 = false → PAt W w' 6 p g mo me rv { S with s := put S.s 1 ((S.s 1).ticks S.now) })
  | 21, v, w' => w'.ownsRow W.heap.size 9 1 (v) (S.L 0 ++ ((S.s 1).outs S.now)).length ((S.L 0 ++ ((S.s 1).outs S.now)).map Value.string) ∧ (∀ b, (v).ownBlock = some b → (rv 0).ownBlock = some b ∨ B ≤ b) ∧ (L 20 = true ∧ PAt W w' 0 p g mo me rv { S with s := put S.s 1 ((S.s 1).ticks S.now) })
  | 22, v, w' => v = .pointer (some ⟨p, 0, none⟩)
  | 23, v, w' => v = .pointer (some ⟨p, 2, none⟩)
  | 24, v, w' => v = .pointer (some ⟨p, 2, none⟩)
  | _, _, _ => True
def etyDs : List Nat := [88, 89, 90, 91, 92, 93, 94, 95, 96, 97, 98, 99, 100, 101, 102, 103, 104, 105, 106, 107, 108, 109, 110, 111, 112]
def etyNeed : List (List Nat) := [[], [], [1], [], [], [4], [3], [6], [5, 7], [8], [], [], [10], [12], [11, 13], [14], [], [16], [17], [18], [15, 19], [9, 20], [0], [22], [2, 23]]
def etyGs : List (Option Bool) := []
def etyLate : List (List Nat) := [[], [], [], [21], [21], [21], [21], [21], [21], [21], [20, 21], [20, 21], [20, 21], [20, 21], [20, 21], [20, 21], [20, 21], [20, 21], [20, 21], [20, 21], [21], [], [], [], []]
def etyEarly : List (List Nat) := [[], [], [], [], [], [], [], [], [], [], [], [], [], [], [], [], [], [], [], [], [], [20], [], [], []]
theorem etyG.keep {W : World} {B p q : Nat} {g mo me : Nat → Nat} {rv : Nat → Value} {S : PS} {kd nn : Int} {tx : ByteArray} {sec : Bool} : ∀ L i jx v w w', i ≠ jx → L i = false → L jx = true → etyG W B p q g mo me rv S kd nn tx sec L jx v w → Only (p2St 20 21 (rv 0) i) w w' → etyG W B p q g mo me rv S kd nn tx sec (upd L i) jx v w' := by
  intro L i jx v w w' hij hLi hLj h hO
  match jx, hij, hLj, h with
  | 0, hij, hLj, h => exact h
  | 1, hij, hLj, h => exact h
  | 2, hij, hLj, h => exact h
  | 3, hij, hLj, h => exact h
  | 4, hij, hLj, h => exact h
  | 5, hij, hLj, h => exact h
  | 6, hij, hLj, h => exact h
  | 7, hij, hLj, h => exact h
  | 8, hij, hLj, h => exact h
  | 9, hij, hLj, h => exact h
  | 10, hij, hLj, h => exact h
  | 11, hij, hLj, h => exact h
  | 12, hij, hLj, h => exact h
  | 13, hij, hLj, h => exact h
  | 14, hij, hLj, h => exact h
  | 15, hij, hLj, h => exact h
  | 16, hij, hLj, h => exact h
  | 17, hij, hLj, h => exact h
  | 18, hij, hLj, h => exact h
  | 19, hij, hLj, h => exact h
  | 20, hij, hLj, h => exact (by
    obtain ⟨e1, e2, e3⟩ := h
    refine ⟨row_keepS e1 hO (fun b hb hx => ?_), e2, fun hL => ?_⟩
    · rcases hx with hx | ⟨_, hx⟩
      · exact hij hx
      · have h1 := e2 b hx.symm
        have h2 := (e1.lt b hb).1
        omega
    · have hi : i ≠ 21 := fun e => by subst e; simp [upd] at hL
      have hL' : L 21 = false := by unfold upd at hL; rwa [if_neg (fun e => hi e.symm)] at hL
      exact (e3 hL').keep (hO.mono (fun _ _ hx => hx.elim hij (fun hx => hi hx.1))))
  | 21, hij, hLj, h => exact (by
    obtain ⟨e1, e2, e0, e3⟩ := h
    have hi : i ≠ 20 := fun e => by subst e; rw [e0] at hLi; cases hLi
    have h0 := hO.mono (S' := fun _ => False) (fun _ _ e => e.elim hi (fun e => hij e.1))
    exact ⟨row_keepS e1 h0 (fun _ _ h => h), e2, by unfold upd; rw [if_neg (fun e => hi e.symm)]; exact e0, e3.keep h0⟩)
  | 22, hij, hLj, h => exact h
  | 23, hij, hLj, h => exact h
  | 24, hij, hLj, h => exact h
  | n + 25, hij, hLj, h => trivial
theorem etyG.guard {W : World} {B p q : Nat} {g mo me : Nat → Nat} {rv : Nat → Value} {S : PS} {kd nn : Int} {tx : ByteArray} {sec : Bool} : ∀ g' b', etyGs.getD g' none = some b' → ∀ L v w, etyG W B p q g mo me rv S kd nn tx sec L g' v w → v = .bool b' := by
  intro g' b' hbb L v w hgg
  match g', hbb, hgg with
  | n' + 0, hbb, hgg => exact absurd hbb (by simp [etyGs])

set_option maxHeartbeats 16000000 in
theorem does_tick (sec : Bool) (hs : sec = true ∨ sec = false) (W w0 : World) (p : Nat) (g mo me : Nat → Nat) (rv : Nat → Value) (S : PS) (a : Nat) (R kd nn : Int) (tx : ByteArray) (wk : (Lit.int .i64 kd).wf = true) (wn : (Lit.int .i64 nn).wf = true) (htx : tx.size ≤ 500) (h : PAt W w0 6 p g mo me rv S) (hv : DInv R S a) (ha : a < 100) (hkind : kd % 6 = 1) :
    Calls Try.prog 24 #[.pointer (some ⟨p, 0, none⟩), .agg #[.int .i64 kd, .int .i64 nn, .string tx, .bool sec]] w0 fun e w' => ∃ rv' S', e = .returned (.bool true) ∧ PAt W w' 6 p g mo me rv' S' ∧ DInv R S' (a + 1) := by
  have hk0 := (Only.refl (fun _ => False) w0).alloc (.cells #[.int .i64 kd, .int .i64 nn, .string tx, .bool sec] 50)
  have hq := blk_new w0 (.cells #[.int .i64 kd, .int .i64 nn, .string tx, .bool sec] 50)
  have hp1 := h.keep hk0
  have x0 := (blk_cell hq 0).trans (show _ = some (.int .i64 kd) from rfl)
  have x1 := (blk_cell hq 1).trans (show _ = some (.int .i64 nn) from rfl)
  have x3 := (blk_cell hq 3).trans (show _ = some (.bool sec) from rfl)
  have HP1 := Lib.hid hp1
  have y8 := hp1.cNow
  have HV := Lib.hid hv
  obtain ⟨m, hm⟩ : ∃ m, m = kd % 6 := ⟨_, rfl⟩
  have hm0 : m = 1 := by omega
  have hn0 := hv.pt.two.n0
  have hn1 := hv.now
  clear h hk0 hq hp1 hv
  rcases hs with hs | hs
  all_goals
    replace x3 := x3.trans (congrArg some (congrArg Value.bool hs))
    clear hs
    go_enter Try.func24, Try.ntmps24
    go_wp2_with fail
    refine (among_any kd 6 _ wk (by decide) (by decide)).mono ?_
    rintro e _ ⟨rfl, rfl⟩
    generalize w0.alloc (.cells #[.int .i64 kd, .int .i64 nn, .string tx, .bool sec] 50) = W1 at HP1 x0 x1 x3 y8 ⊢
    generalize w0.heap.size = q at x0 x1 x3 ⊢
    rw [← hm]
    clear x0 x3 hm hkind
    go_upto_region 11 with fail
    have h50 : 0 ≤ nn % 5 := by omega
    have h51 : nn % 5 < 5 := by omega
    have hwa : IntKind.i64.wrap (1 + nn % 5) = 1 + nn % 5 := by rw [IntKind.wrap_i64]; omega
    have hwb : IntKind.i64.wrap (S.now + (1 + nn % 5)) = S.now + (1 + nn % 5) := by rw [IntKind.wrap_i64]; omega
    refine wp_region_still_tail 11 (by kernel_rfl) (by kernel_rfl) ?_
    simp only [List.take_succ_cons, List.take_zero, List.drop_succ_cons, List.drop_zero]
    change wpStill _ _ (W1.drew) (fun a' => wpList _ _ _ _ _ (W1.drew)) _ _
    replace y8 : W1.drew.cell? ⟨p, 8, none⟩ = _ := y8
    replace x1 : W1.drew.cell? ⟨q, 1, none⟩ = _ := x1
    have hpd := HP1.out.keep (Only.refl (fun _ => False) W1).drew
    have f8 := blk_free hpd.blk 8
    generalize W1.drew = w1 at y8 x1 hpd f8 ⊢
    clear HP1
    repeat still_step
    still_call (among_any nn 5 _ wn (by decide) (by decide)).mono fun e w' h => ⟨h.1, h.2.symm⟩
    repeat still_step
    refine wpStill_nil ?_
    obtain ⟨n5, hn5⟩ : ∃ n5, n5 = 1 + nn % 5 := ⟨_, rfl⟩
    rw [← hn5] at hwa hwb ⊢
    have hb5 : 1 ≤ n5 ∧ n5 ≤ 5 := by omega
    have HDI := Lib.hid (HV.out.tick2 ha n5 hb5)
    have hst := hpd.setNow (S.now + n5)
    have HST := Lib.hid hst
    clear hn5 hpd hst h50 h51
    go_wp2_with fail
    generalize w1.setCell ⟨p, 8, none⟩ (.int .i64 (S.now + n5)) = W2 at HST ⊢
    clear y8 x1 f8 hwa hwb
    obtain ⟨S1, hS1⟩ : ∃ S1 : PS, S1 = { S with now := S.now + n5 } := ⟨_, rfl⟩
    have HS1 := Lib.hid hS1
    rw [← hS1] at HST
    clear hS1
    refine wp_loop_rounds 3 ?_
    rw [rounds_succ]
    have HPA := HST
    have hp0 := HST.out
    have HPI : Hid (PInv (S1.s 0) 300) := Lib.hid (by rw [HS1.out]; exact HV.out.p (k := 0) (by decide))
    have HOL : Hid (((S1.s 0).outs S1.now).length ≤ 65) := Lib.hid (outs_le HPI.out _)
    have HLN : Hid (∀ i, i < 6 → (S1.L i).length ≤ 20000) := Lib.hid (by rw [HS1.out]; exact HV.out.len (by omega))
    have HT : Hid (p2Ph W2 p (pcells g rv S1.now) false false W2.drew) := Lib.hid ⟨fun _ => (Only.refl _ W2).drew, fun _ => hp0.blk, Nat.le_refl _⟩
    obtain ⟨B, hB⟩ : ∃ B, B = W2.heap.size := ⟨_, rfl⟩
    have HBW : Hid (W2.heap.size = B) := Lib.hid hB.symm
    clear hB HST
    go_upto_region 15 with fail
    refine wp_region_phasedk_tail 25 etxDs etxNeed etxGs etxLate etxEarly (fun L w' => p2Ph W2 p (pcells g rv S1.now) (L 20) (L 21) w') (fun i w w' => Only (p2St 20 21 (rv 1) i) w w') (etxG W B p q g mo me rv S1 kd nn tx sec) rfl rfl (by kernel_rfl) (by kernel_rfl) (by kernel_rfl) (by kernel_rfl) (by kernel_rfl) (by kernel_rfl) HT.out etxG.keep etxG.guard (fun _ _ => Only.refl _ _) ?_ ?_
    · refine And.intro ?op0 (And.intro ?op1 (And.intro ?op2 (And.intro ?op3 (And.intro ?op4 (And.intro ?op5 (And.intro ?op6 (And.intro ?op7 (And.intro ?op8 (And.intro ?op9 (And.intro ?op10 (And.intro ?op11 (And.intro ?op12 (And.intro ?op13 (And.intro ?op14 (And.intro ?op15 (And.intro ?op16 (And.intro ?op17 (And.intro ?op18 (And.intro ?op19 (And.intro ?op20 (And.intro ?op21 (And.intro ?op22 (And.intro ?op23 (And.intro ?op24 trivial))))))))))))))))))))))))
      case op0 =>
        intro L ev w1 hLi hlate hearly hT1 hc hf hfr hG
        rw [if_pos (by decide)]
        have hP : p2Ph W2 p (pcells g rv S1.now) (L 20) (L 21) w1 := hT1
        have h0 : ev (.tmp 0) = .pointer (some ⟨p, 0, none⟩) := hfr 0 (by decide)
        clear hG hfr
        refine OpSays.value (v := .pointer (some ⟨p, 0, none⟩)) (w' := w1) ?_ ⟨hT1, Only.refl _ _, rfl⟩
        go_simp
      case op1 =>
        intro L ev w1 hLi hlate hearly hT1 hc hf hfr hG
        rw [if_pos (by decide)]
        have hP : p2Ph W2 p (pcells g rv S1.now) (L 20) (L 21) w1 := hT1
        have h9 : ev (.tmp 9) = .int .i64 0 := hfr 9 (by decide)
        clear hG hfr
        refine OpSays.value (v := .int .i64 0) (w' := w1) ?_ ⟨hT1, Only.refl _ _, rfl⟩
        go_simp
      case op2 =>
        intro L ev w1 hLi hlate hearly hT1 hc hf hfr hG
        rw [if_pos (by decide)]
        have hP : p2Ph W2 p (pcells g rv S1.now) (L 20) (L 21) w1 := hT1
        have hg : (ev (.tmp 89) = .int .i64 0) ∧ True := hG
        obtain ⟨g1, _⟩ := hg
        clear hG hfr
        have hw1 : IntKind.i64.wrap 1 = 1 := by decide
        have hw0 : IntKind.i64.wrap 0 = 0 := by decide
        refine OpSays.value (v := .int .i64 1) (w' := w1) ?_ ⟨hT1, Only.refl _ _, rfl⟩
        go_simp
      case op3 =>
        intro L ev w1 hLi hlate hearly hT1 hc hf hfr hG
        rw [if_pos (by decide)]
        have hP : p2Ph W2 p (pcells g rv S1.now) (L 20) (L 21) w1 := hT1
        obtain ⟨hl21, _⟩ := hlate
        rw [hl21] at hP
        have h0 : ev (.tmp 0) = .pointer (some ⟨p, 0, none⟩) := hfr 0 (by decide)
        clear hG hfr
        refine OpSays.value (v := .pointer (some ⟨p, 0, none⟩)) (w' := w1) ?_ ⟨hT1, Only.refl _ _, rfl⟩
        go_simp
      case op4 =>
        intro L ev w1 hLi hlate hearly hT1 hc hf hfr hG
        rw [if_pos (by decide)]
        have hP : p2Ph W2 p (pcells g rv S1.now) (L 20) (L 21) w1 := hT1
        obtain ⟨hl21, _⟩ := hlate
        rw [hl21] at hP
        have h9 : ev (.tmp 9) = .int .i64 0 := hfr 9 (by decide)
        clear hG hfr
        refine OpSays.value (v := .int .i64 0) (w' := w1) ?_ ⟨hT1, Only.refl _ _, rfl⟩
        go_simp
      case op5 =>
        intro L ev w1 hLi hlate hearly hT1 hc hf hfr hG
        rw [if_pos (by decide)]
        have hP : p2Ph W2 p (pcells g rv S1.now) (L 20) (L 21) w1 := hT1
        obtain ⟨hl21, _⟩ := hlate
        rw [hl21] at hP
        have hg : (ev (.tmp 92) = .int .i64 0) ∧ True := hG
        obtain ⟨g4, _⟩ := hg
        clear hG hfr
        have hw1 : IntKind.i64.wrap 1 = 1 := by decide
        have hw0 : IntKind.i64.wrap 0 = 0 := by decide
        refine OpSays.value (v := .int .i64 1) (w' := w1) ?_ ⟨hT1, Only.refl _ _, rfl⟩
        go_simp
      case op6 =>
        intro L ev w1 hLi hlate hearly hT1 hc hf hfr hG
        rw [if_pos (by decide)]
        have hP : p2Ph W2 p (pcells g rv S1.now) (L 20) (L 21) w1 := hT1
        obtain ⟨hl21, _⟩ := hlate
        rw [hl21] at hP
        have hg : (ev (.tmp 91) = .pointer (some ⟨p, 0, none⟩)) ∧ True := hG
        obtain ⟨g3, _⟩ := hg
        clear hG hfr
        refine OpSays.value (v := .pointer (some ⟨p, 0, none⟩)) (w' := w1) ?_ ⟨hT1, Only.refl _ _, rfl⟩
        go_simp
      case op7 =>
        intro L ev w1 hLi hlate hearly hT1 hc hf hfr hG
        rw [if_pos (by decide)]
        have hP : p2Ph W2 p (pcells g rv S1.now) (L 20) (L 21) w1 := hT1
        obtain ⟨hl21, _⟩ := hlate
        rw [hl21] at hP
        have hg : (ev (.tmp 94) = .pointer (some ⟨p, 0, none⟩)) ∧ True := hG
        obtain ⟨g6, _⟩ := hg
        clear hG hfr
        refine OpSays.value (v := .pointer (some ⟨p, 2, none⟩)) (w' := w1) ?_ ⟨hT1, Only.refl _ _, rfl⟩
        go_simp
      case op8 =>
        intro L ev w1 hLi hlate hearly hT1 hc hf hfr hG
        rw [if_pos (by decide)]
        have hP : p2Ph W2 p (pcells g rv S1.now) (L 20) (L 21) w1 := hT1
        obtain ⟨hl21, _⟩ := hlate
        rw [hl21] at hP
        have hg : (ev (.tmp 93) = .int .i64 1) ∧ (ev (.tmp 95) = .pointer (some ⟨p, 2, none⟩)) ∧ True := hG
        obtain ⟨g5, g7, _⟩ := hg
        clear hG hfr
        refine OpSays.value (v := .pointer (some ⟨p, 3, none⟩)) (w' := w1) ?_ ⟨hT1, Only.refl _ _, rfl⟩
        go_simp
      case op9 =>
        intro L ev w1 hLi hlate hearly hT1 hc hf hfr hG
        rw [if_pos (by decide)]
        have hP : p2Ph W2 p (pcells g rv S1.now) (L 20) (L 21) w1 := hT1
        obtain ⟨hl21, _⟩ := hlate
        rw [hl21] at hP
        have hg : (ev (.tmp 96) = .pointer (some ⟨p, 3, none⟩)) ∧ True := hG
        obtain ⟨g8, _⟩ := hg
        clear hG hfr
        have c : w1.cell? ⟨p, 3, none⟩ = some (rv 1) := (blk_cell (hP.2.1 rfl) 3).trans rfl
        refine OpSays.value (v := rv 1) (w' := w1) ?_ ⟨hT1, Only.refl _ _, rfl⟩
        go_simp
      case op10 =>
        intro L ev w1 hLi hlate hearly hT1 hc hf hfr hG
        rw [if_pos (by decide)]
        have hP : p2Ph W2 p (pcells g rv S1.now) (L 20) (L 21) w1 := hT1
        obtain ⟨hl20, hl21, _⟩ := hlate
        rw [hl20] at hP
        rw [hl21] at hP
        have h0 : ev (.tmp 0) = .pointer (some ⟨p, 0, none⟩) := hfr 0 (by decide)
        clear hG hfr
        refine OpSays.value (v := .pointer (some ⟨p, 0, none⟩)) (w' := w1) ?_ ⟨hT1, Only.refl _ _, rfl⟩
        go_simp
      case op11 =>
        intro L ev w1 hLi hlate hearly hT1 hc hf hfr hG
        rw [if_pos (by decide)]
        have hP : p2Ph W2 p (pcells g rv S1.now) (L 20) (L 21) w1 := hT1
        obtain ⟨hl20, hl21, _⟩ := hlate
        rw [hl20] at hP
        rw [hl21] at hP
        have h9 : ev (.tmp 9) = .int .i64 0 := hfr 9 (by decide)
        clear hG hfr
        refine OpSays.value (v := .int .i64 0) (w' := w1) ?_ ⟨hT1, Only.refl _ _, rfl⟩
        go_simp
      case op12 =>
        intro L ev w1 hLi hlate hearly hT1 hc hf hfr hG
        rw [if_pos (by decide)]
        have hP : p2Ph W2 p (pcells g rv S1.now) (L 20) (L 21) w1 := hT1
        obtain ⟨hl20, hl21, _⟩ := hlate
        rw [hl20] at hP
        rw [hl21] at hP
        have hg : (ev (.tmp 98) = .pointer (some ⟨p, 0, none⟩)) ∧ True := hG
        obtain ⟨g10, _⟩ := hg
        clear hG hfr
        refine OpSays.value (v := .pointer (some ⟨p, 0, none⟩)) (w' := w1) ?_ ⟨hT1, Only.refl _ _, rfl⟩
        go_simp
      case op13 =>
        intro L ev w1 hLi hlate hearly hT1 hc hf hfr hG
        rw [if_pos (by decide)]
        have hP : p2Ph W2 p (pcells g rv S1.now) (L 20) (L 21) w1 := hT1
        obtain ⟨hl20, hl21, _⟩ := hlate
        rw [hl20] at hP
        rw [hl21] at hP
        have hg : (ev (.tmp 100) = .pointer (some ⟨p, 0, none⟩)) ∧ True := hG
        obtain ⟨g12, _⟩ := hg
        clear hG hfr
        refine OpSays.value (v := .pointer (some ⟨p, 0, none⟩)) (w' := w1) ?_ ⟨hT1, Only.refl _ _, rfl⟩
        go_simp
      case op14 =>
        intro L ev w1 hLi hlate hearly hT1 hc hf hfr hG
        rw [if_pos (by decide)]
        have hP : p2Ph W2 p (pcells g rv S1.now) (L 20) (L 21) w1 := hT1
        obtain ⟨hl20, hl21, _⟩ := hlate
        rw [hl20] at hP
        rw [hl21] at hP
        have hg : (ev (.tmp 99) = .int .i64 0) ∧ (ev (.tmp 101) = .pointer (some ⟨p, 0, none⟩)) ∧ True := hG
        obtain ⟨g11, g13, _⟩ := hg
        clear hG hfr
        refine OpSays.value (v := .pointer (some ⟨p, 0, none⟩)) (w' := w1) ?_ ⟨hT1, Only.refl _ _, rfl⟩
        go_simp
      case op15 =>
        intro L ev w1 hLi hlate hearly hT1 hc hf hfr hG
        rw [if_pos (by decide)]
        have hP : p2Ph W2 p (pcells g rv S1.now) (L 20) (L 21) w1 := hT1
        obtain ⟨hl20, hl21, _⟩ := hlate
        rw [hl20] at hP
        rw [hl21] at hP
        have hg : (ev (.tmp 102) = .pointer (some ⟨p, 0, none⟩)) ∧ True := hG
        obtain ⟨g14, _⟩ := hg
        clear hG hfr
        have c : w1.cell? ⟨p, 0, none⟩ = some (.pointer (some ⟨g 0, 0, none⟩)) := (blk_cell (hP.2.1 rfl) 0).trans rfl
        refine OpSays.value (v := .pointer (some ⟨g 0, 0, none⟩)) (w' := w1) ?_ ⟨hT1, Only.refl _ _, rfl⟩
        go_simp
      case op16 =>
        intro L ev w1 hLi hlate hearly hT1 hc hf hfr hG
        rw [if_pos (by decide)]
        have hP : p2Ph W2 p (pcells g rv S1.now) (L 20) (L 21) w1 := hT1
        obtain ⟨hl20, hl21, _⟩ := hlate
        rw [hl20] at hP
        rw [hl21] at hP
        have h0 : ev (.tmp 0) = .pointer (some ⟨p, 0, none⟩) := hfr 0 (by decide)
        clear hG hfr
        refine OpSays.value (v := .pointer (some ⟨p, 0, none⟩)) (w' := w1) ?_ ⟨hT1, Only.refl _ _, rfl⟩
        go_simp
      case op17 =>
        intro L ev w1 hLi hlate hearly hT1 hc hf hfr hG
        rw [if_pos (by decide)]
        have hP : p2Ph W2 p (pcells g rv S1.now) (L 20) (L 21) w1 := hT1
        obtain ⟨hl20, hl21, _⟩ := hlate
        rw [hl20] at hP
        rw [hl21] at hP
        have hg : (ev (.tmp 104) = .pointer (some ⟨p, 0, none⟩)) ∧ True := hG
        obtain ⟨g16, _⟩ := hg
        clear hG hfr
        refine OpSays.value (v := .pointer (some ⟨p, 0, none⟩)) (w' := w1) ?_ ⟨hT1, Only.refl _ _, rfl⟩
        go_simp
      case op18 =>
        intro L ev w1 hLi hlate hearly hT1 hc hf hfr hG
        rw [if_pos (by decide)]
        have hP : p2Ph W2 p (pcells g rv S1.now) (L 20) (L 21) w1 := hT1
        obtain ⟨hl20, hl21, _⟩ := hlate
        rw [hl20] at hP
        rw [hl21] at hP
        have hg : (ev (.tmp 105) = .pointer (some ⟨p, 0, none⟩)) ∧ True := hG
        obtain ⟨g17, _⟩ := hg
        clear hG hfr
        refine OpSays.value (v := .pointer (some ⟨p, 8, none⟩)) (w' := w1) ?_ ⟨hT1, Only.refl _ _, rfl⟩
        go_simp
      case op19 =>
        intro L ev w1 hLi hlate hearly hT1 hc hf hfr hG
        rw [if_pos (by decide)]
        have hP : p2Ph W2 p (pcells g rv S1.now) (L 20) (L 21) w1 := hT1
        obtain ⟨hl20, hl21, _⟩ := hlate
        rw [hl20] at hP
        rw [hl21] at hP
        have hg : (ev (.tmp 106) = .pointer (some ⟨p, 8, none⟩)) ∧ True := hG
        obtain ⟨g18, _⟩ := hg
        clear hG hfr
        have c : w1.cell? ⟨p, 8, none⟩ = some (.int .i64 S1.now) := (blk_cell (hP.2.1 rfl) 8).trans rfl
        refine OpSays.value (v := .int .i64 S1.now) (w' := w1) ?_ ⟨hT1, Only.refl _ _, rfl⟩
        go_simp
      case op20 =>
        intro L ev w1 hLi hlate hearly hT1 hc hf hfr hG
        rw [if_pos (by decide)]
        have hP : p2Ph W2 p (pcells g rv S1.now) (L 20) (L 21) w1 := hT1
        obtain ⟨hl21, _⟩ := hlate
        rw [hLi] at hP
        rw [hl21] at hP
        change OpSays _ _ _ _ (fun v w' => p2Ph W2 p (pcells g rv S1.now) (true) (L 21) w' ∧ _ ∧ _)
        rw [hl21]
        have hg : (ev (.tmp 103) = .pointer (some ⟨g 0, 0, none⟩)) ∧ (ev (.tmp 107) = .int .i64 S1.now) ∧ True := hG
        obtain ⟨g15, g19, _⟩ := hg
        clear hG hfr
        have hpa := HPA.out.keep (hP.1 rfl)
        refine OpSays.enter (f := 22) (args := #[.pointer (some ⟨g 0, 0, none⟩), .int .i64 S1.now]) (w' := w1) ?_ ?_
        · go_simp
        · refine (pair_tick hpa (by decide) HPI.out).mono ?_
          rintro e' w2 ⟨v, rfl, hrow, hpa2, hk⟩
          exact ⟨v, rfl, ⟨fun e => (by cases e), fun _ => hpa2.blk, Nat.le_trans hP.2.2 hk.size⟩, hk.mono (fun _ _ _ => .inl rfl), World.ownsRow.mono hrow (by have := hP.2.2; have := HBW.out; omega), fun b hb => by have := ((HPA.out.rows 1 (by decide) (by decide)).lt b hb).2; have := HBW.out; omega, fun _ => hpa2⟩
      case op21 =>
        intro L ev w1 hLi hlate hearly hT1 hc hf hfr hG
        rw [if_pos (by decide)]
        have hP : p2Ph W2 p (pcells g rv S1.now) (L 20) (L 21) w1 := hT1
        obtain ⟨he20, _⟩ := hearly
        rw [he20] at hP
        rw [hLi] at hP
        change OpSays _ _ _ _ (fun v w' => p2Ph W2 p (pcells g rv S1.now) (L 20) (true) w' ∧ _ ∧ _)
        rw [he20]
        have hg : (ev (.tmp 97) = rv 1) ∧ (w1.ownsRow B 9 1 (ev (.tmp 108)) ((S1.s 0).outs S1.now).length (((S1.s 0).outs S1.now).map Value.string) ∧ (∀ b, (rv 1).ownBlock = some b → b < B) ∧ (L 21 = false → PAt W w1 6 p g mo me rv { S1 with s := put S1.s 0 ((S1.s 0).ticks S1.now) })) ∧ True := hG
        obtain ⟨g9, g20, _⟩ := hg
        clear hG hfr
        obtain ⟨hrow, hlt, hpa⟩ := g20
        have hpa := hpa hLi
        obtain ⟨v2, w2, hr, h1, h2, h3⟩ := append_texts w1 43 W.heap.size _ _ (S1.L 1) ((S1.s 0).outs S1.now) (hpa.rows 1 (by decide) (by decide)) (row_src hrow) hpa.only.size (by have := HLN.out 1 (by decide); have := HOL.out; omega)
        refine OpSays.value (v := v2) (w' := w2) ?_ ⟨⟨fun e => (by cases e), fun e => (by cases e), Nat.le_trans hP.2.2 (Only.of_grown h2).size⟩, (Only.of_grown h2).mono (fun _ _ e => .inr ⟨rfl, e⟩), h1, fun b hb => (h3 b hb).imp id (fun h => by have := hP.2.2; have := HBW.out; omega), (by first | rfl | exact he20 | simp [upd, he20]), hpa.grown (by decide) h2⟩
        unfold execOp
        simp only [resolve, invoke, builtin, Sem.run_bind, Sem.run_pure, Result.andThen_ok, List.map_toArray, List.map_cons, List.map_nil, g9, hr]
      case op22 =>
        intro L ev w1 hLi hlate hearly hT1 hc hf hfr hG
        rw [if_pos (by decide)]
        have hP : p2Ph W2 p (pcells g rv S1.now) (L 20) (L 21) w1 := hT1
        have hg : (ev (.tmp 88) = .pointer (some ⟨p, 0, none⟩)) ∧ True := hG
        obtain ⟨g0, _⟩ := hg
        clear hG hfr
        refine OpSays.value (v := .pointer (some ⟨p, 0, none⟩)) (w' := w1) ?_ ⟨hT1, Only.refl _ _, rfl⟩
        go_simp
      case op23 =>
        intro L ev w1 hLi hlate hearly hT1 hc hf hfr hG
        rw [if_pos (by decide)]
        have hP : p2Ph W2 p (pcells g rv S1.now) (L 20) (L 21) w1 := hT1
        have hg : (ev (.tmp 110) = .pointer (some ⟨p, 0, none⟩)) ∧ True := hG
        obtain ⟨g22, _⟩ := hg
        clear hG hfr
        refine OpSays.value (v := .pointer (some ⟨p, 2, none⟩)) (w' := w1) ?_ ⟨hT1, Only.refl _ _, rfl⟩
        go_simp
      case op24 =>
        intro L ev w1 hLi hlate hearly hT1 hc hf hfr hG
        rw [if_pos (by decide)]
        have hP : p2Ph W2 p (pcells g rv S1.now) (L 20) (L 21) w1 := hT1
        have hg : (ev (.tmp 90) = .int .i64 1) ∧ (ev (.tmp 111) = .pointer (some ⟨p, 2, none⟩)) ∧ True := hG
        obtain ⟨g2, g23, _⟩ := hg
        clear hG hfr
        refine OpSays.value (v := .pointer (some ⟨p, 3, none⟩)) (w' := w1) ?_ ⟨hT1, Only.refl _ _, rfl⟩
        go_simp
    rintro L ⟨tm, df⟩ w3 hL hT1 hsz hdf hfr hG
    have hPE : p2Ph W2 p (pcells g rv S1.now) (true) (true) w3 := by
      have hP : p2Ph W2 p (pcells g rv S1.now) (L 20) (L 21) w3 := hT1
      have hm := fun k (hk : k ∈ List.range 25) => AllB.get hL k hk
      rw [hm 20 (by decide)] at hP
      rw [hm 21 (by decide)] at hP
      exact hP
    clear hT1 hL
    have k0 : tm.getD 0 undef = .pointer (some ⟨p, 0, none⟩) := hfr 0 (by decide)
    have k3 : tm.getD 3 undef = .pointer (some ⟨q, 0, none⟩) := hfr 3 (by decide)
    have k9 : tm.getD 9 undef = .int .i64 0 := hfr 9 (by decide)
    have k85 : tm.getD 85 undef = .int .i64 0 := hfr 85 (by decide)
    have k112 : tm.getD 112 undef = .pointer (some ⟨p, 3, none⟩) := AllG.get hG 24 (by decide)
    obtain ⟨hrow, hob, _, hpx⟩ : w3.ownsRow W.heap.size 9 1 (tm.getD 109 undef) (S1.L 1 ++ (S1.s 0).outs S1.now).length ((S1.L 1 ++ (S1.s 0).outs S1.now).map Value.string) ∧ (∀ b, (tm.getD 109 undef).ownBlock = some b → (rv 1).ownBlock = some b ∨ B ≤ b) ∧ _ ∧ PAt W w3 1 p g mo me rv { S1 with s := put S1.s 0 ((S1.s 0).ticks S1.now) } := AllG.get hG 21 (by decide)
    have he : tm = #[tm.getD 0 undef, tm.getD 1 undef, tm.getD 2 undef, tm.getD 3 undef, tm.getD 4 undef, tm.getD 5 undef, tm.getD 6 undef, tm.getD 7 undef, tm.getD 8 undef, tm.getD 9 undef, tm.getD 10 undef, tm.getD 11 undef, tm.getD 12 undef, tm.getD 13 undef, tm.getD 14 undef, tm.getD 15 undef, tm.getD 16 undef, tm.getD 17 undef, tm.getD 18 undef, tm.getD 19 undef, tm.getD 20 undef, tm.getD 21 undef, tm.getD 22 undef, tm.getD 23 undef, tm.getD 24 undef, tm.getD 25 undef, tm.getD 26 undef, tm.getD 27 undef, tm.getD 28 undef, tm.getD 29 undef, tm.getD 30 undef, tm.getD 31 undef, tm.getD 32 undef, tm.getD 33 undef, tm.getD 34 undef, tm.getD 35 undef, tm.getD 36 undef, tm.getD 37 undef, tm.getD 38 undef, tm.getD 39 undef, tm.getD 40 undef, tm.getD 41 undef, tm.getD 42 undef, tm.getD 43 undef, tm.getD 44 undef, tm.getD 45 undef, tm.getD 46 undef, tm.getD 47 undef, tm.getD 48 undef, tm.getD 49 undef, tm.getD 50 undef, tm.getD 51 undef, tm.getD 52 undef, tm.getD 53 undef, tm.getD 54 undef, tm.getD 55 undef, tm.getD 56 undef, tm.getD 57 undef, tm.getD 58 undef, tm.getD 59 undef, tm.getD 60 undef, tm.getD 61 undef, tm.getD 62 undef, tm.getD 63 undef, tm.getD 64 undef, tm.getD 65 undef, tm.getD 66 undef, tm.getD 67 undef, tm.getD 68 undef, tm.getD 69 undef, tm.getD 70 undef, tm.getD 71 undef, tm.getD 72 undef, tm.getD 73 undef, tm.getD 74 undef, tm.getD 75 undef, tm.getD 76 undef, tm.getD 77 undef, tm.getD 78 undef, tm.getD 79 undef, tm.getD 80 undef, tm.getD 81 undef, tm.getD 82 undef, tm.getD 83 undef, tm.getD 84 undef, tm.getD 85 undef, tm.getD 86 undef, tm.getD 87 undef, tm.getD 88 undef, tm.getD 89 undef, tm.getD 90 undef, tm.getD 91 undef, tm.getD 92 undef, tm.getD 93 undef, tm.getD 94 undef, tm.getD 95 undef, tm.getD 96 undef, tm.getD 97 undef, tm.getD 98 undef, tm.getD 99 undef, tm.getD 100 undef, tm.getD 101 undef, tm.getD 102 undef, tm.getD 103 undef, tm.getD 104 undef, tm.getD 105 undef, tm.getD 106 undef, tm.getD 107 undef, tm.getD 108 undef, tm.getD 109 undef, tm.getD 110 undef, tm.getD 111 undef, tm.getD 112 undef, tm.getD 113 undef, tm.getD 114 undef, tm.getD 115 undef, tm.getD 116 undef, tm.getD 117 undef, tm.getD 118 undef, tm.getD 119 undef, tm.getD 120 undef, tm.getD 121 undef, tm.getD 122 undef, tm.getD 123 undef, tm.getD 124 undef, tm.getD 125 undef, tm.getD 126 undef, tm.getD 127 undef, tm.getD 128 undef, tm.getD 129 undef, tm.getD 130 undef, tm.getD 131 undef, tm.getD 132 undef, tm.getD 133 undef, tm.getD 134 undef, tm.getD 135 undef, tm.getD 136 undef, tm.getD 137 undef, tm.getD 138 undef, tm.getD 139 undef, tm.getD 140 undef, tm.getD 141 undef, tm.getD 142 undef, tm.getD 143 undef, tm.getD 144 undef, tm.getD 145 undef, tm.getD 146 undef, tm.getD 147 undef, tm.getD 148 undef, tm.getD 149 undef, tm.getD 150 undef, tm.getD 151 undef, tm.getD 152 undef, tm.getD 153 undef, tm.getD 154 undef, tm.getD 155 undef, tm.getD 156 undef, tm.getD 157 undef, tm.getD 158 undef, tm.getD 159 undef, tm.getD 160 undef, tm.getD 161 undef, tm.getD 162 undef, tm.getD 163 undef, tm.getD 164 undef, tm.getD 165 undef, tm.getD 166 undef, tm.getD 167 undef, tm.getD 168 undef, tm.getD 169 undef, tm.getD 170 undef, tm.getD 171 undef, tm.getD 172 undef, tm.getD 173 undef, tm.getD 174 undef, tm.getD 175 undef, tm.getD 176 undef, tm.getD 177 undef, tm.getD 178 undef, tm.getD 179 undef, tm.getD 180 undef, tm.getD 181 undef, tm.getD 182 undef, tm.getD 183 undef, tm.getD 184 undef, tm.getD 185 undef, tm.getD 186 undef, tm.getD 187 undef, tm.getD 188 undef, tm.getD 189 undef, tm.getD 190 undef, tm.getD 191 undef, tm.getD 192 undef, tm.getD 193 undef, tm.getD 194 undef, tm.getD 195 undef, tm.getD 196 undef, tm.getD 197 undef, tm.getD 198 undef, tm.getD 199 undef, tm.getD 200 undef, tm.getD 201 undef, tm.getD 202 undef, tm.getD 203 undef, tm.getD 204 undef, tm.getD 205 undef, tm.getD 206 undef, tm.getD 207 undef, tm.getD 208 undef, tm.getD 209 undef, tm.getD 210 undef, tm.getD 211 undef, tm.getD 212 undef, tm.getD 213 undef, tm.getD 214 undef, tm.getD 215 undef, tm.getD 216 undef] := arr_eta (n := 217) hsz
    replace hdf : df = [] := hdf
    subst hdf
    clear hsz hfr hG
    rw [he, k0, k3, k9, k85, k112]
    clear he k0 k3 k9 k85 k112
    generalize tm.getD 1 undef = x1
    generalize tm.getD 2 undef = x2
    generalize tm.getD 4 undef = x4
    generalize tm.getD 5 undef = x5
    generalize tm.getD 6 undef = x6
    generalize tm.getD 7 undef = x7
    generalize tm.getD 8 undef = x8
    generalize tm.getD 10 undef = x10
    generalize tm.getD 11 undef = x11
    generalize tm.getD 12 undef = x12
    generalize tm.getD 13 undef = x13
    generalize tm.getD 14 undef = x14
    generalize tm.getD 15 undef = x15
    generalize tm.getD 16 undef = x16
    generalize tm.getD 17 undef = x17
    generalize tm.getD 18 undef = x18
    generalize tm.getD 19 undef = x19
    generalize tm.getD 20 undef = x20
    generalize tm.getD 21 undef = x21
    generalize tm.getD 22 undef = x22
    generalize tm.getD 23 undef = x23
    generalize tm.getD 24 undef = x24
    generalize tm.getD 25 undef = x25
    generalize tm.getD 26 undef = x26
    generalize tm.getD 27 undef = x27
    generalize tm.getD 28 undef = x28
    generalize tm.getD 29 undef = x29
    generalize tm.getD 30 undef = x30
    generalize tm.getD 31 undef = x31
    generalize tm.getD 32 undef = x32
    generalize tm.getD 33 undef = x33
    generalize tm.getD 34 undef = x34
    generalize tm.getD 35 undef = x35
    generalize tm.getD 36 undef = x36
    generalize tm.getD 37 undef = x37
    generalize tm.getD 38 undef = x38
    generalize tm.getD 39 undef = x39
    generalize tm.getD 40 undef = x40
    generalize tm.getD 41 undef = x41
    generalize tm.getD 42 undef = x42
    generalize tm.getD 43 undef = x43
    generalize tm.getD 44 undef = x44
    generalize tm.getD 45 undef = x45
    generalize tm.getD 46 undef = x46
    generalize tm.getD 47 undef = x47
    generalize tm.getD 48 undef = x48
    generalize tm.getD 49 undef = x49
    generalize tm.getD 50 undef = x50
    generalize tm.getD 51 undef = x51
    generalize tm.getD 52 undef = x52
    generalize tm.getD 53 undef = x53
    generalize tm.getD 54 undef = x54
    generalize tm.getD 55 undef = x55
    generalize tm.getD 56 undef = x56
    generalize tm.getD 57 undef = x57
    generalize tm.getD 58 undef = x58
    generalize tm.getD 59 undef = x59
    generalize tm.getD 60 undef = x60
    generalize tm.getD 61 undef = x61
    generalize tm.getD 62 undef = x62
    generalize tm.getD 63 undef = x63
    generalize tm.getD 64 undef = x64
    generalize tm.getD 65 undef = x65
    generalize tm.getD 66 undef = x66
    generalize tm.getD 67 undef = x67
    generalize tm.getD 68 undef = x68
    generalize tm.getD 69 undef = x69
    generalize tm.getD 70 undef = x70
    generalize tm.getD 71 undef = x71
    generalize tm.getD 72 undef = x72
    generalize tm.getD 73 undef = x73
    generalize tm.getD 74 undef = x74
    generalize tm.getD 75 undef = x75
    generalize tm.getD 76 undef = x76
    generalize tm.getD 77 undef = x77
    generalize tm.getD 78 undef = x78
    generalize tm.getD 79 undef = x79
    generalize tm.getD 80 undef = x80
    generalize tm.getD 81 undef = x81
    generalize tm.getD 82 undef = x82
    generalize tm.getD 83 undef = x83
    generalize tm.getD 84 undef = x84
    generalize tm.getD 86 undef = x86
    generalize tm.getD 87 undef = x87
    generalize tm.getD 88 undef = x88
    generalize tm.getD 89 undef = x89
    generalize tm.getD 90 undef = x90
    generalize tm.getD 91 undef = x91
    generalize tm.getD 92 undef = x92
    generalize tm.getD 93 undef = x93
    generalize tm.getD 94 undef = x94
    generalize tm.getD 95 undef = x95
    generalize tm.getD 96 undef = x96
    generalize tm.getD 97 undef = x97
    generalize tm.getD 98 undef = x98
    generalize tm.getD 99 undef = x99
    generalize tm.getD 100 undef = x100
    generalize tm.getD 101 undef = x101
    generalize tm.getD 102 undef = x102
    generalize tm.getD 103 undef = x103
    generalize tm.getD 104 undef = x104
    generalize tm.getD 105 undef = x105
    generalize tm.getD 106 undef = x106
    generalize tm.getD 107 undef = x107
    generalize tm.getD 108 undef = x108
    generalize tm.getD 109 undef = vw at hrow hob ⊢
    generalize tm.getD 110 undef = x110
    generalize tm.getD 111 undef = x111
    generalize tm.getD 113 undef = x113
    generalize tm.getD 114 undef = x114
    generalize tm.getD 115 undef = x115
    generalize tm.getD 116 undef = x116
    generalize tm.getD 117 undef = x117
    generalize tm.getD 118 undef = x118
    generalize tm.getD 119 undef = x119
    generalize tm.getD 120 undef = x120
    generalize tm.getD 121 undef = x121
    generalize tm.getD 122 undef = x122
    generalize tm.getD 123 undef = x123
    generalize tm.getD 124 undef = x124
    generalize tm.getD 125 undef = x125
    generalize tm.getD 126 undef = x126
    generalize tm.getD 127 undef = x127
    generalize tm.getD 128 undef = x128
    generalize tm.getD 129 undef = x129
    generalize tm.getD 130 undef = x130
    generalize tm.getD 131 undef = x131
    generalize tm.getD 132 undef = x132
    generalize tm.getD 133 undef = x133
    generalize tm.getD 134 undef = x134
    generalize tm.getD 135 undef = x135
    generalize tm.getD 136 undef = x136
    generalize tm.getD 137 undef = x137
    generalize tm.getD 138 undef = x138
    generalize tm.getD 139 undef = x139
    generalize tm.getD 140 undef = x140
    generalize tm.getD 141 undef = x141
    generalize tm.getD 142 undef = x142
    generalize tm.getD 143 undef = x143
    generalize tm.getD 144 undef = x144
    generalize tm.getD 145 undef = x145
    generalize tm.getD 146 undef = x146
    generalize tm.getD 147 undef = x147
    generalize tm.getD 148 undef = x148
    generalize tm.getD 149 undef = x149
    generalize tm.getD 150 undef = x150
    generalize tm.getD 151 undef = x151
    generalize tm.getD 152 undef = x152
    generalize tm.getD 153 undef = x153
    generalize tm.getD 154 undef = x154
    generalize tm.getD 155 undef = x155
    generalize tm.getD 156 undef = x156
    generalize tm.getD 157 undef = x157
    generalize tm.getD 158 undef = x158
    generalize tm.getD 159 undef = x159
    generalize tm.getD 160 undef = x160
    generalize tm.getD 161 undef = x161
    generalize tm.getD 162 undef = x162
    generalize tm.getD 163 undef = x163
    generalize tm.getD 164 undef = x164
    generalize tm.getD 165 undef = x165
    generalize tm.getD 166 undef = x166
    generalize tm.getD 167 undef = x167
    generalize tm.getD 168 undef = x168
    generalize tm.getD 169 undef = x169
    generalize tm.getD 170 undef = x170
    generalize tm.getD 171 undef = x171
    generalize tm.getD 172 undef = x172
    generalize tm.getD 173 undef = x173
    generalize tm.getD 174 undef = x174
    generalize tm.getD 175 undef = x175
    generalize tm.getD 176 undef = x176
    generalize tm.getD 177 undef = x177
    generalize tm.getD 178 undef = x178
    generalize tm.getD 179 undef = x179
    generalize tm.getD 180 undef = x180
    generalize tm.getD 181 undef = x181
    generalize tm.getD 182 undef = x182
    generalize tm.getD 183 undef = x183
    generalize tm.getD 184 undef = x184
    generalize tm.getD 185 undef = x185
    generalize tm.getD 186 undef = x186
    generalize tm.getD 187 undef = x187
    generalize tm.getD 188 undef = x188
    generalize tm.getD 189 undef = x189
    generalize tm.getD 190 undef = x190
    generalize tm.getD 191 undef = x191
    generalize tm.getD 192 undef = x192
    generalize tm.getD 193 undef = x193
    generalize tm.getD 194 undef = x194
    generalize tm.getD 195 undef = x195
    generalize tm.getD 196 undef = x196
    generalize tm.getD 197 undef = x197
    generalize tm.getD 198 undef = x198
    generalize tm.getD 199 undef = x199
    generalize tm.getD 200 undef = x200
    generalize tm.getD 201 undef = x201
    generalize tm.getD 202 undef = x202
    generalize tm.getD 203 undef = x203
    generalize tm.getD 204 undef = x204
    generalize tm.getD 205 undef = x205
    generalize tm.getD 206 undef = x206
    generalize tm.getD 207 undef = x207
    generalize tm.getD 208 undef = x208
    generalize tm.getD 209 undef = x209
    generalize tm.getD 210 undef = x210
    generalize tm.getD 211 undef = x211
    generalize tm.getD 212 undef = x212
    generalize tm.getD 213 undef = x213
    generalize tm.getD 214 undef = x214
    generalize tm.getD 215 undef = x215
    generalize tm.getD 216 undef = x216
    simp only [List.drop_succ_cons, List.drop_zero]
    clear hPE HT HPA
    obtain ⟨aw, cw, ew, _, _⟩ := row_texts hrow
    have x2 := (blk_cell hpx.blk 3).trans (show (pcells g rv S1.now)[3]? = some (rv 1) from rfl)
    have f2 := blk_free hpx.blk 3
    have hst := hp0.app HBW.out hpx (by decide) hrow hob
    clear hrow hob hpx hp0 HBW B
    obtain ⟨nw, hnw⟩ : ∃ n, n = (S1.L 1 ++ (S1.s 0).outs S1.now).length := ⟨_, rfl⟩
    rw [← hnw] at ew
    clear hnw
    subst ew
    simp only [Nat.reduceAdd] at hst
    obtain ⟨rv2, hrv2⟩ : ∃ rv2, rv2 = put rv 1 (.slice aw nw cw) := ⟨_, rfl⟩
    obtain ⟨S2, hS2⟩ : ∃ S2 : PS, S2 = { S1 with s := put S1.s 0 ((S1.s 0).ticks S1.now), L := put S1.L 1 (S1.L 1 ++ (S1.s 0).outs S1.now) } := ⟨_, rfl⟩
    replace hst : PAt W (w3.setCell ⟨p, 3, none⟩ (.slice aw nw cw)) 6 p g mo me rv2 S2 := by rw [hrv2, hS2]; exact hst
    have HS2 := Lib.hid hS2
    have HST := Lib.hid hst
    clear hrv2 hS2 hst
    go_wp2_with fail
    rw [rounds_succ]
    generalize w3.setCell ⟨p, 3, none⟩ (.slice aw nw cw) = W3 at HST ⊢
    clear x2 f2
    have HLN2 : Hid (∀ i, i < 6 → (S2.L i).length ≤ 30000) := Lib.hid (fun i hi => by
      have h1 := HLN.out i hi
      rw [HS2.out]
      show (put S1.L 1 (S1.L 1 ++ (S1.s 0).outs S1.now) i).length ≤ _
      unfold put
      split
      · have := HLN.out 1 (by decide)
        have := HOL.out
        rw [List.length_append]
        omega
      · omega)
    have HPI2 : Hid (PInv (S2.s 1) 300) := Lib.hid (by rw [HS2.out, HS1.out]; exact HV.out.p (k := 1) (by decide))
    clear HLN HPI HOL
    have HLN := HLN2
    have HPI := HPI2
    clear HLN2 HPI2
    have HOL : Hid (((S2.s 1).outs S2.now).length ≤ 65) := Lib.hid (outs_le HPI.out _)
    have HPA := HST
    have hp0 := HST.out
    have HT : Hid (p2Ph W3 p (pcells g rv2 S2.now) false false W3.drew) := Lib.hid ⟨fun _ => (Only.refl _ W3).drew, fun _ => hp0.blk, Nat.le_refl _⟩
    obtain ⟨B, hB⟩ : ∃ B, B = W3.heap.size := ⟨_, rfl⟩
    have HBW : Hid (W3.heap.size = B) := Lib.hid hB.symm
    clear hB HST
    go_upto_region 15 with fail
    refine wp_region_phasedk_tail 25 etyDs etyNeed etyGs etyLate etyEarly (fun L w' => p2Ph W3 p (pcells g rv2 S2.now) (L 20) (L 21) w') (fun i w w' => Only (p2St 20 21 (rv2 0) i) w w') (etyG W B p q g mo me rv2 S2 kd nn tx sec) rfl rfl (by kernel_rfl) (by kernel_rfl) (by kernel_rfl) (by kernel_rfl) (by kernel_rfl) (by kernel_rfl) HT.out etyG.keep etyG.guard (fun _ _ => Only.refl _ _) ?_ ?_
    · refine And.intro ?op0 (And.intro ?op1 (And.intro ?op2 (And.intro ?op3 (And.intro ?op4 (And.intro ?op5 (And.intro ?op6 (And.intro ?op7 (And.intro ?op8 (And.intro ?op9 (And.intro ?op10 (And.intro ?op11 (And.intro ?op12 (And.intro ?op13 (And.intro ?op14 (And.intro ?op15 (And.intro ?op16 (And.intro ?op17 (And.intro ?op18 (And.intro ?op19 (And.intro ?op20 (And.intro ?op21 (And.intro ?op22 (And.intro ?op23 (And.intro ?op24 trivial))))))))))))))))))))))))
      case op0 =>
        intro L ev w1 hLi hlate hearly hT1 hc hf hfr hG
        rw [if_pos (by decide)]
        have hP : p2Ph W3 p (pcells g rv2 S2.now) (L 20) (L 21) w1 := hT1
        have h0 : ev (.tmp 0) = .pointer (some ⟨p, 0, none⟩) := hfr 0 (by decide)
        clear hG hfr
        refine OpSays.value (v := .pointer (some ⟨p, 0, none⟩)) (w' := w1) ?_ ⟨hT1, Only.refl _ _, rfl⟩
        go_simp
      case op1 =>
        intro L ev w1 hLi hlate hearly hT1 hc hf hfr hG
        rw [if_pos (by decide)]
        have hP : p2Ph W3 p (pcells g rv2 S2.now) (L 20) (L 21) w1 := hT1
        have h9 : ev (.tmp 9) = .int .i64 1 := hfr 9 (by decide)
        clear hG hfr
        refine OpSays.value (v := .int .i64 1) (w' := w1) ?_ ⟨hT1, Only.refl _ _, rfl⟩
        go_simp
      case op2 =>
        intro L ev w1 hLi hlate hearly hT1 hc hf hfr hG
        rw [if_pos (by decide)]
        have hP : p2Ph W3 p (pcells g rv2 S2.now) (L 20) (L 21) w1 := hT1
        have hg : (ev (.tmp 89) = .int .i64 1) ∧ True := hG
        obtain ⟨g1, _⟩ := hg
        clear hG hfr
        have hw1 : IntKind.i64.wrap 1 = 1 := by decide
        have hw0 : IntKind.i64.wrap 0 = 0 := by decide
        refine OpSays.value (v := .int .i64 0) (w' := w1) ?_ ⟨hT1, Only.refl _ _, rfl⟩
        go_simp
      case op3 =>
        intro L ev w1 hLi hlate hearly hT1 hc hf hfr hG
        rw [if_pos (by decide)]
        have hP : p2Ph W3 p (pcells g rv2 S2.now) (L 20) (L 21) w1 := hT1
        obtain ⟨hl21, _⟩ := hlate
        rw [hl21] at hP
        have h0 : ev (.tmp 0) = .pointer (some ⟨p, 0, none⟩) := hfr 0 (by decide)
        clear hG hfr
        refine OpSays.value (v := .pointer (some ⟨p, 0, none⟩)) (w' := w1) ?_ ⟨hT1, Only.refl _ _, rfl⟩
        go_simp
      case op4 =>
        intro L ev w1 hLi hlate hearly hT1 hc hf hfr hG
        rw [if_pos (by decide)]
        have hP : p2Ph W3 p (pcells g rv2 S2.now) (L 20) (L 21) w1 := hT1
        obtain ⟨hl21, _⟩ := hlate
        rw [hl21] at hP
        have h9 : ev (.tmp 9) = .int .i64 1 := hfr 9 (by decide)
        clear hG hfr
        refine OpSays.value (v := .int .i64 1) (w' := w1) ?_ ⟨hT1, Only.refl _ _, rfl⟩
        go_simp
      case op5 =>
        intro L ev w1 hLi hlate hearly hT1 hc hf hfr hG
        rw [if_pos (by decide)]
        have hP : p2Ph W3 p (pcells g rv2 S2.now) (L 20) (L 21) w1 := hT1
        obtain ⟨hl21, _⟩ := hlate
        rw [hl21] at hP
        have hg : (ev (.tmp 92) = .int .i64 1) ∧ True := hG
        obtain ⟨g4, _⟩ := hg
        clear hG hfr
        have hw1 : IntKind.i64.wrap 1 = 1 := by decide
        have hw0 : IntKind.i64.wrap 0 = 0 := by decide
        refine OpSays.value (v := .int .i64 0) (w' := w1) ?_ ⟨hT1, Only.refl _ _, rfl⟩
        go_simp
      case op6 =>
        intro L ev w1 hLi hlate hearly hT1 hc hf hfr hG
        rw [if_pos (by decide)]
        have hP : p2Ph W3 p (pcells g rv2 S2.now) (L 20) (L 21) w1 := hT1
        obtain ⟨hl21, _⟩ := hlate
        rw [hl21] at hP
        have hg : (ev (.tmp 91) = .pointer (some ⟨p, 0, none⟩)) ∧ True := hG
        obtain ⟨g3, _⟩ := hg
        clear hG hfr
        refine OpSays.value (v := .pointer (some ⟨p, 0, none⟩)) (w' := w1) ?_ ⟨hT1, Only.refl _ _, rfl⟩
        go_simp
      case op7 =>
        intro L ev w1 hLi hlate hearly hT1 hc hf hfr hG
        rw [if_pos (by decide)]
        have hP : p2Ph W3 p (pcells g rv2 S2.now) (L 20) (L 21) w1 := hT1
        obtain ⟨hl21, _⟩ := hlate
        rw [hl21] at hP
        have hg : (ev (.tmp 94) = .pointer (some ⟨p, 0, none⟩)) ∧ True := hG
        obtain ⟨g6, _⟩ := hg
        clear hG hfr
        refine OpSays.value (v := .pointer (some ⟨p, 2, none⟩)) (w' := w1) ?_ ⟨hT1, Only.refl _ _, rfl⟩
        go_simp
      case op8 =>
        intro L ev w1 hLi hlate hearly hT1 hc hf hfr hG
        rw [if_pos (by decide)]
        have hP : p2Ph W3 p (pcells g rv2 S2.now) (L 20) (L 21) w1 := hT1
        obtain ⟨hl21, _⟩ := hlate
        rw [hl21] at hP
        have hg : (ev (.tmp 93) = .int .i64 0) ∧ (ev (.tmp 95) = .pointer (some ⟨p, 2, none⟩)) ∧ True := hG
        obtain ⟨g5, g7, _⟩ := hg
        clear hG hfr
        refine OpSays.value (v := .pointer (some ⟨p, 2, none⟩)) (w' := w1) ?_ ⟨hT1, Only.refl _ _, rfl⟩
        go_simp
      case op9 =>
        intro L ev w1 hLi hlate hearly hT1 hc hf hfr hG
        rw [if_pos (by decide)]
        have hP : p2Ph W3 p (pcells g rv2 S2.now) (L 20) (L 21) w1 := hT1
        obtain ⟨hl21, _⟩ := hlate
        rw [hl21] at hP
        have hg : (ev (.tmp 96) = .pointer (some ⟨p, 2, none⟩)) ∧ True := hG
        obtain ⟨g8, _⟩ := hg
        clear hG hfr
        have c : w1.cell? ⟨p, 2, none⟩ = some (rv2 0) := (blk_cell (hP.2.1 rfl) 2).trans rfl
        refine OpSays.value (v := rv2 0) (w' := w1) ?_ ⟨hT1, Only.refl _ _, rfl⟩
        go_simp
      case op10 =>
        intro L ev w1 hLi hlate hearly hT1 hc hf hfr hG
        rw [if_pos (by decide)]
        have hP : p2Ph W3 p (pcells g rv2 S2.now) (L 20) (L 21) w1 := hT1
        obtain ⟨hl20, hl21, _⟩ := hlate
        rw [hl20] at hP
        rw [hl21] at hP
        have h0 : ev (.tmp 0) = .pointer (some ⟨p, 0, none⟩) := hfr 0 (by decide)
        clear hG hfr
        refine OpSays.value (v := .pointer (some ⟨p, 0, none⟩)) (w' := w1) ?_ ⟨hT1, Only.refl _ _, rfl⟩
        go_simp
      case op11 =>
        intro L ev w1 hLi hlate hearly hT1 hc hf hfr hG
        rw [if_pos (by decide)]
        have hP : p2Ph W3 p (pcells g rv2 S2.now) (L 20) (L 21) w1 := hT1
        obtain ⟨hl20, hl21, _⟩ := hlate
        rw [hl20] at hP
        rw [hl21] at hP
        have h9 : ev (.tmp 9) = .int .i64 1 := hfr 9 (by decide)
        clear hG hfr
        refine OpSays.value (v := .int .i64 1) (w' := w1) ?_ ⟨hT1, Only.refl _ _, rfl⟩
        go_simp
      case op12 =>
        intro L ev w1 hLi hlate hearly hT1 hc hf hfr hG
        rw [if_pos (by decide)]
        have hP : p2Ph W3 p (pcells g rv2 S2.now) (L 20) (L 21) w1 := hT1
        obtain ⟨hl20, hl21, _⟩ := hlate
        rw [hl20] at hP
        rw [hl21] at hP
        have hg : (ev (.tmp 98) = .pointer (some ⟨p, 0, none⟩)) ∧ True := hG
        obtain ⟨g10, _⟩ := hg
        clear hG hfr
        refine OpSays.value (v := .pointer (some ⟨p, 0, none⟩)) (w' := w1) ?_ ⟨hT1, Only.refl _ _, rfl⟩
        go_simp
      case op13 =>
        intro L ev w1 hLi hlate hearly hT1 hc hf hfr hG
        rw [if_pos (by decide)]
        have hP : p2Ph W3 p (pcells g rv2 S2.now) (L 20) (L 21) w1 := hT1
        obtain ⟨hl20, hl21, _⟩ := hlate
        rw [hl20] at hP
        rw [hl21] at hP
        have hg : (ev (.tmp 100) = .pointer (some ⟨p, 0, none⟩)) ∧ True := hG
        obtain ⟨g12, _⟩ := hg
        clear hG hfr
        refine OpSays.value (v := .pointer (some ⟨p, 0, none⟩)) (w' := w1) ?_ ⟨hT1, Only.refl _ _, rfl⟩
        go_simp
      case op14 =>
        intro L ev w1 hLi hlate hearly hT1 hc hf hfr hG
        rw [if_pos (by decide)]
        have hP : p2Ph W3 p (pcells g rv2 S2.now) (L 20) (L 21) w1 := hT1
        obtain ⟨hl20, hl21, _⟩ := hlate
        rw [hl20] at hP
        rw [hl21] at hP
        have hg : (ev (.tmp 99) = .int .i64 1) ∧ (ev (.tmp 101) = .pointer (some ⟨p, 0, none⟩)) ∧ True := hG
        obtain ⟨g11, g13, _⟩ := hg
        clear hG hfr
        refine OpSays.value (v := .pointer (some ⟨p, 1, none⟩)) (w' := w1) ?_ ⟨hT1, Only.refl _ _, rfl⟩
        go_simp
      case op15 =>
        intro L ev w1 hLi hlate hearly hT1 hc hf hfr hG
        rw [if_pos (by decide)]
        have hP : p2Ph W3 p (pcells g rv2 S2.now) (L 20) (L 21) w1 := hT1
        obtain ⟨hl20, hl21, _⟩ := hlate
        rw [hl20] at hP
        rw [hl21] at hP
        have hg : (ev (.tmp 102) = .pointer (some ⟨p, 1, none⟩)) ∧ True := hG
        obtain ⟨g14, _⟩ := hg
        clear hG hfr
        have c : w1.cell? ⟨p, 1, none⟩ = some (.pointer (some ⟨g 1, 0, none⟩)) := (blk_cell (hP.2.1 rfl) 1).trans rfl
        refine OpSays.value (v := .pointer (some ⟨g 1, 0, none⟩)) (w' := w1) ?_ ⟨hT1, Only.refl _ _, rfl⟩
        go_simp
      case op16 =>
        intro L ev w1 hLi hlate hearly hT1 hc hf hfr hG
        rw [if_pos (by decide)]
        have hP : p2Ph W3 p (pcells g rv2 S2.now) (L 20) (L 21) w1 := hT1
        obtain ⟨hl20, hl21, _⟩ := hlate
        rw [hl20] at hP
        rw [hl21] at hP
        have h0 : ev (.tmp 0) = .pointer (some ⟨p, 0, none⟩) := hfr 0 (by decide)
        clear hG hfr
        refine OpSays.value (v := .pointer (some ⟨p, 0, none⟩)) (w' := w1) ?_ ⟨hT1, Only.refl _ _, rfl⟩
        go_simp
      case op17 =>
        intro L ev w1 hLi hlate hearly hT1 hc hf hfr hG
        rw [if_pos (by decide)]
        have hP : p2Ph W3 p (pcells g rv2 S2.now) (L 20) (L 21) w1 := hT1
        obtain ⟨hl20, hl21, _⟩ := hlate
        rw [hl20] at hP
        rw [hl21] at hP
        have hg : (ev (.tmp 104) = .pointer (some ⟨p, 0, none⟩)) ∧ True := hG
        obtain ⟨g16, _⟩ := hg
        clear hG hfr
        refine OpSays.value (v := .pointer (some ⟨p, 0, none⟩)) (w' := w1) ?_ ⟨hT1, Only.refl _ _, rfl⟩
        go_simp
      case op18 =>
        intro L ev w1 hLi hlate hearly hT1 hc hf hfr hG
        rw [if_pos (by decide)]
        have hP : p2Ph W3 p (pcells g rv2 S2.now) (L 20) (L 21) w1 := hT1
        obtain ⟨hl20, hl21, _⟩ := hlate
        rw [hl20] at hP
        rw [hl21] at hP
        have hg : (ev (.tmp 105) = .pointer (some ⟨p, 0, none⟩)) ∧ True := hG
        obtain ⟨g17, _⟩ := hg
        clear hG hfr
        refine OpSays.value (v := .pointer (some ⟨p, 8, none⟩)) (w' := w1) ?_ ⟨hT1, Only.refl _ _, rfl⟩
        go_simp
      case op19 =>
        intro L ev w1 hLi hlate hearly hT1 hc hf hfr hG
        rw [if_pos (by decide)]
        have hP : p2Ph W3 p (pcells g rv2 S2.now) (L 20) (L 21) w1 := hT1
        obtain ⟨hl20, hl21, _⟩ := hlate
        rw [hl20] at hP
        rw [hl21] at hP
        have hg : (ev (.tmp 106) = .pointer (some ⟨p, 8, none⟩)) ∧ True := hG
        obtain ⟨g18, _⟩ := hg
        clear hG hfr
        have c : w1.cell? ⟨p, 8, none⟩ = some (.int .i64 S2.now) := (blk_cell (hP.2.1 rfl) 8).trans rfl
        refine OpSays.value (v := .int .i64 S2.now) (w' := w1) ?_ ⟨hT1, Only.refl _ _, rfl⟩
        go_simp
      case op20 =>
        intro L ev w1 hLi hlate hearly hT1 hc hf hfr hG
        rw [if_pos (by decide)]
        have hP : p2Ph W3 p (pcells g rv2 S2.now) (L 20) (L 21) w1 := hT1
        obtain ⟨hl21, _⟩ := hlate
        rw [hLi] at hP
        rw [hl21] at hP
        change OpSays _ _ _ _ (fun v w' => p2Ph W3 p (pcells g rv2 S2.now) (true) (L 21) w' ∧ _ ∧ _)
        rw [hl21]
        have hg : (ev (.tmp 103) = .pointer (some ⟨g 1, 0, none⟩)) ∧ (ev (.tmp 107) = .int .i64 S2.now) ∧ True := hG
        obtain ⟨g15, g19, _⟩ := hg
        clear hG hfr
        have hpa := HPA.out.keep (hP.1 rfl)
        refine OpSays.enter (f := 22) (args := #[.pointer (some ⟨g 1, 0, none⟩), .int .i64 S2.now]) (w' := w1) ?_ ?_
        · go_simp
        · refine (pair_tick hpa (by decide) HPI.out).mono ?_
          rintro e' w2 ⟨v, rfl, hrow, hpa2, hk⟩
          exact ⟨v, rfl, ⟨fun e => (by cases e), fun _ => hpa2.blk, Nat.le_trans hP.2.2 hk.size⟩, hk.mono (fun _ _ _ => .inl rfl), World.ownsRow.mono hrow (by have := hP.2.2; have := HBW.out; omega), fun b hb => by have := ((HPA.out.rows 0 (by decide) (by decide)).lt b hb).2; have := HBW.out; omega, fun _ => hpa2⟩
      case op21 =>
        intro L ev w1 hLi hlate hearly hT1 hc hf hfr hG
        rw [if_pos (by decide)]
        have hP : p2Ph W3 p (pcells g rv2 S2.now) (L 20) (L 21) w1 := hT1
        obtain ⟨he20, _⟩ := hearly
        rw [he20] at hP
        rw [hLi] at hP
        change OpSays _ _ _ _ (fun v w' => p2Ph W3 p (pcells g rv2 S2.now) (L 20) (true) w' ∧ _ ∧ _)
        rw [he20]
        have hg : (ev (.tmp 97) = rv2 0) ∧ (w1.ownsRow B 9 1 (ev (.tmp 108)) ((S2.s 1).outs S2.now).length (((S2.s 1).outs S2.now).map Value.string) ∧ (∀ b, (rv2 0).ownBlock = some b → b < B) ∧ (L 21 = false → PAt W w1 6 p g mo me rv2 { S2 with s := put S2.s 1 ((S2.s 1).ticks S2.now) })) ∧ True := hG
        obtain ⟨g9, g20, _⟩ := hg
        clear hG hfr
        obtain ⟨hrow, hlt, hpa⟩ := g20
        have hpa := hpa hLi
        obtain ⟨v2, w2, hr, h1, h2, h3⟩ := append_texts w1 43 W.heap.size _ _ (S2.L 0) ((S2.s 1).outs S2.now) (hpa.rows 0 (by decide) (by decide)) (row_src hrow) hpa.only.size (by have := HLN.out 0 (by decide); have := HOL.out; omega)
        refine OpSays.value (v := v2) (w' := w2) ?_ ⟨⟨fun e => (by cases e), fun e => (by cases e), Nat.le_trans hP.2.2 (Only.of_grown h2).size⟩, (Only.of_grown h2).mono (fun _ _ e => .inr ⟨rfl, e⟩), h1, fun b hb => (h3 b hb).imp id (fun h => by have := hP.2.2; have := HBW.out; omega), (by first | rfl | exact he20 | simp [upd, he20]), hpa.grown (by decide) h2⟩
        unfold execOp
        simp only [resolve, invoke, builtin, Sem.run_bind, Sem.run_pure, Result.andThen_ok, List.map_toArray, List.map_cons, List.map_nil, g9, hr]
      case op22 =>
        intro L ev w1 hLi hlate hearly hT1 hc hf hfr hG
        rw [if_pos (by decide)]
        have hP : p2Ph W3 p (pcells g rv2 S2.now) (L 20) (L 21) w1 := hT1
        have hg : (ev (.tmp 88) = .pointer (some ⟨p, 0, none⟩)) ∧ True := hG
        obtain ⟨g0, _⟩ := hg
        clear hG hfr
        refine OpSays.value (v := .pointer (some ⟨p, 0, none⟩)) (w' := w1) ?_ ⟨hT1, Only.refl _ _, rfl⟩
        go_simp
      case op23 =>
        intro L ev w1 hLi hlate hearly hT1 hc hf hfr hG
        rw [if_pos (by decide)]
        have hP : p2Ph W3 p (pcells g rv2 S2.now) (L 20) (L 21) w1 := hT1
        have hg : (ev (.tmp 110) = .pointer (some ⟨p, 0, none⟩)) ∧ True := hG
        obtain ⟨g22, _⟩ := hg
        clear hG hfr
        refine OpSays.value (v := .pointer (some ⟨p, 2, none⟩)) (w' := w1) ?_ ⟨hT1, Only.refl _ _, rfl⟩
        go_simp
      case op24 =>
        intro L ev w1 hLi hlate hearly hT1 hc hf hfr hG
        rw [if_pos (by decide)]
        have hP : p2Ph W3 p (pcells g rv2 S2.now) (L 20) (L 21) w1 := hT1
        have hg : (ev (.tmp 90) = .int .i64 0) ∧ (ev (.tmp 111) = .pointer (some ⟨p, 2, none⟩)) ∧ True := hG
        obtain ⟨g2, g23, _⟩ := hg
        clear hG hfr
        refine OpSays.value (v := .pointer (some ⟨p, 2, none⟩)) (w' := w1) ?_ ⟨hT1, Only.refl _ _, rfl⟩
        go_simp
    rintro L ⟨tm, df⟩ w5 hL hT1 hsz hdf hfr hG
    have hPE : p2Ph W3 p (pcells g rv2 S2.now) (true) (true) w5 := by
      have hP : p2Ph W3 p (pcells g rv2 S2.now) (L 20) (L 21) w5 := hT1
      have hm := fun k (hk : k ∈ List.range 25) => AllB.get hL k hk
      rw [hm 20 (by decide)] at hP
      rw [hm 21 (by decide)] at hP
      exact hP
    clear hT1 hL
    have k0 : tm.getD 0 undef = .pointer (some ⟨p, 0, none⟩) := hfr 0 (by decide)
    have k3 : tm.getD 3 undef = .pointer (some ⟨q, 0, none⟩) := hfr 3 (by decide)
    have k9 : tm.getD 9 undef = .int .i64 1 := hfr 9 (by decide)
    have k85 : tm.getD 85 undef = .int .i64 1 := hfr 85 (by decide)
    have k112 : tm.getD 112 undef = .pointer (some ⟨p, 2, none⟩) := AllG.get hG 24 (by decide)
    obtain ⟨hrow, hob, _, hpx⟩ : w5.ownsRow W.heap.size 9 1 (tm.getD 109 undef) (S2.L 0 ++ (S2.s 1).outs S2.now).length ((S2.L 0 ++ (S2.s 1).outs S2.now).map Value.string) ∧ (∀ b, (tm.getD 109 undef).ownBlock = some b → (rv2 0).ownBlock = some b ∨ B ≤ b) ∧ _ ∧ PAt W w5 0 p g mo me rv2 { S2 with s := put S2.s 1 ((S2.s 1).ticks S2.now) } := AllG.get hG 21 (by decide)
    have he : tm = #[tm.getD 0 undef, tm.getD 1 undef, tm.getD 2 undef, tm.getD 3 undef, tm.getD 4 undef, tm.getD 5 undef, tm.getD 6 undef, tm.getD 7 undef, tm.getD 8 undef, tm.getD 9 undef, tm.getD 10 undef, tm.getD 11 undef, tm.getD 12 undef, tm.getD 13 undef, tm.getD 14 undef, tm.getD 15 undef, tm.getD 16 undef, tm.getD 17 undef, tm.getD 18 undef, tm.getD 19 undef, tm.getD 20 undef, tm.getD 21 undef, tm.getD 22 undef, tm.getD 23 undef, tm.getD 24 undef, tm.getD 25 undef, tm.getD 26 undef, tm.getD 27 undef, tm.getD 28 undef, tm.getD 29 undef, tm.getD 30 undef, tm.getD 31 undef, tm.getD 32 undef, tm.getD 33 undef, tm.getD 34 undef, tm.getD 35 undef, tm.getD 36 undef, tm.getD 37 undef, tm.getD 38 undef, tm.getD 39 undef, tm.getD 40 undef, tm.getD 41 undef, tm.getD 42 undef, tm.getD 43 undef, tm.getD 44 undef, tm.getD 45 undef, tm.getD 46 undef, tm.getD 47 undef, tm.getD 48 undef, tm.getD 49 undef, tm.getD 50 undef, tm.getD 51 undef, tm.getD 52 undef, tm.getD 53 undef, tm.getD 54 undef, tm.getD 55 undef, tm.getD 56 undef, tm.getD 57 undef, tm.getD 58 undef, tm.getD 59 undef, tm.getD 60 undef, tm.getD 61 undef, tm.getD 62 undef, tm.getD 63 undef, tm.getD 64 undef, tm.getD 65 undef, tm.getD 66 undef, tm.getD 67 undef, tm.getD 68 undef, tm.getD 69 undef, tm.getD 70 undef, tm.getD 71 undef, tm.getD 72 undef, tm.getD 73 undef, tm.getD 74 undef, tm.getD 75 undef, tm.getD 76 undef, tm.getD 77 undef, tm.getD 78 undef, tm.getD 79 undef, tm.getD 80 undef, tm.getD 81 undef, tm.getD 82 undef, tm.getD 83 undef, tm.getD 84 undef, tm.getD 85 undef, tm.getD 86 undef, tm.getD 87 undef, tm.getD 88 undef, tm.getD 89 undef, tm.getD 90 undef, tm.getD 91 undef, tm.getD 92 undef, tm.getD 93 undef, tm.getD 94 undef, tm.getD 95 undef, tm.getD 96 undef, tm.getD 97 undef, tm.getD 98 undef, tm.getD 99 undef, tm.getD 100 undef, tm.getD 101 undef, tm.getD 102 undef, tm.getD 103 undef, tm.getD 104 undef, tm.getD 105 undef, tm.getD 106 undef, tm.getD 107 undef, tm.getD 108 undef, tm.getD 109 undef, tm.getD 110 undef, tm.getD 111 undef, tm.getD 112 undef, tm.getD 113 undef, tm.getD 114 undef, tm.getD 115 undef, tm.getD 116 undef, tm.getD 117 undef, tm.getD 118 undef, tm.getD 119 undef, tm.getD 120 undef, tm.getD 121 undef, tm.getD 122 undef, tm.getD 123 undef, tm.getD 124 undef, tm.getD 125 undef, tm.getD 126 undef, tm.getD 127 undef, tm.getD 128 undef, tm.getD 129 undef, tm.getD 130 undef, tm.getD 131 undef, tm.getD 132 undef, tm.getD 133 undef, tm.getD 134 undef, tm.getD 135 undef, tm.getD 136 undef, tm.getD 137 undef, tm.getD 138 undef, tm.getD 139 undef, tm.getD 140 undef, tm.getD 141 undef, tm.getD 142 undef, tm.getD 143 undef, tm.getD 144 undef, tm.getD 145 undef, tm.getD 146 undef, tm.getD 147 undef, tm.getD 148 undef, tm.getD 149 undef, tm.getD 150 undef, tm.getD 151 undef, tm.getD 152 undef, tm.getD 153 undef, tm.getD 154 undef, tm.getD 155 undef, tm.getD 156 undef, tm.getD 157 undef, tm.getD 158 undef, tm.getD 159 undef, tm.getD 160 undef, tm.getD 161 undef, tm.getD 162 undef, tm.getD 163 undef, tm.getD 164 undef, tm.getD 165 undef, tm.getD 166 undef, tm.getD 167 undef, tm.getD 168 undef, tm.getD 169 undef, tm.getD 170 undef, tm.getD 171 undef, tm.getD 172 undef, tm.getD 173 undef, tm.getD 174 undef, tm.getD 175 undef, tm.getD 176 undef, tm.getD 177 undef, tm.getD 178 undef, tm.getD 179 undef, tm.getD 180 undef, tm.getD 181 undef, tm.getD 182 undef, tm.getD 183 undef, tm.getD 184 undef, tm.getD 185 undef, tm.getD 186 undef, tm.getD 187 undef, tm.getD 188 undef, tm.getD 189 undef, tm.getD 190 undef, tm.getD 191 undef, tm.getD 192 undef, tm.getD 193 undef, tm.getD 194 undef, tm.getD 195 undef, tm.getD 196 undef, tm.getD 197 undef, tm.getD 198 undef, tm.getD 199 undef, tm.getD 200 undef, tm.getD 201 undef, tm.getD 202 undef, tm.getD 203 undef, tm.getD 204 undef, tm.getD 205 undef, tm.getD 206 undef, tm.getD 207 undef, tm.getD 208 undef, tm.getD 209 undef, tm.getD 210 undef, tm.getD 211 undef, tm.getD 212 undef, tm.getD 213 undef, tm.getD 214 undef, tm.getD 215 undef, tm.getD 216 undef] := arr_eta (n := 217) hsz
    replace hdf : df = [] := hdf
    subst hdf
    clear hsz hfr hG
    rw [he, k0, k3, k9, k85, k112]
    clear he k0 k3 k9 k85 k112
    generalize tm.getD 1 undef = x1
    generalize tm.getD 2 undef = x2
    generalize tm.getD 4 undef = x4
    generalize tm.getD 5 undef = x5
    generalize tm.getD 6 undef = x6
    generalize tm.getD 7 undef = x7
    generalize tm.getD 8 undef = x8
    generalize tm.getD 10 undef = x10
    generalize tm.getD 11 undef = x11
    generalize tm.getD 12 undef = x12
    generalize tm.getD 13 undef = x13
    generalize tm.getD 14 undef = x14
    generalize tm.getD 15 undef = x15
    generalize tm.getD 16 undef = x16
    generalize tm.getD 17 undef = x17
    generalize tm.getD 18 undef = x18
    generalize tm.getD 19 undef = x19
    generalize tm.getD 20 undef = x20
    generalize tm.getD 21 undef = x21
    generalize tm.getD 22 undef = x22
    generalize tm.getD 23 undef = x23
    generalize tm.getD 24 undef = x24
    generalize tm.getD 25 undef = x25
    generalize tm.getD 26 undef = x26
    generalize tm.getD 27 undef = x27
    generalize tm.getD 28 undef = x28
    generalize tm.getD 29 undef = x29
    generalize tm.getD 30 undef = x30
    generalize tm.getD 31 undef = x31
    generalize tm.getD 32 undef = x32
    generalize tm.getD 33 undef = x33
    generalize tm.getD 34 undef = x34
    generalize tm.getD 35 undef = x35
    generalize tm.getD 36 undef = x36
    generalize tm.getD 37 undef = x37
    generalize tm.getD 38 undef = x38
    generalize tm.getD 39 undef = x39
    generalize tm.getD 40 undef = x40
    generalize tm.getD 41 undef = x41
    generalize tm.getD 42 undef = x42
    generalize tm.getD 43 undef = x43
    generalize tm.getD 44 undef = x44
    generalize tm.getD 45 undef = x45
    generalize tm.getD 46 undef = x46
    generalize tm.getD 47 undef = x47
    generalize tm.getD 48 undef = x48
    generalize tm.getD 49 undef = x49
    generalize tm.getD 50 undef = x50
    generalize tm.getD 51 undef = x51
    generalize tm.getD 52 undef = x52
    generalize tm.getD 53 undef = x53
    generalize tm.getD 54 undef = x54
    generalize tm.getD 55 undef = x55
    generalize tm.getD 56 undef = x56
    generalize tm.getD 57 undef = x57
    generalize tm.getD 58 undef = x58
    generalize tm.getD 59 undef = x59
    generalize tm.getD 60 undef = x60
    generalize tm.getD 61 undef = x61
    generalize tm.getD 62 undef = x62
    generalize tm.getD 63 undef = x63
    generalize tm.getD 64 undef = x64
    generalize tm.getD 65 undef = x65
    generalize tm.getD 66 undef = x66
    generalize tm.getD 67 undef = x67
    generalize tm.getD 68 undef = x68
    generalize tm.getD 69 undef = x69
    generalize tm.getD 70 undef = x70
    generalize tm.getD 71 undef = x71
    generalize tm.getD 72 undef = x72
    generalize tm.getD 73 undef = x73
    generalize tm.getD 74 undef = x74
    generalize tm.getD 75 undef = x75
    generalize tm.getD 76 undef = x76
    generalize tm.getD 77 undef = x77
    generalize tm.getD 78 undef = x78
    generalize tm.getD 79 undef = x79
    generalize tm.getD 80 undef = x80
    generalize tm.getD 81 undef = x81
    generalize tm.getD 82 undef = x82
    generalize tm.getD 83 undef = x83
    generalize tm.getD 84 undef = x84
    generalize tm.getD 86 undef = x86
    generalize tm.getD 87 undef = x87
    generalize tm.getD 88 undef = x88
    generalize tm.getD 89 undef = x89
    generalize tm.getD 90 undef = x90
    generalize tm.getD 91 undef = x91
    generalize tm.getD 92 undef = x92
    generalize tm.getD 93 undef = x93
    generalize tm.getD 94 undef = x94
    generalize tm.getD 95 undef = x95
    generalize tm.getD 96 undef = x96
    generalize tm.getD 97 undef = x97
    generalize tm.getD 98 undef = x98
    generalize tm.getD 99 undef = x99
    generalize tm.getD 100 undef = x100
    generalize tm.getD 101 undef = x101
    generalize tm.getD 102 undef = x102
    generalize tm.getD 103 undef = x103
    generalize tm.getD 104 undef = x104
    generalize tm.getD 105 undef = x105
    generalize tm.getD 106 undef = x106
    generalize tm.getD 107 undef = x107
    generalize tm.getD 108 undef = x108
    generalize tm.getD 109 undef = vw at hrow hob ⊢
    generalize tm.getD 110 undef = x110
    generalize tm.getD 111 undef = x111
    generalize tm.getD 113 undef = x113
    generalize tm.getD 114 undef = x114
    generalize tm.getD 115 undef = x115
    generalize tm.getD 116 undef = x116
    generalize tm.getD 117 undef = x117
    generalize tm.getD 118 undef = x118
    generalize tm.getD 119 undef = x119
    generalize tm.getD 120 undef = x120
    generalize tm.getD 121 undef = x121
    generalize tm.getD 122 undef = x122
    generalize tm.getD 123 undef = x123
    generalize tm.getD 124 undef = x124
    generalize tm.getD 125 undef = x125
    generalize tm.getD 126 undef = x126
    generalize tm.getD 127 undef = x127
    generalize tm.getD 128 undef = x128
    generalize tm.getD 129 undef = x129
    generalize tm.getD 130 undef = x130
    generalize tm.getD 131 undef = x131
    generalize tm.getD 132 undef = x132
    generalize tm.getD 133 undef = x133
    generalize tm.getD 134 undef = x134
    generalize tm.getD 135 undef = x135
    generalize tm.getD 136 undef = x136
    generalize tm.getD 137 undef = x137
    generalize tm.getD 138 undef = x138
    generalize tm.getD 139 undef = x139
    generalize tm.getD 140 undef = x140
    generalize tm.getD 141 undef = x141
    generalize tm.getD 142 undef = x142
    generalize tm.getD 143 undef = x143
    generalize tm.getD 144 undef = x144
    generalize tm.getD 145 undef = x145
    generalize tm.getD 146 undef = x146
    generalize tm.getD 147 undef = x147
    generalize tm.getD 148 undef = x148
    generalize tm.getD 149 undef = x149
    generalize tm.getD 150 undef = x150
    generalize tm.getD 151 undef = x151
    generalize tm.getD 152 undef = x152
    generalize tm.getD 153 undef = x153
    generalize tm.getD 154 undef = x154
    generalize tm.getD 155 undef = x155
    generalize tm.getD 156 undef = x156
    generalize tm.getD 157 undef = x157
    generalize tm.getD 158 undef = x158
    generalize tm.getD 159 undef = x159
    generalize tm.getD 160 undef = x160
    generalize tm.getD 161 undef = x161
    generalize tm.getD 162 undef = x162
    generalize tm.getD 163 undef = x163
    generalize tm.getD 164 undef = x164
    generalize tm.getD 165 undef = x165
    generalize tm.getD 166 undef = x166
    generalize tm.getD 167 undef = x167
    generalize tm.getD 168 undef = x168
    generalize tm.getD 169 undef = x169
    generalize tm.getD 170 undef = x170
    generalize tm.getD 171 undef = x171
    generalize tm.getD 172 undef = x172
    generalize tm.getD 173 undef = x173
    generalize tm.getD 174 undef = x174
    generalize tm.getD 175 undef = x175
    generalize tm.getD 176 undef = x176
    generalize tm.getD 177 undef = x177
    generalize tm.getD 178 undef = x178
    generalize tm.getD 179 undef = x179
    generalize tm.getD 180 undef = x180
    generalize tm.getD 181 undef = x181
    generalize tm.getD 182 undef = x182
    generalize tm.getD 183 undef = x183
    generalize tm.getD 184 undef = x184
    generalize tm.getD 185 undef = x185
    generalize tm.getD 186 undef = x186
    generalize tm.getD 187 undef = x187
    generalize tm.getD 188 undef = x188
    generalize tm.getD 189 undef = x189
    generalize tm.getD 190 undef = x190
    generalize tm.getD 191 undef = x191
    generalize tm.getD 192 undef = x192
    generalize tm.getD 193 undef = x193
    generalize tm.getD 194 undef = x194
    generalize tm.getD 195 undef = x195
    generalize tm.getD 196 undef = x196
    generalize tm.getD 197 undef = x197
    generalize tm.getD 198 undef = x198
    generalize tm.getD 199 undef = x199
    generalize tm.getD 200 undef = x200
    generalize tm.getD 201 undef = x201
    generalize tm.getD 202 undef = x202
    generalize tm.getD 203 undef = x203
    generalize tm.getD 204 undef = x204
    generalize tm.getD 205 undef = x205
    generalize tm.getD 206 undef = x206
    generalize tm.getD 207 undef = x207
    generalize tm.getD 208 undef = x208
    generalize tm.getD 209 undef = x209
    generalize tm.getD 210 undef = x210
    generalize tm.getD 211 undef = x211
    generalize tm.getD 212 undef = x212
    generalize tm.getD 213 undef = x213
    generalize tm.getD 214 undef = x214
    generalize tm.getD 215 undef = x215
    generalize tm.getD 216 undef = x216
    simp only [List.drop_succ_cons, List.drop_zero]
    clear hPE HT HPA
    obtain ⟨aw, cw, ew, _, _⟩ := row_texts hrow
    have x2 := (blk_cell hpx.blk 2).trans (show (pcells g rv2 S2.now)[2]? = some (rv2 0) from rfl)
    have f2 := blk_free hpx.blk 2
    have hst := hp0.app HBW.out hpx (by decide) hrow hob
    clear hrow hob hpx hp0 HBW B
    obtain ⟨nw, hnw⟩ : ∃ n, n = (S2.L 0 ++ (S2.s 1).outs S2.now).length := ⟨_, rfl⟩
    rw [← hnw] at ew
    clear hnw
    subst ew
    simp only [Nat.reduceAdd] at hst
    have HDF : Hid (DInv R { S2 with s := put S2.s 1 ((S2.s 1).ticks S2.now), L := put S2.L 0 (S2.L 0 ++ (S2.s 1).outs S2.now) } (a + 1)) := Lib.hid (by rw [HS2.out, HS1.out]; exact HDI.out)
    have HST := Lib.hid hst
    clear hst
    go_wp2_with fail
    rw [rounds_succ]
    generalize w5.setCell ⟨p, 2, none⟩ (.slice aw nw cw) = W5 at HST ⊢
    clear x2 f2
    go_wp2_with fail
    refine (right_true W W5 p g mo me _ _ HST.out HDF.out.right (fun i hi => by have := HDF.out.len (by omega) i hi; omega)).mono ?_
    rintro e w6 ⟨rfl, hk6⟩
    have HP6 := Lib.hid (HST.out.keep hk6)
    clear hk6
    go_wp2_with fail
    go_ret
    exact ⟨_, _, rfl, HP6.out, HDF.out⟩

end Go.Proofs.Yteifehienpeaiaa

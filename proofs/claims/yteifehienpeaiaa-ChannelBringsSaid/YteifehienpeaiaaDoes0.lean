/-
  An act of the law ChannelBrings, of the end 0.
  Conditions: fewer than a hundred acts, texts of at most 500 bytes.
-/
import Derived.Test.YteifehienpeaiaaPairLaw
import Derived.Test.YteifehienpeaiaaPhasedK
import Derived.Test.YteifehienpeaiaaAmong
import Derived.Test.YteifehienpeaiaaPairPh
import Derived.StillTailTactics
set_option linter.unusedVariables false
set_option linter.unusedSimpArgs false
set_option maxRecDepth 100000
namespace Go.Proofs.Yteifehienpeaiaa
open Go.RowKit

def e0sG (W : World) (B p q : Nat) (g mo me : Nat → Nat) (rv : Nat → Value) (S : PS) (kd nn : Int) (tx : ByteArray) (sec : Bool) (L : Nat → Bool) : Nat → Value → World → Prop
  | 0, v, w' => v = .pointer (some ⟨p, 0, none⟩)
  | 1, v, w' => v = .int .i64 0
  | 2, v, w' => v = .pointer (some ⟨p, 0, none⟩)
  | 3, v, w' => v = .pointer (some ⟨p, 0, none⟩)
  | 4, v, w' => v = .pointer (some ⟨p, 0, none⟩)
  | 5, v, w' => v = .pointer (some ⟨g 0, 0, none⟩)
  | 6, v, w' => v = .pointer (some ⟨q, 2, none⟩)
  | 7, v, w' => v = .string tx
  | 8, v, w' => v = .pointer (some ⟨p, 0, none⟩)
  | 9, v, w' => v = .pointer (some ⟨p, 0, none⟩)
  | 10, v, w' => v = .pointer (some ⟨p, 8, none⟩)
  | 11, v, w' => v = .int .i64 S.now
  | 12, v, w' => v = .tuple #[.string (sendX (S.s 0) tx S.now), .int .i64 (sendC (S.s 0))] ∧ w'.heap[q]? = some (.cells #[.int .i64 kd, .int .i64 nn, .string tx, .bool sec] 50 (0, 0)) ∧ ∃ s', sendsTo (S.s 0) s' tx S.now ∧ PAt W w' 6 p g mo me rv { S with s := put S.s 0 s' }
  | 13, v, w' => v = .tuple #[.string (sendX (S.s 0) tx S.now), .int .i64 (sendC (S.s 0))]
  | 14, v, w' => v = .string (sendX (S.s 0) tx S.now)
  | 15, v, w' => v = .int .i64 (sendC (S.s 0))
  | 16, v, w' => v = .string (sendX (S.s 0) tx S.now)
  | _, _, _ => True
def e0sDs : List Nat := [23, 24, 25, 26, 27, 28, 29, 30, 31, 32, 33, 34, 35, 22, 36, 37, 7]
def e0sNeed : List (List Nat) := [[], [], [0], [2], [1, 3], [4], [], [6], [], [8], [9], [10], [5, 7, 11], [12], [13], [13], [14]]
def e0sGs : List (Option Bool) := []
def e0sLate : List (List Nat) := [[12], [12], [12], [12], [12], [12], [12], [12], [12], [12], [12], [12], [], [], [], [], []]
def e0sEarly : List (List Nat) := [[], [], [], [], [], [], [], [], [], [], [], [], [], [12], [12], [12], [12]]
theorem e0sG.keep {W : World} {B p q : Nat} {g mo me : Nat → Nat} {rv : Nat → Value} {S : PS} {kd nn : Int} {tx : ByteArray} {sec : Bool} : ∀ L i jx v w w', i ≠ jx → L i = false → L jx = true → e0sG W B p q g mo me rv S kd nn tx sec L jx v w → Only (p1St 12 i) w w' → e0sG W B p q g mo me rv S kd nn tx sec (upd L i) jx v w' := by
  intro L i jx v w w' hij hLi hLj h hO
  match jx, hij, hLj, h with
  | 0, hij, hLj, h => exact h
  | 1, hij, hLj, h => exact h
  | 2, hij, hLj, h => exact h
  | 3, hij, hLj, h => exact h
  | 4, hij, hLj, h => exact h
  | 5, hij, hLj, h => exact h
  | 6, hij, hLj, h => exact h
  | 7, hij, hLj, h => exact h
  | 8, hij, hLj, h => exact h
  | 9, hij, hLj, h => exact h
  | 10, hij, hLj, h => exact h
  | 11, hij, hLj, h => exact h
  | 12, hij, hLj, h => exact (by obtain ⟨e1, e0, s1, e2, e3⟩ := h; exact ⟨e1, (hO.mono (S' := fun _ => False) (fun _ _ e => hij e)).at e0 (fun h => h), s1, e2, e3.keep (hO.mono (fun _ _ e => hij e))⟩)
  | 13, hij, hLj, h => exact h
  | 14, hij, hLj, h => exact h
  | 15, hij, hLj, h => exact h
  | 16, hij, hLj, h => exact h
  | n + 17, hij, hLj, h => trivial
theorem e0sG.guard {W : World} {B p q : Nat} {g mo me : Nat → Nat} {rv : Nat → Value} {S : PS} {kd nn : Int} {tx : ByteArray} {sec : Bool} : ∀ g' b', e0sGs.getD g' none = some b' → ∀ L v w, e0sG W B p q g mo me rv S kd nn tx sec L g' v w → v = .bool b' := by
  intro g' b' hbb L v w hgg
  match g', hbb, hgg with
  | n' + 0, hbb, hgg => exact absurd hbb (by simp [e0sGs])
def e0gG (W : World) (B p q : Nat) (g mo me : Nat → Nat) (rv : Nat → Value) (S : PS) (kd nn : Int) (tx : ByteArray) (sec : Bool) (L : Nat → Bool) : Nat → Value → World → Prop
  | 0, v, w' => v = .pointer (some ⟨p, 0, none⟩)
  | 1, v, w' => v = .int .i64 0
  | 2, v, w' => v = .pointer (some ⟨p, 0, none⟩)
  | 3, v, w' => v = .int .i64 0
  | 4, v, w' => v = .pointer (some ⟨p, 0, none⟩)
  | 5, v, w' => v = .pointer (some ⟨p, 4, none⟩)
  | 6, v, w' => v = .pointer (some ⟨p, 4, none⟩)
  | 7, v, w' => v = rv 2
  | 8, v, w' => v = .pointer (some ⟨q, 2, none⟩)
  | 9, v, w' => v = .string tx
  | 10, v, w' => ∃ z, v = .slice (some ⟨z, 0, none⟩) 1 1 ∧ B ≤ z ∧ (L 11 = false → w'.heap[z]? = some (.cells #[.string tx] 9 (0, 0)))
  | 11, v, w' => w'.ownsRow W.heap.size 9 1 (v) (S.L 2 ++ [tx]).length ((S.L 2 ++ [tx]).map Value.string) ∧ (∀ b, (v).ownBlock = some b → (rv 2).ownBlock = some b ∨ B ≤ b) ∧ PAt W w' 2 p g mo me rv S
  | 12, v, w' => v = .pointer (some ⟨p, 0, none⟩)
  | 13, v, w' => v = .pointer (some ⟨p, 4, none⟩)
  | 14, v, w' => v = .pointer (some ⟨p, 4, none⟩)
  | _, _, _ => True
def e0gDs : List Nat := [40, 41, 42, 43, 44, 45, 46, 47, 48, 49, 50, 51, 52, 53, 54]
def e0gNeed : List (List Nat) := [[], [], [], [], [2], [4], [3, 5], [6], [], [8], [9], [7, 10], [0], [12], [1, 13]]
def e0gGs : List (Option Bool) := []
def e0gLate : List (List Nat) := [[], [], [11], [11], [11], [11], [11], [11], [11], [11], [11], [], [], [], []]
def e0gEarly : List (List Nat) := [[], [], [], [], [], [], [], [], [], [], [], [], [], [], []]
theorem e0gG.keep {W : World} {B p q : Nat} {g mo me : Nat → Nat} {rv : Nat → Value} {S : PS} {kd nn : Int} {tx : ByteArray} {sec : Bool} : ∀ L i jx v w w', i ≠ jx → L i = false → L jx = true → e0gG W B p q g mo me rv S kd nn tx sec L jx v w → Only (p1St 11 i) w w' → e0gG W B p q g mo me rv S kd nn tx sec (upd L i) jx v w' := by
  intro L i jx v w w' hij hLi hLj h hO
  match jx, hij, hLj, h with
  | 0, hij, hLj, h => exact h
  | 1, hij, hLj, h => exact h
  | 2, hij, hLj, h => exact h
  | 3, hij, hLj, h => exact h
  | 4, hij, hLj, h => exact h
  | 5, hij, hLj, h => exact h
  | 6, hij, hLj, h => exact h
  | 7, hij, hLj, h => exact h
  | 8, hij, hLj, h => exact h
  | 9, hij, hLj, h => exact h
  | 10, hij, hLj, h => exact (by
    obtain ⟨z, e1, e2, e3⟩ := h
    refine ⟨z, e1, e2, fun hL => ?_⟩
    have hi : i ≠ 11 := fun e => by subst e; simp [upd] at hL
    have hL' : L 11 = false := by unfold upd at hL; rwa [if_neg (fun e => hi e.symm)] at hL
    exact hO.at (e3 hL') (fun e => hi e))
  | 11, hij, hLj, h => exact (by
    obtain ⟨e1, e2, e3⟩ := h
    have h0 := hO.mono (S' := fun _ => False) (fun _ _ e => hij e)
    exact ⟨row_keepS e1 h0 (fun _ _ h => h), e2, e3.keep h0⟩)
  | 12, hij, hLj, h => exact h
  | 13, hij, hLj, h => exact h
  | 14, hij, hLj, h => exact h
  | n + 15, hij, hLj, h => trivial
theorem e0gG.guard {W : World} {B p q : Nat} {g mo me : Nat → Nat} {rv : Nat → Value} {S : PS} {kd nn : Int} {tx : ByteArray} {sec : Bool} : ∀ g' b', e0gGs.getD g' none = some b' → ∀ L v w, e0gG W B p q g mo me rv S kd nn tx sec L g' v w → v = .bool b' := by
  intro g' b' hbb L v w hgg
  match g', hbb, hgg with
  | n' + 0, hbb, hgg => exact absurd hbb (by simp [e0gGs])
def e0wG (W : World) (B p q : Nat) (g mo me : Nat → Nat) (rv : Nat → Value) (S : PS) (kd nn : Int) (tx : ByteArray) (sec : Bool) (X : ByteArray) (L : Nat → Bool) : Nat → Value → World → Prop
  | 0, v, w' => v = .pointer (some ⟨p, 0, none⟩)
  | 1, v, w' => v = .int .i64 0
  | 2, v, w' => v = .int .i64 1
  | 3, v, w' => v = .pointer (some ⟨p, 0, none⟩)
  | 4, v, w' => v = .int .i64 0
  | 5, v, w' => v = .int .i64 1
  | 6, v, w' => v = .pointer (some ⟨p, 0, none⟩)
  | 7, v, w' => v = .pointer (some ⟨p, 2, none⟩)
  | 8, v, w' => v = .pointer (some ⟨p, 3, none⟩)
  | 9, v, w' => v = rv 1
  | 10, v, w' => v = .string X
  | 11, v, w' => ∃ z, v = .slice (some ⟨z, 0, none⟩) 1 1 ∧ B ≤ z ∧ (L 12 = false → w'.heap[z]? = some (.cells #[.string X] 9 (0, 0)))
  | 12, v, w' => w'.ownsRow W.heap.size 9 1 (v) (S.L 1 ++ [X]).length ((S.L 1 ++ [X]).map Value.string) ∧ (∀ b, (v).ownBlock = some b → (rv 1).ownBlock = some b ∨ B ≤ b) ∧ PAt W w' 1 p g mo me rv S
  | 13, v, w' => v = .pointer (some ⟨p, 0, none⟩)
  | 14, v, w' => v = .pointer (some ⟨p, 2, none⟩)
  | 15, v, w' => v = .pointer (some ⟨p, 3, none⟩)
  | _, _, _ => True
def e0wDs : List Nat := [55, 56, 57, 58, 59, 60, 61, 62, 63, 64, 65, 66, 67, 68, 69, 70]
def e0wNeed : List (List Nat) := [[], [], [1], [], [], [4], [3], [6], [5, 7], [8], [], [10], [9, 11], [0], [13], [2, 14]]
def e0wGs : List (Option Bool) := []
def e0wLate : List (List Nat) := [[], [], [], [12], [12], [12], [12], [12], [12], [12], [12], [12], [], [], [], []]
def e0wEarly : List (List Nat) := [[], [], [], [], [], [], [], [], [], [], [], [], [], [], [], []]
theorem e0wG.keep {W : World} {B p q : Nat} {g mo me : Nat → Nat} {rv : Nat → Value} {S : PS} {kd nn : Int} {tx : ByteArray} {sec : Bool} {X : ByteArray} : ∀ L i jx v w w', i ≠ jx → L i = false → L jx = true → e0wG W B p q g mo me rv S kd nn tx sec X L jx v w → Only (p1St 12 i) w w' → e0wG W B p q g mo me rv S kd nn tx sec X (upd L i) jx v w' := by
  intro L i jx v w w' hij hLi hLj h hO
  match jx, hij, hLj, h with
  | 0, hij, hLj, h => exact h
  | 1, hij, hLj, h => exact h
  | 2, hij, hLj, h => exact h
  | 3, hij, hLj, h => exact h
  | 4, hij, hLj, h => exact h
  | 5, hij, hLj, h => exact h
  | 6, hij, hLj, h => exact h
  | 7, hij, hLj, h => exact h
  | 8, hij, hLj, h => exact h
  | 9, hij, hLj, h => exact h
  | 10, hij, hLj, h => exact h
  | 11, hij, hLj, h => exact (by
    obtain ⟨z, e1, e2, e3⟩ := h
    refine ⟨z, e1, e2, fun hL => ?_⟩
    have hi : i ≠ 12 := fun e => by subst e; simp [upd] at hL
    have hL' : L 12 = false := by unfold upd at hL; rwa [if_neg (fun e => hi e.symm)] at hL
    exact hO.at (e3 hL') (fun e => hi e))
  | 12, hij, hLj, h => exact (by
    obtain ⟨e1, e2, e3⟩ := h
    have h0 := hO.mono (S' := fun _ => False) (fun _ _ e => hij e)
    exact ⟨row_keepS e1 h0 (fun _ _ h => h), e2, e3.keep h0⟩)
  | 13, hij, hLj, h => exact h
  | 14, hij, hLj, h => exact h
  | 15, hij, hLj, h => exact h
  | n + 16, hij, hLj, h => trivial
theorem e0wG.guard {W : World} {B p q : Nat} {g mo me : Nat → Nat} {rv : Nat → Value} {S : PS} {kd nn : Int} {tx : ByteArray} {sec : Bool} {X : ByteArray} : ∀ g' b', e0wGs.getD g' none = some b' → ∀ L v w, e0wG W B p q g mo me rv S kd nn tx sec X L g' v w → v = .bool b' := by
  intro g' b' hbb L v w hgg
  match g', hbb, hgg with
  | n' + 0, hbb, hgg => exact absurd hbb (by simp [e0wGs])

set_option maxHeartbeats 16000000 in
theorem does0_send (W w0 : World) (p : Nat) (g mo me : Nat → Nat) (rv : Nat → Value) (S : PS) (a : Nat) (R kd nn : Int) (tx : ByteArray) (wk : (Lit.int .i64 kd).wf = true) (wn : (Lit.int .i64 nn).wf = true) (htx : tx.size ≤ 500) (h : PAt W w0 6 p g mo me rv S) (hv : DInv R S a) (ha : a < 100) (hkind : kd % 6 = 0) :
    Calls Try.prog 24 #[.pointer (some ⟨p, 0, none⟩), .agg #[.int .i64 kd, .int .i64 nn, .string tx, .bool false]] w0 fun e w' => ∃ rv' S', e = .returned (.bool true) ∧ PAt W w' 6 p g mo me rv' S' ∧ DInv R S' (a + 1) := by
  have hk0 := (Only.refl (fun _ => False) w0).alloc (.cells #[.int .i64 kd, .int .i64 nn, .string tx, .bool false] 50)
  have hq := blk_new w0 (.cells #[.int .i64 kd, .int .i64 nn, .string tx, .bool false] 50)
  have hp1 := h.keep hk0
  have x0 := (blk_cell hq 0).trans (show _ = some (.int .i64 kd) from rfl)
  have x3 := (blk_cell hq 3).trans (show _ = some (.bool false) from rfl)
  have HPA := Lib.hid hp1
  have HQ := Lib.hid hq
  have HV := Lib.hid hv
  obtain ⟨m, hm⟩ : ∃ m, m = kd % 6 := ⟨_, rfl⟩
  have hm0 : m = 0 := by omega
  clear h hk0 hq hp1 hv
  go_enter Try.func24, Try.ntmps24
  go_wp2_with fail
  refine (among_any kd 6 _ wk (by decide) (by decide)).mono ?_
  rintro e _ ⟨rfl, rfl⟩
  generalize w0.alloc (.cells #[.int .i64 kd, .int .i64 nn, .string tx, .bool false] 50) = W1 at HPA HQ x0 x3 ⊢
  generalize w0.heap.size = q at HQ x0 x3 ⊢
  rw [← hm]
  clear x0 x3 hm hkind
  go_upto_region 6 with fail
  have HPI := Lib.hid (HV.out.p (k := 0) (by decide))
  have HTX : Hid (tx.size ≤ 4096) := Lib.hid (by omega)
  have HT : Hid (p1Ph W1 false W1.drew) := Lib.hid (fun _ => (Only.refl _ W1).drew)
  have HLN := Lib.hid (HV.out.len (by omega))
  obtain ⟨B, hB⟩ : ∃ B, B = W1.heap.size := ⟨_, rfl⟩
  have HBW : Hid (W1.heap.size = B) := Lib.hid hB.symm
  clear hB
  refine wp_region_phasedk_tail 17 e0sDs e0sNeed e0sGs e0sLate e0sEarly (fun L w' => p1Ph W1 (L 12) w') (fun i w w' => Only (p1St 12 i) w w') (e0sG W B p q g mo me rv S kd nn tx false) rfl rfl (by kernel_rfl) (by kernel_rfl) (by kernel_rfl) (by kernel_rfl) (by kernel_rfl) (by kernel_rfl) HT.out e0sG.keep e0sG.guard (fun _ _ => Only.refl _ _) ?_ ?_
  · refine And.intro ?op0 (And.intro ?op1 (And.intro ?op2 (And.intro ?op3 (And.intro ?op4 (And.intro ?op5 (And.intro ?op6 (And.intro ?op7 (And.intro ?op8 (And.intro ?op9 (And.intro ?op10 (And.intro ?op11 (And.intro ?op12 (And.intro ?op13 (And.intro ?op14 (And.intro ?op15 (And.intro ?op16 trivial))))))))))))))))
    case op0 =>
      intro L ev w1 hLi hlate hearly hT1 hc hf hfr hG
      rw [if_pos (by decide)]
      have hP : p1Ph W1 (L 12) w1 := hT1
      obtain ⟨hl12, _⟩ := hlate
      rw [hl12] at hP
      have h0 : ev (.tmp 0) = .pointer (some ⟨p, 0, none⟩) := hfr 0 (by decide)
      clear hG hfr
      refine OpSays.value (v := .pointer (some ⟨p, 0, none⟩)) (w' := w1) ?_ ⟨hT1, Only.refl _ _, rfl⟩
      go_simp
    case op1 =>
      intro L ev w1 hLi hlate hearly hT1 hc hf hfr hG
      rw [if_pos (by decide)]
      have hP : p1Ph W1 (L 12) w1 := hT1
      obtain ⟨hl12, _⟩ := hlate
      rw [hl12] at hP
      have h5 : ev (.tmp 5) = .int .i64 0 := hfr 5 (by decide)
      clear hG hfr
      refine OpSays.value (v := .int .i64 0) (w' := w1) ?_ ⟨hT1, Only.refl _ _, rfl⟩
      go_simp
    case op2 =>
      intro L ev w1 hLi hlate hearly hT1 hc hf hfr hG
      rw [if_pos (by decide)]
      have hP : p1Ph W1 (L 12) w1 := hT1
      obtain ⟨hl12, _⟩ := hlate
      rw [hl12] at hP
      have hg : (ev (.tmp 23) = .pointer (some ⟨p, 0, none⟩)) ∧ True := hG
      obtain ⟨g0, _⟩ := hg
      clear hG hfr
      refine OpSays.value (v := .pointer (some ⟨p, 0, none⟩)) (w' := w1) ?_ ⟨hT1, Only.refl _ _, rfl⟩
      go_simp
    case op3 =>
      intro L ev w1 hLi hlate hearly hT1 hc hf hfr hG
      rw [if_pos (by decide)]
      have hP : p1Ph W1 (L 12) w1 := hT1
      obtain ⟨hl12, _⟩ := hlate
      rw [hl12] at hP
      have hg : (ev (.tmp 25) = .pointer (some ⟨p, 0, none⟩)) ∧ True := hG
      obtain ⟨g2, _⟩ := hg
      clear hG hfr
      refine OpSays.value (v := .pointer (some ⟨p, 0, none⟩)) (w' := w1) ?_ ⟨hT1, Only.refl _ _, rfl⟩
      go_simp
    case op4 =>
      intro L ev w1 hLi hlate hearly hT1 hc hf hfr hG
      rw [if_pos (by decide)]
      have hP : p1Ph W1 (L 12) w1 := hT1
      obtain ⟨hl12, _⟩ := hlate
      rw [hl12] at hP
      have hg : (ev (.tmp 24) = .int .i64 0) ∧ (ev (.tmp 26) = .pointer (some ⟨p, 0, none⟩)) ∧ True := hG
      obtain ⟨g1, g3, _⟩ := hg
      clear hG hfr
      refine OpSays.value (v := .pointer (some ⟨p, 0, none⟩)) (w' := w1) ?_ ⟨hT1, Only.refl _ _, rfl⟩
      go_simp
    case op5 =>
      intro L ev w1 hLi hlate hearly hT1 hc hf hfr hG
      rw [if_pos (by decide)]
      have hP : p1Ph W1 (L 12) w1 := hT1
      obtain ⟨hl12, _⟩ := hlate
      rw [hl12] at hP
      have hg : (ev (.tmp 27) = .pointer (some ⟨p, 0, none⟩)) ∧ True := hG
      obtain ⟨g4, _⟩ := hg
      clear hG hfr
      have c : w1.cell? ⟨p, 0, none⟩ = some (.pointer (some ⟨g 0, 0, none⟩)) := (HPA.out.keep (hP rfl)).cEnd (k := 0) (by decide)
      refine OpSays.value (v := .pointer (some ⟨g 0, 0, none⟩)) (w' := w1) ?_ ⟨hT1, Only.refl _ _, rfl⟩
      go_simp
    case op6 =>
      intro L ev w1 hLi hlate hearly hT1 hc hf hfr hG
      rw [if_pos (by decide)]
      have hP : p1Ph W1 (L 12) w1 := hT1
      obtain ⟨hl12, _⟩ := hlate
      rw [hl12] at hP
      have h3 : ev (.tmp 3) = .pointer (some ⟨q, 0, none⟩) := hfr 3 (by decide)
      clear hG hfr
      refine OpSays.value (v := .pointer (some ⟨q, 2, none⟩)) (w' := w1) ?_ ⟨hT1, Only.refl _ _, rfl⟩
      go_simp
    case op7 =>
      intro L ev w1 hLi hlate hearly hT1 hc hf hfr hG
      rw [if_pos (by decide)]
      have hP : p1Ph W1 (L 12) w1 := hT1
      obtain ⟨hl12, _⟩ := hlate
      rw [hl12] at hP
      have hg : (ev (.tmp 29) = .pointer (some ⟨q, 2, none⟩)) ∧ True := hG
      obtain ⟨g6, _⟩ := hg
      clear hG hfr
      have c : w1.cell? ⟨q, 2, none⟩ = some (.string tx) := (blk_cell ((hP rfl).at HQ.out (fun h => h)) 2).trans rfl
      refine OpSays.value (v := .string tx) (w' := w1) ?_ ⟨hT1, Only.refl _ _, rfl⟩
      go_simp
    case op8 =>
      intro L ev w1 hLi hlate hearly hT1 hc hf hfr hG
      rw [if_pos (by decide)]
      have hP : p1Ph W1 (L 12) w1 := hT1
      obtain ⟨hl12, _⟩ := hlate
      rw [hl12] at hP
      have h0 : ev (.tmp 0) = .pointer (some ⟨p, 0, none⟩) := hfr 0 (by decide)
      clear hG hfr
      refine OpSays.value (v := .pointer (some ⟨p, 0, none⟩)) (w' := w1) ?_ ⟨hT1, Only.refl _ _, rfl⟩
      go_simp
    case op9 =>
      intro L ev w1 hLi hlate hearly hT1 hc hf hfr hG
      rw [if_pos (by decide)]
      have hP : p1Ph W1 (L 12) w1 := hT1
      obtain ⟨hl12, _⟩ := hlate
      rw [hl12] at hP
      have hg : (ev (.tmp 31) = .pointer (some ⟨p, 0, none⟩)) ∧ True := hG
      obtain ⟨g8, _⟩ := hg
      clear hG hfr
      refine OpSays.value (v := .pointer (some ⟨p, 0, none⟩)) (w' := w1) ?_ ⟨hT1, Only.refl _ _, rfl⟩
      go_simp
    case op10 =>
      intro L ev w1 hLi hlate hearly hT1 hc hf hfr hG
      rw [if_pos (by decide)]
      have hP : p1Ph W1 (L 12) w1 := hT1
      obtain ⟨hl12, _⟩ := hlate
      rw [hl12] at hP
      have hg : (ev (.tmp 32) = .pointer (some ⟨p, 0, none⟩)) ∧ True := hG
      obtain ⟨g9, _⟩ := hg
      clear hG hfr
      refine OpSays.value (v := .pointer (some ⟨p, 8, none⟩)) (w' := w1) ?_ ⟨hT1, Only.refl _ _, rfl⟩
      go_simp
    case op11 =>
      intro L ev w1 hLi hlate hearly hT1 hc hf hfr hG
      rw [if_pos (by decide)]
      have hP : p1Ph W1 (L 12) w1 := hT1
      obtain ⟨hl12, _⟩ := hlate
      rw [hl12] at hP
      have hg : (ev (.tmp 33) = .pointer (some ⟨p, 8, none⟩)) ∧ True := hG
      obtain ⟨g10, _⟩ := hg
      clear hG hfr
      have c := (HPA.out.keep (hP rfl)).cNow
      refine OpSays.value (v := .int .i64 S.now) (w' := w1) ?_ ⟨hT1, Only.refl _ _, rfl⟩
      go_simp
    case op12 =>
      intro L ev w1 hLi hlate hearly hT1 hc hf hfr hG
      rw [if_pos (by decide)]
      have hP : p1Ph W1 (L 12) w1 := hT1
      rw [hLi] at hP
      change OpSays _ _ _ _ (fun v w' => p1Ph W1 (true) w' ∧ _ ∧ _)
      have hg : (ev (.tmp 28) = .pointer (some ⟨g 0, 0, none⟩)) ∧ (ev (.tmp 30) = .string tx) ∧ (ev (.tmp 34) = .int .i64 S.now) ∧ True := hG
      obtain ⟨g5, g7, g11, _⟩ := hg
      clear hG hfr
      have hpa := HPA.out.keep (hP rfl)
      refine OpSays.enter (f := 28) (args := #[.pointer (some ⟨g 0, 0, none⟩), .string tx, .int .i64 S.now]) (w' := w1) ?_ ?_
      · go_simp
      · refine (pair_send hpa (by decide) HPI.out tx HTX.out).mono ?_
        rintro e' w2 ⟨rfl, hs, hk⟩
        exact ⟨_, rfl, fun e => (by cases e), hk.mono (fun _ _ _ => rfl), rfl, hk.at ((hP rfl).at HQ.out (fun h => h)) (foot_do (hpa.e 0 (by decide)) ((hP rfl).at HQ.out (fun h => h))), hs⟩
    case op13 =>
      intro L ev w1 hLi hlate hearly hT1 hc hf hfr hG
      rw [if_pos (by decide)]
      have hP : p1Ph W1 (L 12) w1 := hT1
      obtain ⟨he12, _⟩ := hearly
      rw [he12] at hP
      have hg : (ev (.tmp 35) = .tuple #[.string (sendX (S.s 0) tx S.now), .int .i64 (sendC (S.s 0))] ∧ w1.heap[q]? = some (.cells #[.int .i64 kd, .int .i64 nn, .string tx, .bool false] 50 (0, 0)) ∧ ∃ s', sendsTo (S.s 0) s' tx S.now ∧ PAt W w1 6 p g mo me rv { S with s := put S.s 0 s' }) ∧ True := hG
      obtain ⟨g12, _⟩ := hg
      clear hG hfr
      obtain ⟨g12, _⟩ := g12
      refine OpSays.value (v := .tuple #[.string (sendX (S.s 0) tx S.now), .int .i64 (sendC (S.s 0))]) (w' := w1) ?_ ⟨hT1, Only.refl _ _, rfl⟩
      go_simp
    case op14 =>
      intro L ev w1 hLi hlate hearly hT1 hc hf hfr hG
      rw [if_pos (by decide)]
      have hP : p1Ph W1 (L 12) w1 := hT1
      obtain ⟨he12, _⟩ := hearly
      rw [he12] at hP
      have hg : (ev (.tmp 22) = .tuple #[.string (sendX (S.s 0) tx S.now), .int .i64 (sendC (S.s 0))]) ∧ True := hG
      obtain ⟨g13, _⟩ := hg
      clear hG hfr
      refine OpSays.value (v := .string (sendX (S.s 0) tx S.now)) (w' := w1) ?_ ⟨hT1, Only.refl _ _, rfl⟩
      go_simp
    case op15 =>
      intro L ev w1 hLi hlate hearly hT1 hc hf hfr hG
      rw [if_pos (by decide)]
      have hP : p1Ph W1 (L 12) w1 := hT1
      obtain ⟨he12, _⟩ := hearly
      rw [he12] at hP
      have hg : (ev (.tmp 22) = .tuple #[.string (sendX (S.s 0) tx S.now), .int .i64 (sendC (S.s 0))]) ∧ True := hG
      obtain ⟨g13, _⟩ := hg
      clear hG hfr
      refine OpSays.value (v := .int .i64 (sendC (S.s 0))) (w' := w1) ?_ ⟨hT1, Only.refl _ _, rfl⟩
      go_simp
    case op16 =>
      intro L ev w1 hLi hlate hearly hT1 hc hf hfr hG
      rw [if_pos (by decide)]
      have hP : p1Ph W1 (L 12) w1 := hT1
      obtain ⟨he12, _⟩ := hearly
      rw [he12] at hP
      have hg : (ev (.tmp 36) = .string (sendX (S.s 0) tx S.now)) ∧ True := hG
      obtain ⟨g14, _⟩ := hg
      clear hG hfr
      refine OpSays.value (v := .string (sendX (S.s 0) tx S.now)) (w' := w1) ?_ ⟨hT1, Only.refl _ _, rfl⟩
      go_simp
  rintro L ⟨tm, df⟩ w2 hL hT1 hsz hdf hfr hG
  have hPE : p1Ph W1 (true) w2 := by
    have hP : p1Ph W1 (L 12) w2 := hT1
    have hm := fun k (hk : k ∈ List.range 17) => AllB.get hL k hk
    rw [hm 12 (by decide)] at hP
    exact hP
  clear hT1 hL
  have k0 : tm.getD 0 undef = .pointer (some ⟨p, 0, none⟩) := hfr 0 (by decide)
  have k3 : tm.getD 3 undef = .pointer (some ⟨q, 0, none⟩) := hfr 3 (by decide)
  have k5 : tm.getD 5 undef = .int .i64 0 := hfr 5 (by decide)
  have k7 : tm.getD 7 undef = .string (sendX (S.s 0) tx S.now) := AllG.get hG 16 (by decide)
  have k37 : tm.getD 37 undef = .int .i64 (sendC (S.s 0)) := AllG.get hG 15 (by decide)
  obtain ⟨_, hq2, s', hsend, hp2⟩ : _ ∧ w2.heap[q]? = some (.cells #[.int .i64 kd, .int .i64 nn, .string tx, .bool false] 50 (0, 0)) ∧ ∃ s', sendsTo (S.s 0) s' tx S.now ∧ PAt W w2 6 p g mo me rv { S with s := put S.s 0 s' } := AllG.get hG 12 (by decide)
  have he : tm = #[tm.getD 0 undef, tm.getD 1 undef, tm.getD 2 undef, tm.getD 3 undef, tm.getD 4 undef, tm.getD 5 undef, tm.getD 6 undef, tm.getD 7 undef, tm.getD 8 undef, tm.getD 9 undef, tm.getD 10 undef, tm.getD 11 undef, tm.getD 12 undef, tm.getD 13 undef, tm.getD 14 undef, tm.getD 15 undef, tm.getD 16 undef, tm.getD 17 undef, tm.getD 18 undef, tm.getD 19 undef, tm.getD 20 undef, tm.getD 21 undef, tm.getD 22 undef, tm.getD 23 undef, tm.getD 24 undef, tm.getD 25 undef, tm.getD 26 undef, tm.getD 27 undef, tm.getD 28 undef, tm.getD 29 undef, tm.getD 30 undef, tm.getD 31 undef, tm.getD 32 undef, tm.getD 33 undef, tm.getD 34 undef, tm.getD 35 undef, tm.getD 36 undef, tm.getD 37 undef, tm.getD 38 undef, tm.getD 39 undef, tm.getD 40 undef, tm.getD 41 undef, tm.getD 42 undef, tm.getD 43 undef, tm.getD 44 undef, tm.getD 45 undef, tm.getD 46 undef, tm.getD 47 undef, tm.getD 48 undef, tm.getD 49 undef, tm.getD 50 undef, tm.getD 51 undef, tm.getD 52 undef, tm.getD 53 undef, tm.getD 54 undef, tm.getD 55 undef, tm.getD 56 undef, tm.getD 57 undef, tm.getD 58 undef, tm.getD 59 undef, tm.getD 60 undef, tm.getD 61 undef, tm.getD 62 undef, tm.getD 63 undef, tm.getD 64 undef, tm.getD 65 undef, tm.getD 66 undef, tm.getD 67 undef, tm.getD 68 undef, tm.getD 69 undef, tm.getD 70 undef, tm.getD 71 undef, tm.getD 72 undef, tm.getD 73 undef, tm.getD 74 undef, tm.getD 75 undef, tm.getD 76 undef, tm.getD 77 undef, tm.getD 78 undef, tm.getD 79 undef, tm.getD 80 undef, tm.getD 81 undef, tm.getD 82 undef, tm.getD 83 undef, tm.getD 84 undef, tm.getD 85 undef, tm.getD 86 undef, tm.getD 87 undef, tm.getD 88 undef, tm.getD 89 undef, tm.getD 90 undef, tm.getD 91 undef, tm.getD 92 undef, tm.getD 93 undef, tm.getD 94 undef, tm.getD 95 undef, tm.getD 96 undef, tm.getD 97 undef, tm.getD 98 undef, tm.getD 99 undef, tm.getD 100 undef, tm.getD 101 undef, tm.getD 102 undef, tm.getD 103 undef, tm.getD 104 undef, tm.getD 105 undef, tm.getD 106 undef, tm.getD 107 undef, tm.getD 108 undef, tm.getD 109 undef, tm.getD 110 undef, tm.getD 111 undef, tm.getD 112 undef, tm.getD 113 undef, tm.getD 114 undef, tm.getD 115 undef, tm.getD 116 undef, tm.getD 117 undef, tm.getD 118 undef, tm.getD 119 undef, tm.getD 120 undef, tm.getD 121 undef, tm.getD 122 undef, tm.getD 123 undef, tm.getD 124 undef, tm.getD 125 undef, tm.getD 126 undef, tm.getD 127 undef, tm.getD 128 undef, tm.getD 129 undef, tm.getD 130 undef, tm.getD 131 undef, tm.getD 132 undef, tm.getD 133 undef, tm.getD 134 undef, tm.getD 135 undef, tm.getD 136 undef, tm.getD 137 undef, tm.getD 138 undef, tm.getD 139 undef, tm.getD 140 undef, tm.getD 141 undef, tm.getD 142 undef, tm.getD 143 undef, tm.getD 144 undef, tm.getD 145 undef, tm.getD 146 undef, tm.getD 147 undef, tm.getD 148 undef, tm.getD 149 undef, tm.getD 150 undef, tm.getD 151 undef, tm.getD 152 undef, tm.getD 153 undef, tm.getD 154 undef, tm.getD 155 undef, tm.getD 156 undef, tm.getD 157 undef, tm.getD 158 undef, tm.getD 159 undef, tm.getD 160 undef, tm.getD 161 undef, tm.getD 162 undef, tm.getD 163 undef, tm.getD 164 undef, tm.getD 165 undef, tm.getD 166 undef, tm.getD 167 undef, tm.getD 168 undef, tm.getD 169 undef, tm.getD 170 undef, tm.getD 171 undef, tm.getD 172 undef, tm.getD 173 undef, tm.getD 174 undef, tm.getD 175 undef, tm.getD 176 undef, tm.getD 177 undef, tm.getD 178 undef, tm.getD 179 undef, tm.getD 180 undef, tm.getD 181 undef, tm.getD 182 undef, tm.getD 183 undef, tm.getD 184 undef, tm.getD 185 undef, tm.getD 186 undef, tm.getD 187 undef, tm.getD 188 undef, tm.getD 189 undef, tm.getD 190 undef, tm.getD 191 undef, tm.getD 192 undef, tm.getD 193 undef, tm.getD 194 undef, tm.getD 195 undef, tm.getD 196 undef, tm.getD 197 undef, tm.getD 198 undef, tm.getD 199 undef, tm.getD 200 undef, tm.getD 201 undef, tm.getD 202 undef, tm.getD 203 undef, tm.getD 204 undef, tm.getD 205 undef, tm.getD 206 undef, tm.getD 207 undef, tm.getD 208 undef, tm.getD 209 undef, tm.getD 210 undef, tm.getD 211 undef, tm.getD 212 undef, tm.getD 213 undef, tm.getD 214 undef, tm.getD 215 undef, tm.getD 216 undef] := arr_eta (n := 217) hsz
  replace hdf : df = [] := hdf
  subst hdf
  clear hsz hfr hG
  rw [he, k0, k3, k5, k7, k37]
  clear he k0 k3 k5 k7 k37
  generalize tm.getD 1 undef = x1
  generalize tm.getD 2 undef = x2
  generalize tm.getD 4 undef = x4
  generalize tm.getD 6 undef = x6
  generalize tm.getD 8 undef = x8
  generalize tm.getD 9 undef = x9
  generalize tm.getD 10 undef = x10
  generalize tm.getD 11 undef = x11
  generalize tm.getD 12 undef = x12
  generalize tm.getD 13 undef = x13
  generalize tm.getD 14 undef = x14
  generalize tm.getD 15 undef = x15
  generalize tm.getD 16 undef = x16
  generalize tm.getD 17 undef = x17
  generalize tm.getD 18 undef = x18
  generalize tm.getD 19 undef = x19
  generalize tm.getD 20 undef = x20
  generalize tm.getD 21 undef = x21
  generalize tm.getD 22 undef = x22
  generalize tm.getD 23 undef = x23
  generalize tm.getD 24 undef = x24
  generalize tm.getD 25 undef = x25
  generalize tm.getD 26 undef = x26
  generalize tm.getD 27 undef = x27
  generalize tm.getD 28 undef = x28
  generalize tm.getD 29 undef = x29
  generalize tm.getD 30 undef = x30
  generalize tm.getD 31 undef = x31
  generalize tm.getD 32 undef = x32
  generalize tm.getD 33 undef = x33
  generalize tm.getD 34 undef = x34
  generalize tm.getD 35 undef = x35
  generalize tm.getD 36 undef = x36
  generalize tm.getD 38 undef = x38
  generalize tm.getD 39 undef = x39
  generalize tm.getD 40 undef = x40
  generalize tm.getD 41 undef = x41
  generalize tm.getD 42 undef = x42
  generalize tm.getD 43 undef = x43
  generalize tm.getD 44 undef = x44
  generalize tm.getD 45 undef = x45
  generalize tm.getD 46 undef = x46
  generalize tm.getD 47 undef = x47
  generalize tm.getD 48 undef = x48
  generalize tm.getD 49 undef = x49
  generalize tm.getD 50 undef = x50
  generalize tm.getD 51 undef = x51
  generalize tm.getD 52 undef = x52
  generalize tm.getD 53 undef = x53
  generalize tm.getD 54 undef = x54
  generalize tm.getD 55 undef = x55
  generalize tm.getD 56 undef = x56
  generalize tm.getD 57 undef = x57
  generalize tm.getD 58 undef = x58
  generalize tm.getD 59 undef = x59
  generalize tm.getD 60 undef = x60
  generalize tm.getD 61 undef = x61
  generalize tm.getD 62 undef = x62
  generalize tm.getD 63 undef = x63
  generalize tm.getD 64 undef = x64
  generalize tm.getD 65 undef = x65
  generalize tm.getD 66 undef = x66
  generalize tm.getD 67 undef = x67
  generalize tm.getD 68 undef = x68
  generalize tm.getD 69 undef = x69
  generalize tm.getD 70 undef = x70
  generalize tm.getD 71 undef = x71
  generalize tm.getD 72 undef = x72
  generalize tm.getD 73 undef = x73
  generalize tm.getD 74 undef = x74
  generalize tm.getD 75 undef = x75
  generalize tm.getD 76 undef = x76
  generalize tm.getD 77 undef = x77
  generalize tm.getD 78 undef = x78
  generalize tm.getD 79 undef = x79
  generalize tm.getD 80 undef = x80
  generalize tm.getD 81 undef = x81
  generalize tm.getD 82 undef = x82
  generalize tm.getD 83 undef = x83
  generalize tm.getD 84 undef = x84
  generalize tm.getD 85 undef = x85
  generalize tm.getD 86 undef = x86
  generalize tm.getD 87 undef = x87
  generalize tm.getD 88 undef = x88
  generalize tm.getD 89 undef = x89
  generalize tm.getD 90 undef = x90
  generalize tm.getD 91 undef = x91
  generalize tm.getD 92 undef = x92
  generalize tm.getD 93 undef = x93
  generalize tm.getD 94 undef = x94
  generalize tm.getD 95 undef = x95
  generalize tm.getD 96 undef = x96
  generalize tm.getD 97 undef = x97
  generalize tm.getD 98 undef = x98
  generalize tm.getD 99 undef = x99
  generalize tm.getD 100 undef = x100
  generalize tm.getD 101 undef = x101
  generalize tm.getD 102 undef = x102
  generalize tm.getD 103 undef = x103
  generalize tm.getD 104 undef = x104
  generalize tm.getD 105 undef = x105
  generalize tm.getD 106 undef = x106
  generalize tm.getD 107 undef = x107
  generalize tm.getD 108 undef = x108
  generalize tm.getD 109 undef = x109
  generalize tm.getD 110 undef = x110
  generalize tm.getD 111 undef = x111
  generalize tm.getD 112 undef = x112
  generalize tm.getD 113 undef = x113
  generalize tm.getD 114 undef = x114
  generalize tm.getD 115 undef = x115
  generalize tm.getD 116 undef = x116
  generalize tm.getD 117 undef = x117
  generalize tm.getD 118 undef = x118
  generalize tm.getD 119 undef = x119
  generalize tm.getD 120 undef = x120
  generalize tm.getD 121 undef = x121
  generalize tm.getD 122 undef = x122
  generalize tm.getD 123 undef = x123
  generalize tm.getD 124 undef = x124
  generalize tm.getD 125 undef = x125
  generalize tm.getD 126 undef = x126
  generalize tm.getD 127 undef = x127
  generalize tm.getD 128 undef = x128
  generalize tm.getD 129 undef = x129
  generalize tm.getD 130 undef = x130
  generalize tm.getD 131 undef = x131
  generalize tm.getD 132 undef = x132
  generalize tm.getD 133 undef = x133
  generalize tm.getD 134 undef = x134
  generalize tm.getD 135 undef = x135
  generalize tm.getD 136 undef = x136
  generalize tm.getD 137 undef = x137
  generalize tm.getD 138 undef = x138
  generalize tm.getD 139 undef = x139
  generalize tm.getD 140 undef = x140
  generalize tm.getD 141 undef = x141
  generalize tm.getD 142 undef = x142
  generalize tm.getD 143 undef = x143
  generalize tm.getD 144 undef = x144
  generalize tm.getD 145 undef = x145
  generalize tm.getD 146 undef = x146
  generalize tm.getD 147 undef = x147
  generalize tm.getD 148 undef = x148
  generalize tm.getD 149 undef = x149
  generalize tm.getD 150 undef = x150
  generalize tm.getD 151 undef = x151
  generalize tm.getD 152 undef = x152
  generalize tm.getD 153 undef = x153
  generalize tm.getD 154 undef = x154
  generalize tm.getD 155 undef = x155
  generalize tm.getD 156 undef = x156
  generalize tm.getD 157 undef = x157
  generalize tm.getD 158 undef = x158
  generalize tm.getD 159 undef = x159
  generalize tm.getD 160 undef = x160
  generalize tm.getD 161 undef = x161
  generalize tm.getD 162 undef = x162
  generalize tm.getD 163 undef = x163
  generalize tm.getD 164 undef = x164
  generalize tm.getD 165 undef = x165
  generalize tm.getD 166 undef = x166
  generalize tm.getD 167 undef = x167
  generalize tm.getD 168 undef = x168
  generalize tm.getD 169 undef = x169
  generalize tm.getD 170 undef = x170
  generalize tm.getD 171 undef = x171
  generalize tm.getD 172 undef = x172
  generalize tm.getD 173 undef = x173
  generalize tm.getD 174 undef = x174
  generalize tm.getD 175 undef = x175
  generalize tm.getD 176 undef = x176
  generalize tm.getD 177 undef = x177
  generalize tm.getD 178 undef = x178
  generalize tm.getD 179 undef = x179
  generalize tm.getD 180 undef = x180
  generalize tm.getD 181 undef = x181
  generalize tm.getD 182 undef = x182
  generalize tm.getD 183 undef = x183
  generalize tm.getD 184 undef = x184
  generalize tm.getD 185 undef = x185
  generalize tm.getD 186 undef = x186
  generalize tm.getD 187 undef = x187
  generalize tm.getD 188 undef = x188
  generalize tm.getD 189 undef = x189
  generalize tm.getD 190 undef = x190
  generalize tm.getD 191 undef = x191
  generalize tm.getD 192 undef = x192
  generalize tm.getD 193 undef = x193
  generalize tm.getD 194 undef = x194
  generalize tm.getD 195 undef = x195
  generalize tm.getD 196 undef = x196
  generalize tm.getD 197 undef = x197
  generalize tm.getD 198 undef = x198
  generalize tm.getD 199 undef = x199
  generalize tm.getD 200 undef = x200
  generalize tm.getD 201 undef = x201
  generalize tm.getD 202 undef = x202
  generalize tm.getD 203 undef = x203
  generalize tm.getD 204 undef = x204
  generalize tm.getD 205 undef = x205
  generalize tm.getD 206 undef = x206
  generalize tm.getD 207 undef = x207
  generalize tm.getD 208 undef = x208
  generalize tm.getD 209 undef = x209
  generalize tm.getD 210 undef = x210
  generalize tm.getD 211 undef = x211
  generalize tm.getD 212 undef = x212
  generalize tm.getD 213 undef = x213
  generalize tm.getD 214 undef = x214
  generalize tm.getD 215 undef = x215
  generalize tm.getD 216 undef = x216
  simp only [List.drop_succ_cons, List.drop_zero]
  clear hPE HT HPA HQ
  have hcl : ∀ i, i < 6 → (S.L i).length ≤ 1000000 := fun i hi => by have := HLN.out i hi; omega
  by_cases hfull : (S.s 0).room ≤ (S.s 0).O.length
  · have hsS : s' = S.s 0 := hsend.1 hfull
    rw [hsS, put_same] at hp2
    have hC : sendC (S.s 0) = 150 := if_pos hfull
    rw [hC]
    have HP2 := Lib.hid hp2
    have HR := Lib.hid (HV.out.right)
    clear hsend hq2 hsS hC hp2 hfull
    go_wp2_with fail
    refine (right_true W w2 p g mo me rv S HP2.out HR.out hcl).mono ?_
    rintro e w3 ⟨rfl, hk3⟩
    have HP3 := Lib.hid (HP2.out.keep hk3)
    clear hk3
    go_wp2_with fail
    go_ret
    exact ⟨rv, S, rfl, HP3.out, HV.out.mono (Nat.le_succ a)⟩
  · obtain ⟨bb, hsS⟩ := hsend.2 hfull
    have hC : sendC (S.s 0) = 0 := if_neg hfull
    rw [hC]
    have HDI := Lib.hid (HV.out.send (k := 0) (k' := 1) ha (by omega) tx (by omega) hfull bb)
    rw [← hsS] at HDI
    clear hC hsend hsS hfull
    go_wp2_with fail
    have HPA := Lib.hid (hp2.keep (Only.refl (fun _ => False) w2))
    have HQ := Lib.hid hq2
    obtain ⟨X, hX⟩ : ∃ X, X = sendX (S.s 0) tx S.now := ⟨_, rfl⟩
    rw [← hX] at HDI ⊢
    obtain ⟨S1, hS1⟩ : ∃ S1 : PS, S1 = { S with s := put S.s 0 s' } := ⟨_, rfl⟩
    rw [← hS1] at HPA hp2
    have HS1 := Lib.hid hS1
    have HLN : Hid (∀ i, i < 6 → (S1.L i).length ≤ 20000) := Lib.hid (by rw [HS1.out]; exact HLN.out)
    clear hX hp2 hq2 hS1 HBW B
    obtain ⟨B, hB⟩ : ∃ B, B = w2.heap.size := ⟨_, rfl⟩
    have HBW : Hid (w2.heap.size = B) := Lib.hid hB.symm
    clear hB
    generalize w2 = W2 at *
    have HT : Hid (p1Ph W2 false W2.drew) := Lib.hid (fun _ => (Only.refl _ W2).drew)
    have hp0 := HPA.out
    go_upto_region 8 with fail
    refine wp_region_phasedk_tail 15 e0gDs e0gNeed e0gGs e0gLate e0gEarly (fun L w' => p1Ph W2 (L 11) w') (fun i w w' => Only (p1St 11 i) w w') (e0gG W B p q g mo me rv S1 kd nn tx false) rfl rfl (by kernel_rfl) (by kernel_rfl) (by kernel_rfl) (by kernel_rfl) (by kernel_rfl) (by kernel_rfl) HT.out e0gG.keep e0gG.guard (fun _ _ => Only.refl _ _) ?_ ?_
    · refine And.intro ?op0 (And.intro ?op1 (And.intro ?op2 (And.intro ?op3 (And.intro ?op4 (And.intro ?op5 (And.intro ?op6 (And.intro ?op7 (And.intro ?op8 (And.intro ?op9 (And.intro ?op10 (And.intro ?op11 (And.intro ?op12 (And.intro ?op13 (And.intro ?op14 trivial))))))))))))))
      case op0 =>
        intro L ev w1 hLi hlate hearly hT1 hc hf hfr hG
        rw [if_pos (by decide)]
        have hP : p1Ph W2 (L 11) w1 := hT1
        have h0 : ev (.tmp 0) = .pointer (some ⟨p, 0, none⟩) := hfr 0 (by decide)
        clear hG hfr
        refine OpSays.value (v := .pointer (some ⟨p, 0, none⟩)) (w' := w1) ?_ ⟨hT1, Only.refl _ _, rfl⟩
        go_simp
      case op1 =>
        intro L ev w1 hLi hlate hearly hT1 hc hf hfr hG
        rw [if_pos (by decide)]
        have hP : p1Ph W2 (L 11) w1 := hT1
        have h5 : ev (.tmp 5) = .int .i64 0 := hfr 5 (by decide)
        clear hG hfr
        refine OpSays.value (v := .int .i64 0) (w' := w1) ?_ ⟨hT1, Only.refl _ _, rfl⟩
        go_simp
      case op2 =>
        intro L ev w1 hLi hlate hearly hT1 hc hf hfr hG
        rw [if_pos (by decide)]
        have hP : p1Ph W2 (L 11) w1 := hT1
        obtain ⟨hl11, _⟩ := hlate
        rw [hl11] at hP
        have h0 : ev (.tmp 0) = .pointer (some ⟨p, 0, none⟩) := hfr 0 (by decide)
        clear hG hfr
        refine OpSays.value (v := .pointer (some ⟨p, 0, none⟩)) (w' := w1) ?_ ⟨hT1, Only.refl _ _, rfl⟩
        go_simp
      case op3 =>
        intro L ev w1 hLi hlate hearly hT1 hc hf hfr hG
        rw [if_pos (by decide)]
        have hP : p1Ph W2 (L 11) w1 := hT1
        obtain ⟨hl11, _⟩ := hlate
        rw [hl11] at hP
        have h5 : ev (.tmp 5) = .int .i64 0 := hfr 5 (by decide)
        clear hG hfr
        refine OpSays.value (v := .int .i64 0) (w' := w1) ?_ ⟨hT1, Only.refl _ _, rfl⟩
        go_simp
      case op4 =>
        intro L ev w1 hLi hlate hearly hT1 hc hf hfr hG
        rw [if_pos (by decide)]
        have hP : p1Ph W2 (L 11) w1 := hT1
        obtain ⟨hl11, _⟩ := hlate
        rw [hl11] at hP
        have hg : (ev (.tmp 42) = .pointer (some ⟨p, 0, none⟩)) ∧ True := hG
        obtain ⟨g2, _⟩ := hg
        clear hG hfr
        refine OpSays.value (v := .pointer (some ⟨p, 0, none⟩)) (w' := w1) ?_ ⟨hT1, Only.refl _ _, rfl⟩
        go_simp
      case op5 =>
        intro L ev w1 hLi hlate hearly hT1 hc hf hfr hG
        rw [if_pos (by decide)]
        have hP : p1Ph W2 (L 11) w1 := hT1
        obtain ⟨hl11, _⟩ := hlate
        rw [hl11] at hP
        have hg : (ev (.tmp 44) = .pointer (some ⟨p, 0, none⟩)) ∧ True := hG
        obtain ⟨g4, _⟩ := hg
        clear hG hfr
        refine OpSays.value (v := .pointer (some ⟨p, 4, none⟩)) (w' := w1) ?_ ⟨hT1, Only.refl _ _, rfl⟩
        go_simp
      case op6 =>
        intro L ev w1 hLi hlate hearly hT1 hc hf hfr hG
        rw [if_pos (by decide)]
        have hP : p1Ph W2 (L 11) w1 := hT1
        obtain ⟨hl11, _⟩ := hlate
        rw [hl11] at hP
        have hg : (ev (.tmp 43) = .int .i64 0) ∧ (ev (.tmp 45) = .pointer (some ⟨p, 4, none⟩)) ∧ True := hG
        obtain ⟨g3, g5, _⟩ := hg
        clear hG hfr
        refine OpSays.value (v := .pointer (some ⟨p, 4, none⟩)) (w' := w1) ?_ ⟨hT1, Only.refl _ _, rfl⟩
        go_simp
      case op7 =>
        intro L ev w1 hLi hlate hearly hT1 hc hf hfr hG
        rw [if_pos (by decide)]
        have hP : p1Ph W2 (L 11) w1 := hT1
        obtain ⟨hl11, _⟩ := hlate
        rw [hl11] at hP
        have hg : (ev (.tmp 46) = .pointer (some ⟨p, 4, none⟩)) ∧ True := hG
        obtain ⟨g6, _⟩ := hg
        clear hG hfr
        have c : w1.cell? ⟨p, 4, none⟩ = some (rv 2) := (HPA.out.keep (hP rfl)).cRow (i := 2) (by decide)
        refine OpSays.value (v := rv 2) (w' := w1) ?_ ⟨hT1, Only.refl _ _, rfl⟩
        go_simp
      case op8 =>
        intro L ev w1 hLi hlate hearly hT1 hc hf hfr hG
        rw [if_pos (by decide)]
        have hP : p1Ph W2 (L 11) w1 := hT1
        obtain ⟨hl11, _⟩ := hlate
        rw [hl11] at hP
        have h3 : ev (.tmp 3) = .pointer (some ⟨q, 0, none⟩) := hfr 3 (by decide)
        clear hG hfr
        refine OpSays.value (v := .pointer (some ⟨q, 2, none⟩)) (w' := w1) ?_ ⟨hT1, Only.refl _ _, rfl⟩
        go_simp
      case op9 =>
        intro L ev w1 hLi hlate hearly hT1 hc hf hfr hG
        rw [if_pos (by decide)]
        have hP : p1Ph W2 (L 11) w1 := hT1
        obtain ⟨hl11, _⟩ := hlate
        rw [hl11] at hP
        have hg : (ev (.tmp 48) = .pointer (some ⟨q, 2, none⟩)) ∧ True := hG
        obtain ⟨g8, _⟩ := hg
        clear hG hfr
        have c : w1.cell? ⟨q, 2, none⟩ = some (.string tx) := (blk_cell ((hP rfl).at HQ.out (fun h => h)) 2).trans rfl
        refine OpSays.value (v := .string tx) (w' := w1) ?_ ⟨hT1, Only.refl _ _, rfl⟩
        go_simp
      case op10 =>
        intro L ev w1 hLi hlate hearly hT1 hc hf hfr hG
        rw [if_pos (by decide)]
        have hP : p1Ph W2 (L 11) w1 := hT1
        obtain ⟨hl11, _⟩ := hlate
        rw [hl11] at hP
        change OpSays _ _ _ _ (fun v w' => p1Ph W2 (L 11) w' ∧ _ ∧ _)
        rw [hl11]
        have hg : (ev (.tmp 49) = .string tx) ∧ True := hG
        obtain ⟨g9, _⟩ := hg
        clear hG hfr
        have hk := (Only.refl (fun _ => False) w1).alloc (.cells #[.string tx] 9)
        have hBz : B ≤ w1.heap.size := by have := (hP rfl).size; have := HBW.out; omega
        refine OpSays.value (v := .slice (some ⟨w1.heap.size, 0, none⟩) 1 1) (w' := w1.alloc (.cells #[.string tx] 9)) ?_ ⟨fun _ => (hP rfl).trans hk, hk.mono (fun _ _ h => h.elim), w1.heap.size, rfl, hBz, fun _ => blk_new w1 _⟩
        go_simp
      case op11 =>
        intro L ev w1 hLi hlate hearly hT1 hc hf hfr hG
        rw [if_pos (by decide)]
        have hP : p1Ph W2 (L 11) w1 := hT1
        rw [hLi] at hP
        change OpSays _ _ _ _ (fun v w' => p1Ph W2 (true) w' ∧ _ ∧ _)
        have hg : (ev (.tmp 47) = rv 2) ∧ (∃ z, ev (.tmp 50) = .slice (some ⟨z, 0, none⟩) 1 1 ∧ B ≤ z ∧ (L 11 = false → w1.heap[z]? = some (.cells #[.string tx] 9 (0, 0)))) ∧ True := hG
        obtain ⟨g7, g10, _⟩ := hg
        clear hG hfr
        obtain ⟨z, g10, hz, hz2⟩ := g10
        have hpa := HPA.out.keep (hP rfl)
        obtain ⟨v2, w2, hr, h1, h2, h3⟩ := append_texts w1 43 W.heap.size _ _ (S1.L 2) [tx] (hpa.rows 2 (by decide) (by decide)) (one_src (hz2 hLi)) hpa.only.size (by have := HLN.out 2 (by decide); simp only [List.length_cons, List.length_nil]; omega)
        refine OpSays.value (v := v2) (w' := w2) ?_ ⟨fun e => (by cases e), (Only.of_grown h2).mono (fun _ _ _ => rfl), h1, fun b hb => (h3 b hb).imp id (fun h => by have := (hP rfl).size; have := HBW.out; omega), hpa.grown (by decide) h2⟩
        unfold execOp
        simp only [resolve, invoke, builtin, Sem.run_bind, Sem.run_pure, Result.andThen_ok, List.map_toArray, List.map_cons, List.map_nil, g7, g10, hr]
      case op12 =>
        intro L ev w1 hLi hlate hearly hT1 hc hf hfr hG
        rw [if_pos (by decide)]
        have hP : p1Ph W2 (L 11) w1 := hT1
        have hg : (ev (.tmp 40) = .pointer (some ⟨p, 0, none⟩)) ∧ True := hG
        obtain ⟨g0, _⟩ := hg
        clear hG hfr
        refine OpSays.value (v := .pointer (some ⟨p, 0, none⟩)) (w' := w1) ?_ ⟨hT1, Only.refl _ _, rfl⟩
        go_simp
      case op13 =>
        intro L ev w1 hLi hlate hearly hT1 hc hf hfr hG
        rw [if_pos (by decide)]
        have hP : p1Ph W2 (L 11) w1 := hT1
        have hg : (ev (.tmp 52) = .pointer (some ⟨p, 0, none⟩)) ∧ True := hG
        obtain ⟨g12, _⟩ := hg
        clear hG hfr
        refine OpSays.value (v := .pointer (some ⟨p, 4, none⟩)) (w' := w1) ?_ ⟨hT1, Only.refl _ _, rfl⟩
        go_simp
      case op14 =>
        intro L ev w1 hLi hlate hearly hT1 hc hf hfr hG
        rw [if_pos (by decide)]
        have hP : p1Ph W2 (L 11) w1 := hT1
        have hg : (ev (.tmp 41) = .int .i64 0) ∧ (ev (.tmp 53) = .pointer (some ⟨p, 4, none⟩)) ∧ True := hG
        obtain ⟨g1, g13, _⟩ := hg
        clear hG hfr
        refine OpSays.value (v := .pointer (some ⟨p, 4, none⟩)) (w' := w1) ?_ ⟨hT1, Only.refl _ _, rfl⟩
        go_simp
    rintro L ⟨tm, df⟩ w3 hL hT1 hsz hdf hfr hG
    have hPE : p1Ph W2 (true) w3 := by
      have hP : p1Ph W2 (L 11) w3 := hT1
      have hm := fun k (hk : k ∈ List.range 15) => AllB.get hL k hk
      rw [hm 11 (by decide)] at hP
      exact hP
    clear hT1 hL
    have k0 : tm.getD 0 undef = .pointer (some ⟨p, 0, none⟩) := hfr 0 (by decide)
    have k3 : tm.getD 3 undef = .pointer (some ⟨q, 0, none⟩) := hfr 3 (by decide)
    have k5 : tm.getD 5 undef = .int .i64 0 := hfr 5 (by decide)
    have k7 : tm.getD 7 undef = .string X := hfr 7 (by decide)
    have k54 : tm.getD 54 undef = .pointer (some ⟨p, 4, none⟩) := AllG.get hG 14 (by decide)
    obtain ⟨hrow, hob, hpx⟩ : w3.ownsRow W.heap.size 9 1 (tm.getD 51 undef) (S1.L 2 ++ [tx]).length ((S1.L 2 ++ [tx]).map Value.string) ∧ (∀ b, (tm.getD 51 undef).ownBlock = some b → (rv 2).ownBlock = some b ∨ B ≤ b) ∧ PAt W w3 2 p g mo me rv S1 := AllG.get hG 11 (by decide)
    have he : tm = #[tm.getD 0 undef, tm.getD 1 undef, tm.getD 2 undef, tm.getD 3 undef, tm.getD 4 undef, tm.getD 5 undef, tm.getD 6 undef, tm.getD 7 undef, tm.getD 8 undef, tm.getD 9 undef, tm.getD 10 undef, tm.getD 11 undef, tm.getD 12 undef, tm.getD 13 undef, tm.getD 14 undef, tm.getD 15 undef, tm.getD 16 undef, tm.getD 17 undef, tm.getD 18 undef, tm.getD 19 undef, tm.getD 20 undef, tm.getD 21 undef, tm.getD 22 undef, tm.getD 23 undef, tm.getD 24 undef, tm.getD 25 undef, tm.getD 26 undef, tm.getD 27 undef, tm.getD 28 undef, tm.getD 29 undef, tm.getD 30 undef, tm.getD 31 undef, tm.getD 32 undef, tm.getD 33 undef, tm.getD 34 undef, tm.getD 35 undef, tm.getD 36 undef, tm.getD 37 undef, tm.getD 38 undef, tm.getD 39 undef, tm.getD 40 undef, tm.getD 41 undef, tm.getD 42 undef, tm.getD 43 undef, tm.getD 44 undef, tm.getD 45 undef, tm.getD 46 undef, tm.getD 47 undef, tm.getD 48 undef, tm.getD 49 undef, tm.getD 50 undef, tm.getD 51 undef, tm.getD 52 undef, tm.getD 53 undef, tm.getD 54 undef, tm.getD 55 undef, tm.getD 56 undef, tm.getD 57 undef, tm.getD 58 undef, tm.getD 59 undef, tm.getD 60 undef, tm.getD 61 undef, tm.getD 62 undef, tm.getD 63 undef, tm.getD 64 undef, tm.getD 65 undef, tm.getD 66 undef, tm.getD 67 undef, tm.getD 68 undef, tm.getD 69 undef, tm.getD 70 undef, tm.getD 71 undef, tm.getD 72 undef, tm.getD 73 undef, tm.getD 74 undef, tm.getD 75 undef, tm.getD 76 undef, tm.getD 77 undef, tm.getD 78 undef, tm.getD 79 undef, tm.getD 80 undef, tm.getD 81 undef, tm.getD 82 undef, tm.getD 83 undef, tm.getD 84 undef, tm.getD 85 undef, tm.getD 86 undef, tm.getD 87 undef, tm.getD 88 undef, tm.getD 89 undef, tm.getD 90 undef, tm.getD 91 undef, tm.getD 92 undef, tm.getD 93 undef, tm.getD 94 undef, tm.getD 95 undef, tm.getD 96 undef, tm.getD 97 undef, tm.getD 98 undef, tm.getD 99 undef, tm.getD 100 undef, tm.getD 101 undef, tm.getD 102 undef, tm.getD 103 undef, tm.getD 104 undef, tm.getD 105 undef, tm.getD 106 undef, tm.getD 107 undef, tm.getD 108 undef, tm.getD 109 undef, tm.getD 110 undef, tm.getD 111 undef, tm.getD 112 undef, tm.getD 113 undef, tm.getD 114 undef, tm.getD 115 undef, tm.getD 116 undef, tm.getD 117 undef, tm.getD 118 undef, tm.getD 119 undef, tm.getD 120 undef, tm.getD 121 undef, tm.getD 122 undef, tm.getD 123 undef, tm.getD 124 undef, tm.getD 125 undef, tm.getD 126 undef, tm.getD 127 undef, tm.getD 128 undef, tm.getD 129 undef, tm.getD 130 undef, tm.getD 131 undef, tm.getD 132 undef, tm.getD 133 undef, tm.getD 134 undef, tm.getD 135 undef, tm.getD 136 undef, tm.getD 137 undef, tm.getD 138 undef, tm.getD 139 undef, tm.getD 140 undef, tm.getD 141 undef, tm.getD 142 undef, tm.getD 143 undef, tm.getD 144 undef, tm.getD 145 undef, tm.getD 146 undef, tm.getD 147 undef, tm.getD 148 undef, tm.getD 149 undef, tm.getD 150 undef, tm.getD 151 undef, tm.getD 152 undef, tm.getD 153 undef, tm.getD 154 undef, tm.getD 155 undef, tm.getD 156 undef, tm.getD 157 undef, tm.getD 158 undef, tm.getD 159 undef, tm.getD 160 undef, tm.getD 161 undef, tm.getD 162 undef, tm.getD 163 undef, tm.getD 164 undef, tm.getD 165 undef, tm.getD 166 undef, tm.getD 167 undef, tm.getD 168 undef, tm.getD 169 undef, tm.getD 170 undef, tm.getD 171 undef, tm.getD 172 undef, tm.getD 173 undef, tm.getD 174 undef, tm.getD 175 undef, tm.getD 176 undef, tm.getD 177 undef, tm.getD 178 undef, tm.getD 179 undef, tm.getD 180 undef, tm.getD 181 undef, tm.getD 182 undef, tm.getD 183 undef, tm.getD 184 undef, tm.getD 185 undef, tm.getD 186 undef, tm.getD 187 undef, tm.getD 188 undef, tm.getD 189 undef, tm.getD 190 undef, tm.getD 191 undef, tm.getD 192 undef, tm.getD 193 undef, tm.getD 194 undef, tm.getD 195 undef, tm.getD 196 undef, tm.getD 197 undef, tm.getD 198 undef, tm.getD 199 undef, tm.getD 200 undef, tm.getD 201 undef, tm.getD 202 undef, tm.getD 203 undef, tm.getD 204 undef, tm.getD 205 undef, tm.getD 206 undef, tm.getD 207 undef, tm.getD 208 undef, tm.getD 209 undef, tm.getD 210 undef, tm.getD 211 undef, tm.getD 212 undef, tm.getD 213 undef, tm.getD 214 undef, tm.getD 215 undef, tm.getD 216 undef] := arr_eta (n := 217) hsz
    replace hdf : df = [] := hdf
    subst hdf
    clear hsz hfr hG
    rw [he, k0, k3, k5, k7, k54]
    clear he k0 k3 k5 k7 k54
    generalize tm.getD 1 undef = x1
    generalize tm.getD 2 undef = x2
    generalize tm.getD 4 undef = x4
    generalize tm.getD 6 undef = x6
    generalize tm.getD 8 undef = x8
    generalize tm.getD 9 undef = x9
    generalize tm.getD 10 undef = x10
    generalize tm.getD 11 undef = x11
    generalize tm.getD 12 undef = x12
    generalize tm.getD 13 undef = x13
    generalize tm.getD 14 undef = x14
    generalize tm.getD 15 undef = x15
    generalize tm.getD 16 undef = x16
    generalize tm.getD 17 undef = x17
    generalize tm.getD 18 undef = x18
    generalize tm.getD 19 undef = x19
    generalize tm.getD 20 undef = x20
    generalize tm.getD 21 undef = x21
    generalize tm.getD 22 undef = x22
    generalize tm.getD 23 undef = x23
    generalize tm.getD 24 undef = x24
    generalize tm.getD 25 undef = x25
    generalize tm.getD 26 undef = x26
    generalize tm.getD 27 undef = x27
    generalize tm.getD 28 undef = x28
    generalize tm.getD 29 undef = x29
    generalize tm.getD 30 undef = x30
    generalize tm.getD 31 undef = x31
    generalize tm.getD 32 undef = x32
    generalize tm.getD 33 undef = x33
    generalize tm.getD 34 undef = x34
    generalize tm.getD 35 undef = x35
    generalize tm.getD 36 undef = x36
    generalize tm.getD 37 undef = x37
    generalize tm.getD 38 undef = x38
    generalize tm.getD 39 undef = x39
    generalize tm.getD 40 undef = x40
    generalize tm.getD 41 undef = x41
    generalize tm.getD 42 undef = x42
    generalize tm.getD 43 undef = x43
    generalize tm.getD 44 undef = x44
    generalize tm.getD 45 undef = x45
    generalize tm.getD 46 undef = x46
    generalize tm.getD 47 undef = x47
    generalize tm.getD 48 undef = x48
    generalize tm.getD 49 undef = x49
    generalize tm.getD 50 undef = x50
    generalize tm.getD 51 undef = vg at hrow hob ⊢
    generalize tm.getD 52 undef = x52
    generalize tm.getD 53 undef = x53
    generalize tm.getD 55 undef = x55
    generalize tm.getD 56 undef = x56
    generalize tm.getD 57 undef = x57
    generalize tm.getD 58 undef = x58
    generalize tm.getD 59 undef = x59
    generalize tm.getD 60 undef = x60
    generalize tm.getD 61 undef = x61
    generalize tm.getD 62 undef = x62
    generalize tm.getD 63 undef = x63
    generalize tm.getD 64 undef = x64
    generalize tm.getD 65 undef = x65
    generalize tm.getD 66 undef = x66
    generalize tm.getD 67 undef = x67
    generalize tm.getD 68 undef = x68
    generalize tm.getD 69 undef = x69
    generalize tm.getD 70 undef = x70
    generalize tm.getD 71 undef = x71
    generalize tm.getD 72 undef = x72
    generalize tm.getD 73 undef = x73
    generalize tm.getD 74 undef = x74
    generalize tm.getD 75 undef = x75
    generalize tm.getD 76 undef = x76
    generalize tm.getD 77 undef = x77
    generalize tm.getD 78 undef = x78
    generalize tm.getD 79 undef = x79
    generalize tm.getD 80 undef = x80
    generalize tm.getD 81 undef = x81
    generalize tm.getD 82 undef = x82
    generalize tm.getD 83 undef = x83
    generalize tm.getD 84 undef = x84
    generalize tm.getD 85 undef = x85
    generalize tm.getD 86 undef = x86
    generalize tm.getD 87 undef = x87
    generalize tm.getD 88 undef = x88
    generalize tm.getD 89 undef = x89
    generalize tm.getD 90 undef = x90
    generalize tm.getD 91 undef = x91
    generalize tm.getD 92 undef = x92
    generalize tm.getD 93 undef = x93
    generalize tm.getD 94 undef = x94
    generalize tm.getD 95 undef = x95
    generalize tm.getD 96 undef = x96
    generalize tm.getD 97 undef = x97
    generalize tm.getD 98 undef = x98
    generalize tm.getD 99 undef = x99
    generalize tm.getD 100 undef = x100
    generalize tm.getD 101 undef = x101
    generalize tm.getD 102 undef = x102
    generalize tm.getD 103 undef = x103
    generalize tm.getD 104 undef = x104
    generalize tm.getD 105 undef = x105
    generalize tm.getD 106 undef = x106
    generalize tm.getD 107 undef = x107
    generalize tm.getD 108 undef = x108
    generalize tm.getD 109 undef = x109
    generalize tm.getD 110 undef = x110
    generalize tm.getD 111 undef = x111
    generalize tm.getD 112 undef = x112
    generalize tm.getD 113 undef = x113
    generalize tm.getD 114 undef = x114
    generalize tm.getD 115 undef = x115
    generalize tm.getD 116 undef = x116
    generalize tm.getD 117 undef = x117
    generalize tm.getD 118 undef = x118
    generalize tm.getD 119 undef = x119
    generalize tm.getD 120 undef = x120
    generalize tm.getD 121 undef = x121
    generalize tm.getD 122 undef = x122
    generalize tm.getD 123 undef = x123
    generalize tm.getD 124 undef = x124
    generalize tm.getD 125 undef = x125
    generalize tm.getD 126 undef = x126
    generalize tm.getD 127 undef = x127
    generalize tm.getD 128 undef = x128
    generalize tm.getD 129 undef = x129
    generalize tm.getD 130 undef = x130
    generalize tm.getD 131 undef = x131
    generalize tm.getD 132 undef = x132
    generalize tm.getD 133 undef = x133
    generalize tm.getD 134 undef = x134
    generalize tm.getD 135 undef = x135
    generalize tm.getD 136 undef = x136
    generalize tm.getD 137 undef = x137
    generalize tm.getD 138 undef = x138
    generalize tm.getD 139 undef = x139
    generalize tm.getD 140 undef = x140
    generalize tm.getD 141 undef = x141
    generalize tm.getD 142 undef = x142
    generalize tm.getD 143 undef = x143
    generalize tm.getD 144 undef = x144
    generalize tm.getD 145 undef = x145
    generalize tm.getD 146 undef = x146
    generalize tm.getD 147 undef = x147
    generalize tm.getD 148 undef = x148
    generalize tm.getD 149 undef = x149
    generalize tm.getD 150 undef = x150
    generalize tm.getD 151 undef = x151
    generalize tm.getD 152 undef = x152
    generalize tm.getD 153 undef = x153
    generalize tm.getD 154 undef = x154
    generalize tm.getD 155 undef = x155
    generalize tm.getD 156 undef = x156
    generalize tm.getD 157 undef = x157
    generalize tm.getD 158 undef = x158
    generalize tm.getD 159 undef = x159
    generalize tm.getD 160 undef = x160
    generalize tm.getD 161 undef = x161
    generalize tm.getD 162 undef = x162
    generalize tm.getD 163 undef = x163
    generalize tm.getD 164 undef = x164
    generalize tm.getD 165 undef = x165
    generalize tm.getD 166 undef = x166
    generalize tm.getD 167 undef = x167
    generalize tm.getD 168 undef = x168
    generalize tm.getD 169 undef = x169
    generalize tm.getD 170 undef = x170
    generalize tm.getD 171 undef = x171
    generalize tm.getD 172 undef = x172
    generalize tm.getD 173 undef = x173
    generalize tm.getD 174 undef = x174
    generalize tm.getD 175 undef = x175
    generalize tm.getD 176 undef = x176
    generalize tm.getD 177 undef = x177
    generalize tm.getD 178 undef = x178
    generalize tm.getD 179 undef = x179
    generalize tm.getD 180 undef = x180
    generalize tm.getD 181 undef = x181
    generalize tm.getD 182 undef = x182
    generalize tm.getD 183 undef = x183
    generalize tm.getD 184 undef = x184
    generalize tm.getD 185 undef = x185
    generalize tm.getD 186 undef = x186
    generalize tm.getD 187 undef = x187
    generalize tm.getD 188 undef = x188
    generalize tm.getD 189 undef = x189
    generalize tm.getD 190 undef = x190
    generalize tm.getD 191 undef = x191
    generalize tm.getD 192 undef = x192
    generalize tm.getD 193 undef = x193
    generalize tm.getD 194 undef = x194
    generalize tm.getD 195 undef = x195
    generalize tm.getD 196 undef = x196
    generalize tm.getD 197 undef = x197
    generalize tm.getD 198 undef = x198
    generalize tm.getD 199 undef = x199
    generalize tm.getD 200 undef = x200
    generalize tm.getD 201 undef = x201
    generalize tm.getD 202 undef = x202
    generalize tm.getD 203 undef = x203
    generalize tm.getD 204 undef = x204
    generalize tm.getD 205 undef = x205
    generalize tm.getD 206 undef = x206
    generalize tm.getD 207 undef = x207
    generalize tm.getD 208 undef = x208
    generalize tm.getD 209 undef = x209
    generalize tm.getD 210 undef = x210
    generalize tm.getD 211 undef = x211
    generalize tm.getD 212 undef = x212
    generalize tm.getD 213 undef = x213
    generalize tm.getD 214 undef = x214
    generalize tm.getD 215 undef = x215
    generalize tm.getD 216 undef = x216
    simp only [List.drop_succ_cons, List.drop_zero]
    clear hPE HT HPA HQ
    obtain ⟨ag, cg, eg, _, _⟩ := row_texts hrow
    have x4 := (blk_cell hpx.blk 4).trans (show (pcells g rv S1.now)[4]? = some (rv 2) from rfl)
    have f4 := blk_free hpx.blk 4
    have hst := hp0.app HBW.out hpx (by decide) hrow hob
    have hO3 := hpx.only
    clear hrow hob hpx hp0 HBW
    obtain ⟨ng, hng⟩ : ∃ n, n = (S1.L 2 ++ [tx]).length := ⟨_, rfl⟩
    rw [← hng] at eg
    clear hng
    subst eg
    go_upto_region 9 with fail
    obtain ⟨rv2, hrv2⟩ : ∃ rv2, rv2 = put rv 2 (.slice ag ng cg) := ⟨_, rfl⟩
    obtain ⟨S2, hS2⟩ : ∃ S2 : PS, S2 = { S1 with L := put S1.L 2 (S1.L 2 ++ [tx]) } := ⟨_, rfl⟩
    rw [← hrv2, ← hS2] at hst
    have HS2 := Lib.hid hS2
    simp only [Nat.reduceAdd] at hst
    generalize w3.setCell ⟨p, 4, none⟩ (.slice ag ng cg) = W3 at hst ⊢
    clear x4 f4 hrv2 hS2 hO3 B
    have hp0 := hst
    have HPA := Lib.hid (hst.keep (Only.refl (fun _ => False) W3))
    have HLN2 : Hid (∀ i, i < 6 → (S2.L i).length ≤ 30000) := Lib.hid (fun i hi => by
      have h1 := HLN.out i hi
      rw [HS2.out]
      show (put S1.L 2 (S1.L 2 ++ [tx]) i).length ≤ _
      unfold put
      split
      · have := HLN.out 2 (by decide)
        rw [List.length_append]
        simp only [List.length_cons, List.length_nil]
        omega
      · omega)
    obtain ⟨B, hB⟩ : ∃ B, B = W3.heap.size := ⟨_, rfl⟩
    have HBW : Hid (W3.heap.size = B) := Lib.hid hB.symm
    clear hB hst HLN
    have HLN := HLN2
    clear HLN2
    have HT : Hid (p1Ph W3 false W3.drew) := Lib.hid (fun _ => (Only.refl _ W3).drew)
    refine wp_region_phasedk_tail 16 e0wDs e0wNeed e0wGs e0wLate e0wEarly (fun L w' => p1Ph W3 (L 12) w') (fun i w w' => Only (p1St 12 i) w w') (e0wG W B p q g mo me rv2 S2 kd nn tx false X) rfl rfl (by kernel_rfl) (by kernel_rfl) (by kernel_rfl) (by kernel_rfl) (by kernel_rfl) (by kernel_rfl) HT.out e0wG.keep e0wG.guard (fun _ _ => Only.refl _ _) ?_ ?_
    · refine And.intro ?op0 (And.intro ?op1 (And.intro ?op2 (And.intro ?op3 (And.intro ?op4 (And.intro ?op5 (And.intro ?op6 (And.intro ?op7 (And.intro ?op8 (And.intro ?op9 (And.intro ?op10 (And.intro ?op11 (And.intro ?op12 (And.intro ?op13 (And.intro ?op14 (And.intro ?op15 trivial)))))))))))))))
      case op0 =>
        intro L ev w1 hLi hlate hearly hT1 hc hf hfr hG
        rw [if_pos (by decide)]
        have hP : p1Ph W3 (L 12) w1 := hT1
        have h0 : ev (.tmp 0) = .pointer (some ⟨p, 0, none⟩) := hfr 0 (by decide)
        clear hG hfr
        refine OpSays.value (v := .pointer (some ⟨p, 0, none⟩)) (w' := w1) ?_ ⟨hT1, Only.refl _ _, rfl⟩
        go_simp
      case op1 =>
        intro L ev w1 hLi hlate hearly hT1 hc hf hfr hG
        rw [if_pos (by decide)]
        have hP : p1Ph W3 (L 12) w1 := hT1
        have h5 : ev (.tmp 5) = .int .i64 0 := hfr 5 (by decide)
        clear hG hfr
        refine OpSays.value (v := .int .i64 0) (w' := w1) ?_ ⟨hT1, Only.refl _ _, rfl⟩
        go_simp
      case op2 =>
        intro L ev w1 hLi hlate hearly hT1 hc hf hfr hG
        rw [if_pos (by decide)]
        have hP : p1Ph W3 (L 12) w1 := hT1
        have hg : (ev (.tmp 56) = .int .i64 0) ∧ True := hG
        obtain ⟨g1, _⟩ := hg
        clear hG hfr
        have hw1 : IntKind.i64.wrap 1 = 1 := by decide
        have hw0 : IntKind.i64.wrap 0 = 0 := by decide
        refine OpSays.value (v := .int .i64 1) (w' := w1) ?_ ⟨hT1, Only.refl _ _, rfl⟩
        go_simp
      case op3 =>
        intro L ev w1 hLi hlate hearly hT1 hc hf hfr hG
        rw [if_pos (by decide)]
        have hP : p1Ph W3 (L 12) w1 := hT1
        obtain ⟨hl12, _⟩ := hlate
        rw [hl12] at hP
        have h0 : ev (.tmp 0) = .pointer (some ⟨p, 0, none⟩) := hfr 0 (by decide)
        clear hG hfr
        refine OpSays.value (v := .pointer (some ⟨p, 0, none⟩)) (w' := w1) ?_ ⟨hT1, Only.refl _ _, rfl⟩
        go_simp
      case op4 =>
        intro L ev w1 hLi hlate hearly hT1 hc hf hfr hG
        rw [if_pos (by decide)]
        have hP : p1Ph W3 (L 12) w1 := hT1
        obtain ⟨hl12, _⟩ := hlate
        rw [hl12] at hP
        have h5 : ev (.tmp 5) = .int .i64 0 := hfr 5 (by decide)
        clear hG hfr
        refine OpSays.value (v := .int .i64 0) (w' := w1) ?_ ⟨hT1, Only.refl _ _, rfl⟩
        go_simp
      case op5 =>
        intro L ev w1 hLi hlate hearly hT1 hc hf hfr hG
        rw [if_pos (by decide)]
        have hP : p1Ph W3 (L 12) w1 := hT1
        obtain ⟨hl12, _⟩ := hlate
        rw [hl12] at hP
        have hg : (ev (.tmp 59) = .int .i64 0) ∧ True := hG
        obtain ⟨g4, _⟩ := hg
        clear hG hfr
        have hw1 : IntKind.i64.wrap 1 = 1 := by decide
        have hw0 : IntKind.i64.wrap 0 = 0 := by decide
        refine OpSays.value (v := .int .i64 1) (w' := w1) ?_ ⟨hT1, Only.refl _ _, rfl⟩
        go_simp
      case op6 =>
        intro L ev w1 hLi hlate hearly hT1 hc hf hfr hG
        rw [if_pos (by decide)]
        have hP : p1Ph W3 (L 12) w1 := hT1
        obtain ⟨hl12, _⟩ := hlate
        rw [hl12] at hP
        have hg : (ev (.tmp 58) = .pointer (some ⟨p, 0, none⟩)) ∧ True := hG
        obtain ⟨g3, _⟩ := hg
        clear hG hfr
        refine OpSays.value (v := .pointer (some ⟨p, 0, none⟩)) (w' := w1) ?_ ⟨hT1, Only.refl _ _, rfl⟩
        go_simp
      case op7 =>
        intro L ev w1 hLi hlate hearly hT1 hc hf hfr hG
        rw [if_pos (by decide)]
        have hP : p1Ph W3 (L 12) w1 := hT1
        obtain ⟨hl12, _⟩ := hlate
        rw [hl12] at hP
        have hg : (ev (.tmp 61) = .pointer (some ⟨p, 0, none⟩)) ∧ True := hG
        obtain ⟨g6, _⟩ := hg
        clear hG hfr
        refine OpSays.value (v := .pointer (some ⟨p, 2, none⟩)) (w' := w1) ?_ ⟨hT1, Only.refl _ _, rfl⟩
        go_simp
      case op8 =>
        intro L ev w1 hLi hlate hearly hT1 hc hf hfr hG
        rw [if_pos (by decide)]
        have hP : p1Ph W3 (L 12) w1 := hT1
        obtain ⟨hl12, _⟩ := hlate
        rw [hl12] at hP
        have hg : (ev (.tmp 60) = .int .i64 1) ∧ (ev (.tmp 62) = .pointer (some ⟨p, 2, none⟩)) ∧ True := hG
        obtain ⟨g5, g7, _⟩ := hg
        clear hG hfr
        refine OpSays.value (v := .pointer (some ⟨p, 3, none⟩)) (w' := w1) ?_ ⟨hT1, Only.refl _ _, rfl⟩
        go_simp
      case op9 =>
        intro L ev w1 hLi hlate hearly hT1 hc hf hfr hG
        rw [if_pos (by decide)]
        have hP : p1Ph W3 (L 12) w1 := hT1
        obtain ⟨hl12, _⟩ := hlate
        rw [hl12] at hP
        have hg : (ev (.tmp 63) = .pointer (some ⟨p, 3, none⟩)) ∧ True := hG
        obtain ⟨g8, _⟩ := hg
        clear hG hfr
        have c : w1.cell? ⟨p, 3, none⟩ = some (rv2 1) := (HPA.out.keep (hP rfl)).cRow (i := 1) (by decide)
        refine OpSays.value (v := rv2 1) (w' := w1) ?_ ⟨hT1, Only.refl _ _, rfl⟩
        go_simp
      case op10 =>
        intro L ev w1 hLi hlate hearly hT1 hc hf hfr hG
        rw [if_pos (by decide)]
        have hP : p1Ph W3 (L 12) w1 := hT1
        obtain ⟨hl12, _⟩ := hlate
        rw [hl12] at hP
        have h7 : ev (.tmp 7) = .string X := hfr 7 (by decide)
        clear hG hfr
        refine OpSays.value (v := .string X) (w' := w1) ?_ ⟨hT1, Only.refl _ _, rfl⟩
        go_simp
      case op11 =>
        intro L ev w1 hLi hlate hearly hT1 hc hf hfr hG
        rw [if_pos (by decide)]
        have hP : p1Ph W3 (L 12) w1 := hT1
        obtain ⟨hl12, _⟩ := hlate
        rw [hl12] at hP
        change OpSays _ _ _ _ (fun v w' => p1Ph W3 (L 12) w' ∧ _ ∧ _)
        rw [hl12]
        have hg : (ev (.tmp 65) = .string X) ∧ True := hG
        obtain ⟨g10, _⟩ := hg
        clear hG hfr
        have hk := (Only.refl (fun _ => False) w1).alloc (.cells #[.string X] 9)
        have hBz : B ≤ w1.heap.size := by have := (hP rfl).size; have := HBW.out; omega
        refine OpSays.value (v := .slice (some ⟨w1.heap.size, 0, none⟩) 1 1) (w' := w1.alloc (.cells #[.string X] 9)) ?_ ⟨fun _ => (hP rfl).trans hk, hk.mono (fun _ _ h => h.elim), w1.heap.size, rfl, hBz, fun _ => blk_new w1 _⟩
        go_simp
      case op12 =>
        intro L ev w1 hLi hlate hearly hT1 hc hf hfr hG
        rw [if_pos (by decide)]
        have hP : p1Ph W3 (L 12) w1 := hT1
        rw [hLi] at hP
        change OpSays _ _ _ _ (fun v w' => p1Ph W3 (true) w' ∧ _ ∧ _)
        have hg : (ev (.tmp 64) = rv2 1) ∧ (∃ z, ev (.tmp 66) = .slice (some ⟨z, 0, none⟩) 1 1 ∧ B ≤ z ∧ (L 12 = false → w1.heap[z]? = some (.cells #[.string X] 9 (0, 0)))) ∧ True := hG
        obtain ⟨g9, g11, _⟩ := hg
        clear hG hfr
        obtain ⟨z, g11, hz, hz2⟩ := g11
        have hpa := HPA.out.keep (hP rfl)
        obtain ⟨v2, w2, hr, h1, h2, h3⟩ := append_texts w1 43 W.heap.size _ _ (S2.L 1) [X] (hpa.rows 1 (by decide) (by decide)) (one_src (hz2 hLi)) hpa.only.size (by have := HLN.out 1 (by decide); simp only [List.length_cons, List.length_nil]; omega)
        refine OpSays.value (v := v2) (w' := w2) ?_ ⟨fun e => (by cases e), (Only.of_grown h2).mono (fun _ _ _ => rfl), h1, fun b hb => (h3 b hb).imp id (fun h => by have := (hP rfl).size; have := HBW.out; omega), hpa.grown (by decide) h2⟩
        unfold execOp
        simp only [resolve, invoke, builtin, Sem.run_bind, Sem.run_pure, Result.andThen_ok, List.map_toArray, List.map_cons, List.map_nil, g9, g11, hr]
      case op13 =>
        intro L ev w1 hLi hlate hearly hT1 hc hf hfr hG
        rw [if_pos (by decide)]
        have hP : p1Ph W3 (L 12) w1 := hT1
        have hg : (ev (.tmp 55) = .pointer (some ⟨p, 0, none⟩)) ∧ True := hG
        obtain ⟨g0, _⟩ := hg
        clear hG hfr
        refine OpSays.value (v := .pointer (some ⟨p, 0, none⟩)) (w' := w1) ?_ ⟨hT1, Only.refl _ _, rfl⟩
        go_simp
      case op14 =>
        intro L ev w1 hLi hlate hearly hT1 hc hf hfr hG
        rw [if_pos (by decide)]
        have hP : p1Ph W3 (L 12) w1 := hT1
        have hg : (ev (.tmp 68) = .pointer (some ⟨p, 0, none⟩)) ∧ True := hG
        obtain ⟨g13, _⟩ := hg
        clear hG hfr
        refine OpSays.value (v := .pointer (some ⟨p, 2, none⟩)) (w' := w1) ?_ ⟨hT1, Only.refl _ _, rfl⟩
        go_simp
      case op15 =>
        intro L ev w1 hLi hlate hearly hT1 hc hf hfr hG
        rw [if_pos (by decide)]
        have hP : p1Ph W3 (L 12) w1 := hT1
        have hg : (ev (.tmp 57) = .int .i64 1) ∧ (ev (.tmp 69) = .pointer (some ⟨p, 2, none⟩)) ∧ True := hG
        obtain ⟨g2, g14, _⟩ := hg
        clear hG hfr
        refine OpSays.value (v := .pointer (some ⟨p, 3, none⟩)) (w' := w1) ?_ ⟨hT1, Only.refl _ _, rfl⟩
        go_simp
    rintro L ⟨tm, df⟩ w4 hL hT1 hsz hdf hfr hG
    have hPE : p1Ph W3 (true) w4 := by
      have hP : p1Ph W3 (L 12) w4 := hT1
      have hm := fun k (hk : k ∈ List.range 16) => AllB.get hL k hk
      rw [hm 12 (by decide)] at hP
      exact hP
    clear hT1 hL
    have k0 : tm.getD 0 undef = .pointer (some ⟨p, 0, none⟩) := hfr 0 (by decide)
    have k3 : tm.getD 3 undef = .pointer (some ⟨q, 0, none⟩) := hfr 3 (by decide)
    have k5 : tm.getD 5 undef = .int .i64 0 := hfr 5 (by decide)
    have k70 : tm.getD 70 undef = .pointer (some ⟨p, 3, none⟩) := AllG.get hG 15 (by decide)
    obtain ⟨hrow, hob, hpx⟩ : w4.ownsRow W.heap.size 9 1 (tm.getD 67 undef) (S2.L 1 ++ [X]).length ((S2.L 1 ++ [X]).map Value.string) ∧ (∀ b, (tm.getD 67 undef).ownBlock = some b → (rv2 1).ownBlock = some b ∨ B ≤ b) ∧ PAt W w4 1 p g mo me rv2 S2 := AllG.get hG 12 (by decide)
    have he : tm = #[tm.getD 0 undef, tm.getD 1 undef, tm.getD 2 undef, tm.getD 3 undef, tm.getD 4 undef, tm.getD 5 undef, tm.getD 6 undef, tm.getD 7 undef, tm.getD 8 undef, tm.getD 9 undef, tm.getD 10 undef, tm.getD 11 undef, tm.getD 12 undef, tm.getD 13 undef, tm.getD 14 undef, tm.getD 15 undef, tm.getD 16 undef, tm.getD 17 undef, tm.getD 18 undef, tm.getD 19 undef, tm.getD 20 undef, tm.getD 21 undef, tm.getD 22 undef, tm.getD 23 undef, tm.getD 24 undef, tm.getD 25 undef, tm.getD 26 undef, tm.getD 27 undef, tm.getD 28 undef, tm.getD 29 undef, tm.getD 30 undef, tm.getD 31 undef, tm.getD 32 undef, tm.getD 33 undef, tm.getD 34 undef, tm.getD 35 undef, tm.getD 36 undef, tm.getD 37 undef, tm.getD 38 undef, tm.getD 39 undef, tm.getD 40 undef, tm.getD 41 undef, tm.getD 42 undef, tm.getD 43 undef, tm.getD 44 undef, tm.getD 45 undef, tm.getD 46 undef, tm.getD 47 undef, tm.getD 48 undef, tm.getD 49 undef, tm.getD 50 undef, tm.getD 51 undef, tm.getD 52 undef, tm.getD 53 undef, tm.getD 54 undef, tm.getD 55 undef, tm.getD 56 undef, tm.getD 57 undef, tm.getD 58 undef, tm.getD 59 undef, tm.getD 60 undef, tm.getD 61 undef, tm.getD 62 undef, tm.getD 63 undef, tm.getD 64 undef, tm.getD 65 undef, tm.getD 66 undef, tm.getD 67 undef, tm.getD 68 undef, tm.getD 69 undef, tm.getD 70 undef, tm.getD 71 undef, tm.getD 72 undef, tm.getD 73 undef, tm.getD 74 undef, tm.getD 75 undef, tm.getD 76 undef, tm.getD 77 undef, tm.getD 78 undef, tm.getD 79 undef, tm.getD 80 undef, tm.getD 81 undef, tm.getD 82 undef, tm.getD 83 undef, tm.getD 84 undef, tm.getD 85 undef, tm.getD 86 undef, tm.getD 87 undef, tm.getD 88 undef, tm.getD 89 undef, tm.getD 90 undef, tm.getD 91 undef, tm.getD 92 undef, tm.getD 93 undef, tm.getD 94 undef, tm.getD 95 undef, tm.getD 96 undef, tm.getD 97 undef, tm.getD 98 undef, tm.getD 99 undef, tm.getD 100 undef, tm.getD 101 undef, tm.getD 102 undef, tm.getD 103 undef, tm.getD 104 undef, tm.getD 105 undef, tm.getD 106 undef, tm.getD 107 undef, tm.getD 108 undef, tm.getD 109 undef, tm.getD 110 undef, tm.getD 111 undef, tm.getD 112 undef, tm.getD 113 undef, tm.getD 114 undef, tm.getD 115 undef, tm.getD 116 undef, tm.getD 117 undef, tm.getD 118 undef, tm.getD 119 undef, tm.getD 120 undef, tm.getD 121 undef, tm.getD 122 undef, tm.getD 123 undef, tm.getD 124 undef, tm.getD 125 undef, tm.getD 126 undef, tm.getD 127 undef, tm.getD 128 undef, tm.getD 129 undef, tm.getD 130 undef, tm.getD 131 undef, tm.getD 132 undef, tm.getD 133 undef, tm.getD 134 undef, tm.getD 135 undef, tm.getD 136 undef, tm.getD 137 undef, tm.getD 138 undef, tm.getD 139 undef, tm.getD 140 undef, tm.getD 141 undef, tm.getD 142 undef, tm.getD 143 undef, tm.getD 144 undef, tm.getD 145 undef, tm.getD 146 undef, tm.getD 147 undef, tm.getD 148 undef, tm.getD 149 undef, tm.getD 150 undef, tm.getD 151 undef, tm.getD 152 undef, tm.getD 153 undef, tm.getD 154 undef, tm.getD 155 undef, tm.getD 156 undef, tm.getD 157 undef, tm.getD 158 undef, tm.getD 159 undef, tm.getD 160 undef, tm.getD 161 undef, tm.getD 162 undef, tm.getD 163 undef, tm.getD 164 undef, tm.getD 165 undef, tm.getD 166 undef, tm.getD 167 undef, tm.getD 168 undef, tm.getD 169 undef, tm.getD 170 undef, tm.getD 171 undef, tm.getD 172 undef, tm.getD 173 undef, tm.getD 174 undef, tm.getD 175 undef, tm.getD 176 undef, tm.getD 177 undef, tm.getD 178 undef, tm.getD 179 undef, tm.getD 180 undef, tm.getD 181 undef, tm.getD 182 undef, tm.getD 183 undef, tm.getD 184 undef, tm.getD 185 undef, tm.getD 186 undef, tm.getD 187 undef, tm.getD 188 undef, tm.getD 189 undef, tm.getD 190 undef, tm.getD 191 undef, tm.getD 192 undef, tm.getD 193 undef, tm.getD 194 undef, tm.getD 195 undef, tm.getD 196 undef, tm.getD 197 undef, tm.getD 198 undef, tm.getD 199 undef, tm.getD 200 undef, tm.getD 201 undef, tm.getD 202 undef, tm.getD 203 undef, tm.getD 204 undef, tm.getD 205 undef, tm.getD 206 undef, tm.getD 207 undef, tm.getD 208 undef, tm.getD 209 undef, tm.getD 210 undef, tm.getD 211 undef, tm.getD 212 undef, tm.getD 213 undef, tm.getD 214 undef, tm.getD 215 undef, tm.getD 216 undef] := arr_eta (n := 217) hsz
    replace hdf : df = [] := hdf
    subst hdf
    clear hsz hfr hG
    rw [he, k0, k3, k5, k70]
    clear he k0 k3 k5 k70
    generalize tm.getD 1 undef = x1
    generalize tm.getD 2 undef = x2
    generalize tm.getD 4 undef = x4
    generalize tm.getD 6 undef = x6
    generalize tm.getD 7 undef = x7
    generalize tm.getD 8 undef = x8
    generalize tm.getD 9 undef = x9
    generalize tm.getD 10 undef = x10
    generalize tm.getD 11 undef = x11
    generalize tm.getD 12 undef = x12
    generalize tm.getD 13 undef = x13
    generalize tm.getD 14 undef = x14
    generalize tm.getD 15 undef = x15
    generalize tm.getD 16 undef = x16
    generalize tm.getD 17 undef = x17
    generalize tm.getD 18 undef = x18
    generalize tm.getD 19 undef = x19
    generalize tm.getD 20 undef = x20
    generalize tm.getD 21 undef = x21
    generalize tm.getD 22 undef = x22
    generalize tm.getD 23 undef = x23
    generalize tm.getD 24 undef = x24
    generalize tm.getD 25 undef = x25
    generalize tm.getD 26 undef = x26
    generalize tm.getD 27 undef = x27
    generalize tm.getD 28 undef = x28
    generalize tm.getD 29 undef = x29
    generalize tm.getD 30 undef = x30
    generalize tm.getD 31 undef = x31
    generalize tm.getD 32 undef = x32
    generalize tm.getD 33 undef = x33
    generalize tm.getD 34 undef = x34
    generalize tm.getD 35 undef = x35
    generalize tm.getD 36 undef = x36
    generalize tm.getD 37 undef = x37
    generalize tm.getD 38 undef = x38
    generalize tm.getD 39 undef = x39
    generalize tm.getD 40 undef = x40
    generalize tm.getD 41 undef = x41
    generalize tm.getD 42 undef = x42
    generalize tm.getD 43 undef = x43
    generalize tm.getD 44 undef = x44
    generalize tm.getD 45 undef = x45
    generalize tm.getD 46 undef = x46
    generalize tm.getD 47 undef = x47
    generalize tm.getD 48 undef = x48
    generalize tm.getD 49 undef = x49
    generalize tm.getD 50 undef = x50
    generalize tm.getD 51 undef = x51
    generalize tm.getD 52 undef = x52
    generalize tm.getD 53 undef = x53
    generalize tm.getD 54 undef = x54
    generalize tm.getD 55 undef = x55
    generalize tm.getD 56 undef = x56
    generalize tm.getD 57 undef = x57
    generalize tm.getD 58 undef = x58
    generalize tm.getD 59 undef = x59
    generalize tm.getD 60 undef = x60
    generalize tm.getD 61 undef = x61
    generalize tm.getD 62 undef = x62
    generalize tm.getD 63 undef = x63
    generalize tm.getD 64 undef = x64
    generalize tm.getD 65 undef = x65
    generalize tm.getD 66 undef = x66
    generalize tm.getD 67 undef = vw at hrow hob ⊢
    generalize tm.getD 68 undef = x68
    generalize tm.getD 69 undef = x69
    generalize tm.getD 71 undef = x71
    generalize tm.getD 72 undef = x72
    generalize tm.getD 73 undef = x73
    generalize tm.getD 74 undef = x74
    generalize tm.getD 75 undef = x75
    generalize tm.getD 76 undef = x76
    generalize tm.getD 77 undef = x77
    generalize tm.getD 78 undef = x78
    generalize tm.getD 79 undef = x79
    generalize tm.getD 80 undef = x80
    generalize tm.getD 81 undef = x81
    generalize tm.getD 82 undef = x82
    generalize tm.getD 83 undef = x83
    generalize tm.getD 84 undef = x84
    generalize tm.getD 85 undef = x85
    generalize tm.getD 86 undef = x86
    generalize tm.getD 87 undef = x87
    generalize tm.getD 88 undef = x88
    generalize tm.getD 89 undef = x89
    generalize tm.getD 90 undef = x90
    generalize tm.getD 91 undef = x91
    generalize tm.getD 92 undef = x92
    generalize tm.getD 93 undef = x93
    generalize tm.getD 94 undef = x94
    generalize tm.getD 95 undef = x95
    generalize tm.getD 96 undef = x96
    generalize tm.getD 97 undef = x97
    generalize tm.getD 98 undef = x98
    generalize tm.getD 99 undef = x99
    generalize tm.getD 100 undef = x100
    generalize tm.getD 101 undef = x101
    generalize tm.getD 102 undef = x102
    generalize tm.getD 103 undef = x103
    generalize tm.getD 104 undef = x104
    generalize tm.getD 105 undef = x105
    generalize tm.getD 106 undef = x106
    generalize tm.getD 107 undef = x107
    generalize tm.getD 108 undef = x108
    generalize tm.getD 109 undef = x109
    generalize tm.getD 110 undef = x110
    generalize tm.getD 111 undef = x111
    generalize tm.getD 112 undef = x112
    generalize tm.getD 113 undef = x113
    generalize tm.getD 114 undef = x114
    generalize tm.getD 115 undef = x115
    generalize tm.getD 116 undef = x116
    generalize tm.getD 117 undef = x117
    generalize tm.getD 118 undef = x118
    generalize tm.getD 119 undef = x119
    generalize tm.getD 120 undef = x120
    generalize tm.getD 121 undef = x121
    generalize tm.getD 122 undef = x122
    generalize tm.getD 123 undef = x123
    generalize tm.getD 124 undef = x124
    generalize tm.getD 125 undef = x125
    generalize tm.getD 126 undef = x126
    generalize tm.getD 127 undef = x127
    generalize tm.getD 128 undef = x128
    generalize tm.getD 129 undef = x129
    generalize tm.getD 130 undef = x130
    generalize tm.getD 131 undef = x131
    generalize tm.getD 132 undef = x132
    generalize tm.getD 133 undef = x133
    generalize tm.getD 134 undef = x134
    generalize tm.getD 135 undef = x135
    generalize tm.getD 136 undef = x136
    generalize tm.getD 137 undef = x137
    generalize tm.getD 138 undef = x138
    generalize tm.getD 139 undef = x139
    generalize tm.getD 140 undef = x140
    generalize tm.getD 141 undef = x141
    generalize tm.getD 142 undef = x142
    generalize tm.getD 143 undef = x143
    generalize tm.getD 144 undef = x144
    generalize tm.getD 145 undef = x145
    generalize tm.getD 146 undef = x146
    generalize tm.getD 147 undef = x147
    generalize tm.getD 148 undef = x148
    generalize tm.getD 149 undef = x149
    generalize tm.getD 150 undef = x150
    generalize tm.getD 151 undef = x151
    generalize tm.getD 152 undef = x152
    generalize tm.getD 153 undef = x153
    generalize tm.getD 154 undef = x154
    generalize tm.getD 155 undef = x155
    generalize tm.getD 156 undef = x156
    generalize tm.getD 157 undef = x157
    generalize tm.getD 158 undef = x158
    generalize tm.getD 159 undef = x159
    generalize tm.getD 160 undef = x160
    generalize tm.getD 161 undef = x161
    generalize tm.getD 162 undef = x162
    generalize tm.getD 163 undef = x163
    generalize tm.getD 164 undef = x164
    generalize tm.getD 165 undef = x165
    generalize tm.getD 166 undef = x166
    generalize tm.getD 167 undef = x167
    generalize tm.getD 168 undef = x168
    generalize tm.getD 169 undef = x169
    generalize tm.getD 170 undef = x170
    generalize tm.getD 171 undef = x171
    generalize tm.getD 172 undef = x172
    generalize tm.getD 173 undef = x173
    generalize tm.getD 174 undef = x174
    generalize tm.getD 175 undef = x175
    generalize tm.getD 176 undef = x176
    generalize tm.getD 177 undef = x177
    generalize tm.getD 178 undef = x178
    generalize tm.getD 179 undef = x179
    generalize tm.getD 180 undef = x180
    generalize tm.getD 181 undef = x181
    generalize tm.getD 182 undef = x182
    generalize tm.getD 183 undef = x183
    generalize tm.getD 184 undef = x184
    generalize tm.getD 185 undef = x185
    generalize tm.getD 186 undef = x186
    generalize tm.getD 187 undef = x187
    generalize tm.getD 188 undef = x188
    generalize tm.getD 189 undef = x189
    generalize tm.getD 190 undef = x190
    generalize tm.getD 191 undef = x191
    generalize tm.getD 192 undef = x192
    generalize tm.getD 193 undef = x193
    generalize tm.getD 194 undef = x194
    generalize tm.getD 195 undef = x195
    generalize tm.getD 196 undef = x196
    generalize tm.getD 197 undef = x197
    generalize tm.getD 198 undef = x198
    generalize tm.getD 199 undef = x199
    generalize tm.getD 200 undef = x200
    generalize tm.getD 201 undef = x201
    generalize tm.getD 202 undef = x202
    generalize tm.getD 203 undef = x203
    generalize tm.getD 204 undef = x204
    generalize tm.getD 205 undef = x205
    generalize tm.getD 206 undef = x206
    generalize tm.getD 207 undef = x207
    generalize tm.getD 208 undef = x208
    generalize tm.getD 209 undef = x209
    generalize tm.getD 210 undef = x210
    generalize tm.getD 211 undef = x211
    generalize tm.getD 212 undef = x212
    generalize tm.getD 213 undef = x213
    generalize tm.getD 214 undef = x214
    generalize tm.getD 215 undef = x215
    generalize tm.getD 216 undef = x216
    simp only [List.drop_succ_cons, List.drop_zero]
    clear hPE HT HPA
    obtain ⟨aw, cw, ew, _, _⟩ := row_texts hrow
    have x2 := (blk_cell hpx.blk 3).trans (show (pcells g rv2 S2.now)[3]? = some (rv2 1) from rfl)
    have f2 := blk_free hpx.blk 3
    have hst := hp0.app HBW.out hpx (by decide) hrow hob
    clear hrow hob hpx hp0 HBW
    obtain ⟨nw, hnw⟩ : ∃ n, n = (S2.L 1 ++ [X]).length := ⟨_, rfl⟩
    rw [← hnw] at ew
    clear hnw
    subst ew
    simp only [Nat.reduceAdd] at hst
    have HST := Lib.hid hst
    have HDF : Hid (DInv R { S2 with L := put S2.L 1 (S2.L 1 ++ [X]) } (a + 1)) := Lib.hid (by rw [HS2.out, HS1.out]; exact HDI.out)
    clear hst
    go_wp2_with fail
    generalize w4.setCell ⟨p, 3, none⟩ (.slice aw nw cw) = W5 at HST ⊢
    clear x2 f2
    refine (right_true W W5 p g mo me _ _ HST.out HDF.out.right (fun i hi => by have := HDF.out.len (by omega) i hi; omega)).mono ?_
    rintro e w6 ⟨rfl, hk6⟩
    have HP6 := Lib.hid (HST.out.keep hk6)
    clear hk6
    go_wp2_with fail
    go_ret
    exact ⟨_, _, rfl, HP6.out, HDF.out⟩

end Go.Proofs.Yteifehienpeaiaa

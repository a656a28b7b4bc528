/-
  The walk of the law RecvqPlays.
  No conditions.
-/
import Derived.Test.YtbpmbmidjdhbpaaRecvStep
import Derived.Test.YtbpmbmidjdhbpaaPhased
set_option linter.unusedVariables false
set_option linter.unusedSimpArgs false
set_option maxRecDepth 100000
namespace Go.Proofs.Ytbpmbmidjdhbpaa
open Go.RowKit

theorem plays_cells {cs : List Value} (h : CellsAre [.i, .i, .i, .s, .b] cs) : ∃ x : Int × Int × Int × ByteArray × Bool, cs = [.int .i64 x.1, .int .i64 x.2.1, .int .i64 x.2.2.1, .string x.2.2.2.1, .bool x.2.2.2.2] ∧ (Lit.int .i64 x.1).wf = true ∧ (Lit.int .i64 x.2.1).wf = true ∧ x.2.2.2.1.size ≤ reachB := by
  obtain ⟨x, _, rfl, hx, h1⟩ := h.i
  obtain ⟨y, _, rfl, hy, h2⟩ := h1.i
  obtain ⟨z, _, rfl, hz, h3⟩ := h2.i
  obtain ⟨s, _, rfl, hs, h4⟩ := h3.s
  obtain ⟨b, _, rfl, h5⟩ := h4.b
  rw [h5.nil]
  exact ⟨(x, y, z, s, b), rfl, hx, hy, hs⟩

theorem rat_ne {w : World} {r hb bb r' hb' bb' : Nat} {q q' : QS} (h : RAt w r hb bb q) (h' : RAt w r' hb' bb' q') : hb ≠ r' ∧ bb ≠ r' := by
  obtain ⟨hv, bv, e1, e2, hg, ⟨_, _, _, _, rfl, h1, _⟩, _, ⟨_, _, _, _, rfl, h2, _⟩, _⟩ := h
  obtain ⟨_, _, _, _, hg', _⟩ := h'
  cases e1
  cases e2
  refine ⟨fun e => ?_, fun e => ?_⟩
  · simp only at e
    rw [e, hg'] at h1
    injection h1 with h1
    injection h1 with _ h1
    revert h1
    decide
  · simp only at e
    rw [e, hg'] at h2
    injection h2 with h2
    injection h2 with _ h2
    revert h2
    decide

/-- Where the queues and the fork lie. -/
structure RpC (W : World) (g m r g2 m2 B : Nat) : Prop where
  gW : W.heap.size ≤ g
  mW : W.heap.size ≤ m
  rW : W.heap.size ≤ r
  g2W : W.heap.size ≤ g2
  m2W : W.heap.size ≤ m2
  gB : g < B
  mB : m < B
  rB : r < B
  n1 : g2 ≠ g
  n2 : g2 ≠ m
  n3 : g2 ≠ r
  n4 : m2 ≠ g
  n5 : m2 ≠ m
  n6 : m2 ≠ r
  g2B : g2 < B
  m2B : m2 < B

/-- The state in region 12: whether the fork has made its step. -/
def rpPh (W : World) (g m r g2 m2 B : Nat) (b : Bool) (w : World) : Prop :=
  Only (fun _ => False) W w ∧ B ≤ w.heap.size ∧ ∃ (q : QS) (hb bb : Nat), QAt w g m q ∧ RAt w r hb bb q ∧ QInv q ∧ 1 ≤ q.room ∧ q.room ≤ 3000 ∧ ∃ q2, QAt w g2 m2 q2 ∧ QInv q2 ∧ (b = false → q2 = q)
def rpSt (g m r g2 m2 B i k : Nat) : Prop := (i = 10 ∧ (k = g2 ∨ k = m2 ∨ B ≤ k)) ∨ (i = 20 ∧ (k = g ∨ k = m ∨ k = r))

def rpG (W : World) (g m r g2 m2 B b off k n cap : Nat) (kd at_ nn : Int) (s : ByteArray) (near : Bool) (L : Nat → Bool) : Nat → Value → World → Prop
  | 0, v, w' => v = .pointer (some ⟨g2, 0, none⟩)
  | 1, v, w' => v = .bool false
  | 2, v, w' => v = .bool false
  | 3, v, w' => v = .pointer (some ⟨g2, 0, none⟩)
  | 4, v, w' => v = .pointer (some ⟨r, 0, none⟩)
  | 5, v, w' => ∃ rf, v = .pointer (some ⟨rf, 0, none⟩) ∧ RpC W g m r g2 m2 B ∧ B ≤ rf ∧ (L 10 = false → ∃ (q : QS) (hb bb : Nat), B ≤ hb ∧ B ≤ bb ∧ QAt w' g2 m2 q ∧ RAt w' rf hb bb q ∧ QInv q ∧ 1 ≤ q.room ∧ q.room ≤ 3000)
  | 6, v, w' => v = .slice (some ⟨b, off, none⟩) n cap
  | 7, v, w' => v = .int .i64 k
  | 8, v, w' => v = .pointer (some ⟨b, off + k * 5, none⟩)
  | 9, v, w' => v = .agg #[.int .i64 kd, .int .i64 at_, .int .i64 nn, .string s, .bool near]
  | 10, v, w' => v = .bool true
  | 11, v, w' => v = .bool false
  | 12, v, w' => v = .bool false
  | 13, v, w' => v = .bool false
  | 14, v, w' => v = .pointer (some ⟨g, 0, none⟩)
  | 15, v, w' => v = .pointer (some ⟨r, 0, none⟩)
  | 16, v, w' => v = .slice (some ⟨b, off, none⟩) n cap
  | 17, v, w' => v = .int .i64 k
  | 18, v, w' => v = .pointer (some ⟨b, off + k * 5, none⟩)
  | 19, v, w' => v = .agg #[.int .i64 kd, .int .i64 at_, .int .i64 nn, .string s, .bool near]
  | 20, v, w' => v = .bool true
  | 21, v, w' => v = .bool false
  | 22, v, w' => v = .bool false
  | _, _, _ => True
def rpDs : List Nat := [70, 71, 72, 73, 74, 75, 76, 77, 78, 79, 80, 81, 82, 83, 84, 85, 86, 87, 88, 89, 90, 91, 92]
def rpNeed : List (List Nat) := [[], [0], [1], [], [], [4], [], [], [6, 7], [8], [3, 5, 9], [10], [2, 11], [12], [], [], [], [], [16, 17], [18], [14, 15, 19], [20], [13, 21]]
def rpGs : List (Option Bool) := [none, none, some false, none, none, none, none, none, none, none, none, none, none, some false]
def rpLate : List (List Nat) := [[10], [10], [10], [10], [10], [10], [10], [10], [10], [10], [], [], [], [], [], [], [], [], [], [], [], [], []]
def rpEarly : List (List Nat) := [[], [], [], [], [], [], [], [], [], [], [], [10], [10], [10], [10], [10], [10], [10], [10], [10], [10], [10], [10]]
theorem rpG.keep {W : World} {g m r g2 m2 B b off k n cap : Nat} {kd at_ nn : Int} {s : ByteArray} {near : Bool} : ∀ L i jx v w w', rpG W g m r g2 m2 B b off k n cap kd at_ nn s near L jx v w → Only (rpSt g m r g2 m2 B i) w w' → rpG W g m r g2 m2 B b off k n cap kd at_ nn s near (upd L i) jx v w' := by
  intro L i jx v w w' h hO
  match jx with
  | 0 => exact h
  | 1 => exact h
  | 2 => exact h
  | 3 => exact h
  | 4 => exact h
  | 5 => exact (by
    obtain ⟨rf, e1, hC, hB, hx⟩ := h
    refine ⟨rf, e1, hC, hB, fun hL => ?_⟩
    by_cases h10 : i = 10
    · subst h10; simp [upd] at hL
    · have hL' : L 10 = false := by
        unfold upd at hL
        rwa [if_neg (fun e => h10 e.symm)] at hL
      obtain ⟨q, hb, bb, b1, b2, hq, hr, hi⟩ := hx hL'
      obtain ⟨c1, c2, c3, c4, c5, c6, c7, c8, c9, c10, c11, c12, c13, c14, c15, c16⟩ := hC
      have hst : ∀ z, (B ≤ z ∨ z = g2 ∨ z = m2) → ¬ rpSt g m r g2 m2 B i z := by
        rintro z hz (⟨h, _⟩ | ⟨_, h⟩)
        · exact h10 h
        · omega
      exact ⟨q, hb, bb, b1, b2, hq.only hO (hst _ (.inr (.inl rfl))) (hst _ (.inr (.inr rfl))), hr.only hO (hst _ (.inl hB)) (hst _ (.inl b1)) (hst _ (.inl b2)), hi⟩)
  | 6 => exact h
  | 7 => exact h
  | 8 => exact h
  | 9 => exact h
  | 10 => exact h
  | 11 => exact h
  | 12 => exact h
  | 13 => exact h
  | 14 => exact h
  | 15 => exact h
  | 16 => exact h
  | 17 => exact h
  | 18 => exact h
  | 19 => exact h
  | 20 => exact h
  | 21 => exact h
  | 22 => exact h
  | n + 23 => trivial
theorem rpG.guard {W : World} {g m r g2 m2 B b off k n cap : Nat} {kd at_ nn : Int} {s : ByteArray} {near : Bool} : ∀ g' b', rpGs.getD g' none = some b' → ∀ L v w, rpG W g m r g2 m2 B b off k n cap kd at_ nn s near L g' v w → v = .bool b' := by
  intro g' b' hbb L v w hgg
  match g', hbb, hgg with
  | 0, hbb, hgg => cases hbb
  | 1, hbb, hgg => cases hbb
  | 2, hbb, hgg => cases hbb; exact hgg
  | 3, hbb, hgg => cases hbb
  | 4, hbb, hgg => cases hbb
  | 5, hbb, hgg => cases hbb
  | 6, hbb, hgg => cases hbb
  | 7, hbb, hgg => cases hbb
  | 8, hbb, hgg => cases hbb
  | 9, hbb, hgg => cases hbb
  | 10, hbb, hgg => cases hbb
  | 11, hbb, hgg => cases hbb
  | 12, hbb, hgg => cases hbb
  | 13, hbb, hgg => cases hbb; exact hgg
  | n' + 14, hbb, hgg => exact absurd hbb (by simp [rpGs])


/-- What region 16 reads. -/
structure RqAt (w : World) (g m rr hb bb : Nat) (qs : QS) : Prop where
  q : QAt w g m qs
  r : RAt w rr hb bb qs
  inv : QInv qs
  r0 : 1 ≤ qs.room
  r1 : qs.room ≤ 3000
theorem RqAt.keep {w w' : World} {g m r hb bb : Nat} {q : QS} (h : RqAt w g m r hb bb q) (hk : Only (fun _ => False) w w') : RqAt w' g m r hb bb q :=
  ⟨h.q.keep hk, h.r.only hk (fun h => h) (fun h => h) (fun h => h), h.inv, h.r0, h.r1⟩
theorem RangesAt.keep2 {w w' : World} {B : Nat} {a : Option Addr} {L : List (Int × Int)} (h : RangesAt w B a L) (hk : Only (fun _ => False) w w') : RangesAt w' B a L := h.keep hk (fun _ _ _ h => h)
theorem RangesAt.base {w : World} {B B' : Nat} {a : Option Addr} {L : List (Int × Int)} (h : RangesAt w B a L) (hb : B' ≤ B) : RangesAt w B' a L :=
  ⟨fun i hi => by obtain ⟨g, e1, e2, e3⟩ := h.at_ i hi; exact ⟨g, e1, Nat.le_trans hb e2, e3⟩⟩
theorem qnext_only (w : World) (g m : Nat) (q : QS) (h : QAt w g m q) : Calls Try.prog 14 #[.pointer (some ⟨g, 0, none⟩)] w fun e w' => e = .returned (.int .i64 q.next) ∧ Only (fun _ => False) w w' :=
  (qnext w g m q h).mono fun _ _ x => ⟨x.1, by rw [← x.2]; exact Only.refl _ _⟩
theorem qready_only (w : World) (g m : Nat) (q : QS) (h : QAt w g m q) : Calls Try.prog 18 #[.pointer (some ⟨g, 0, none⟩)] w fun e w' => e = .returned (.int .i64 q.s.size) ∧ Only (fun _ => False) w w' :=
  (qready w g m q h).mono fun _ _ x => ⟨x.1, by rw [← x.2]; exact Only.refl _ _⟩
theorem qwindow_only (w : World) (g m : Nat) (q : QS) (h : QAt w g m q) (hi : QInv q) : Calls Try.prog 15 #[.pointer (some ⟨g, 0, none⟩)] w fun e w' => e = .returned (.int .i64 (q.room - q.s.size)) ∧ Only (fun _ => False) w w' :=
  (qwindow w g m q h hi.sz hi.r2).mono fun _ _ x => ⟨x.1, by obtain ⟨n, e⟩ := x.2; rw [e]; exact (Only.refl _ w).drewN n⟩
theorem rwindow_only (w : World) (r hb bb : Nat) (q : QS) (h : RAt w r hb bb q) (hi : QInv q) : Calls Try.prog 23 #[.pointer (some ⟨r, 0, none⟩)] w fun e w' => e = .returned (.int .i64 (q.room - q.s.size)) ∧ Only (fun _ => False) w w' :=
  (rwindow w r hb bb q h hi.sz hi.r2).mono fun _ _ x => ⟨x.1, by obtain ⟨n, e⟩ := x.2; rw [e]; exact (Only.refl _ w).drewN n⟩
theorem same_true {w : World} (a b : Option Addr) (n k ca cb : Nat) (S : List (Int × Int)) {B : Nat} (ha : RangesAt w B a (S.take n)) (hb : RangesAt w B b (S.take k)) (hn : n = k) (hl : n ≤ S.length ∧ S.length ≤ 65536) :
    Calls Try.prog 16 #[.slice a n ca, .slice b k cb] w fun e w' => e = .returned (.bool true) ∧ Only (fun _ => False) w w' := by
  subst hn
  refine (same_any w a b n n ca cb (S.take n) (S.take n) B B (by rw [List.length_take]; omega) (by rw [List.length_take]; omega) (by omega) (by omega) ha hb).mono ?_
  rintro e w' ⟨rfl, hk⟩
  exact ⟨by simp, hk⟩

def rsG (W : World) (g m r hb bb b off k n cap nl lcap : Nat) (la : Option Addr) (nn : Int) (q : QS) : Nat → Value → World → Prop
  | 0, v, w' => v = .pointer (some ⟨g, 0, none⟩)
  | 1, v, w' => v = .int .i64 q.next
  | 2, v, w' => v = .pointer (some ⟨r, 0, none⟩)
  | 3, v, w' => v = .pointer (some ⟨r, 0, none⟩)
  | 4, v, w' => v = .pointer (some ⟨r, 0, none⟩)
  | 5, v, w' => v = .int .i64 q.next
  | 6, v, w' => v = .bool false
  | 7, v, w' => v = .bool false
  | 8, v, w' => v = .pointer (some ⟨g, 0, none⟩)
  | 9, v, w' => v = .int .i64 (q.room - q.s.size)
  | 10, v, w' => v = .pointer (some ⟨r, 0, none⟩)
  | 11, v, w' => v = .int .i64 (q.room - q.s.size)
  | 12, v, w' => v = .bool false
  | 13, v, w' => v = .bool false
  | 14, v, w' => v = .bool false
  | 15, v, w' => v = .pointer (some ⟨g, 0, none⟩)
  | 16, v, w' => v = .int .i64 q.s.size
  | 17, v, w' => v = .pointer (some ⟨r, 0, none⟩)
  | 18, v, w' => v = .pointer (some ⟨r, 0, none⟩)
  | 19, v, w' => v = .pointer (some ⟨r, 2, none⟩)
  | 20, v, w' => v = .string q.s
  | 21, v, w' => v = .int .i64 q.s.size
  | 22, v, w' => v = .bool false
  | 23, v, w' => v = .bool false
  | 24, v, w' => v = .bool false
  | 25, v, w' => v = .slice la nl lcap
  | 26, v, w' => v = .pointer (some ⟨r, 0, none⟩)
  | 27, v, w' => v = .slice (some ⟨b, off, none⟩) n cap
  | 28, v, w' => v = .int .i64 k
  | 29, v, w' => v = .pointer (some ⟨b, off + k * 5, none⟩)
  | 30, v, w' => v = .pointer (some ⟨b, off + k * 5 + 2, none⟩)
  | 31, v, w' => v = .int .i64 nn
  | 32, v, w' => ∃ a cap2, v = .slice a (mx 0 (mn nn q.stretches.length)).toNat cap2 ∧ RangesAt w' W.heap.size a (q.stretches.take (mx 0 (mn nn q.stretches.length)).toNat)
  | 33, v, w' => v = .bool true
  | 34, v, w' => v = .bool false
  | 35, v, w' => v = .bool false
  | 36, v, w' => v = .bool false
  | 37, v, w' => v = .pointer (some ⟨g, 0, none⟩)
  | 38, v, w' => ∃ a cap2, v = .slice a (mx 0 (mn 99 q.stretches.length)).toNat cap2 ∧ RangesAt w' W.heap.size a (q.stretches.take (mx 0 (mn 99 q.stretches.length)).toNat)
  | 39, v, w' => v = .pointer (some ⟨r, 0, none⟩)
  | 40, v, w' => ∃ a cap2, v = .slice a (mx 0 (mn 99 q.stretches.length)).toNat cap2 ∧ RangesAt w' W.heap.size a (q.stretches.take (mx 0 (mn 99 q.stretches.length)).toNat)
  | 41, v, w' => v = .bool true
  | 42, v, w' => v = .bool false
  | 43, v, w' => v = .bool false
  | _, _, _ => True
def rsDs : List Nat := [106, 107, 108, 109, 110, 111, 112, 113, 114, 115, 116, 117, 118, 119, 120, 121, 122, 123, 124, 125, 126, 127, 128, 129, 130, 131, 132, 133, 134, 135, 136, 137, 138, 139, 140, 141, 142, 143, 144, 145, 146, 147, 148, 149]
def rsNeed : List (List Nat) := [[], [0], [], [2], [3], [4], [1, 5], [6], [], [8], [], [10], [9, 11], [7, 12], [13], [], [15], [], [17], [18], [19], [20], [16, 21], [14, 22], [23], [], [], [], [], [27, 28], [29], [30], [26, 31], [25, 32], [33], [24, 34], [35], [], [37], [], [39], [38, 40], [41], [36, 42]]
def rsGs : List (Option Bool) := [none, none, none, none, none, none, none, some false, none, none, none, none, none, none, some false, none, none, none, none, none, none, none, none, none, some false, none, none, none, none, none, none, none, none, none, none, none, some false]
theorem rsG.keep {W : World} {g m r hb bb b off k n cap nl lcap : Nat} {la : Option Addr} {nn : Int} {q : QS} : ∀ jx v w w', rsG W g m r hb bb b off k n cap nl lcap la nn q jx v w → Only (fun _ => False) w w' → rsG W g m r hb bb b off k n cap nl lcap la nn q jx v w' := by
  intro jx v w w' h hO
  match jx with
  | 0 => exact h
  | 1 => exact h
  | 2 => exact h
  | 3 => exact h
  | 4 => exact h
  | 5 => exact h
  | 6 => exact h
  | 7 => exact h
  | 8 => exact h
  | 9 => exact h
  | 10 => exact h
  | 11 => exact h
  | 12 => exact h
  | 13 => exact h
  | 14 => exact h
  | 15 => exact h
  | 16 => exact h
  | 17 => exact h
  | 18 => exact h
  | 19 => exact h
  | 20 => exact h
  | 21 => exact h
  | 22 => exact h
  | 23 => exact h
  | 24 => exact h
  | 25 => exact h
  | 26 => exact h
  | 27 => exact h
  | 28 => exact h
  | 29 => exact h
  | 30 => exact h
  | 31 => exact h
  | 32 => exact (by obtain ⟨a, cap2, e1, e2⟩ := h; exact ⟨a, cap2, e1, e2.keep2 hO⟩)
  | 33 => exact h
  | 34 => exact h
  | 35 => exact h
  | 36 => exact h
  | 37 => exact h
  | 38 => exact (by obtain ⟨a, cap2, e1, e2⟩ := h; exact ⟨a, cap2, e1, e2.keep2 hO⟩)
  | 39 => exact h
  | 40 => exact (by obtain ⟨a, cap2, e1, e2⟩ := h; exact ⟨a, cap2, e1, e2.keep2 hO⟩)
  | 41 => exact h
  | 42 => exact h
  | 43 => exact h
  | n + 44 => trivial
theorem rsG.guard {W : World} {g m r hb bb b off k n cap nl lcap : Nat} {la : Option Addr} {nn : Int} {q : QS} : ∀ g' b', rsGs.getD g' none = some b' → ∀ v w, rsG W g m r hb bb b off k n cap nl lcap la nn q g' v w → v = .bool b' := by
  intro g' b' hbb v w hgg
  match g', hbb, hgg with
  | 0, hbb, hgg => cases hbb
  | 1, hbb, hgg => cases hbb
  | 2, hbb, hgg => cases hbb
  | 3, hbb, hgg => cases hbb
  | 4, hbb, hgg => cases hbb
  | 5, hbb, hgg => cases hbb
  | 6, hbb, hgg => cases hbb
  | 7, hbb, hgg => cases hbb; exact hgg
  | 8, hbb, hgg => cases hbb
  | 9, hbb, hgg => cases hbb
  | 10, hbb, hgg => cases hbb
  | 11, hbb, hgg => cases hbb
  | 12, hbb, hgg => cases hbb
  | 13, hbb, hgg => cases hbb
  | 14, hbb, hgg => cases hbb; exact hgg
  | 15, hbb, hgg => cases hbb
  | 16, hbb, hgg => cases hbb
  | 17, hbb, hgg => cases hbb
  | 18, hbb, hgg => cases hbb
  | 19, hbb, hgg => cases hbb
  | 20, hbb, hgg => cases hbb
  | 21, hbb, hgg => cases hbb
  | 22, hbb, hgg => cases hbb
  | 23, hbb, hgg => cases hbb
  | 24, hbb, hgg => cases hbb; exact hgg
  | 25, hbb, hgg => cases hbb
  | 26, hbb, hgg => cases hbb
  | 27, hbb, hgg => cases hbb
  | 28, hbb, hgg => cases hbb
  | 29, hbb, hgg => cases hbb
  | 30, hbb, hgg => cases hbb
  | 31, hbb, hgg => cases hbb
  | 32, hbb, hgg => cases hbb
  | 33, hbb, hgg => cases hbb
  | 34, hbb, hgg => cases hbb
  | 35, hbb, hgg => cases hbb
  | 36, hbb, hgg => cases hbb; exact hgg
  | n' + 37, hbb, hgg => exact absurd hbb (by simp [rsGs])


set_option maxHeartbeats 16000000 in
theorem recvPlays_walk (W : World) (fi : Int) (wfi : (Lit.int .i64 fi).wf = true) (ro : Int) (wro : (Lit.int .i64 ro).wf = true) (v : Value) (n : Nat) (f : Nat → List Value) (h : SlIs W [.i, .i, .i, .s, .b] v n f) :
    Calls Try.prog 6 #[.int .i64 fi, .int .i64 ro, v] W fun e W' => e = .returned (.bool true) ∧ Below W.heap.size W W' := by
  obtain ⟨⟨a, cap, rfl, hle, hat⟩, hcells, hsmall, _, _⟩ := h
  obtain ⟨pa, hpa⟩ := Deep.choose_lt (fun i hi => plays_cells (hcells i hi))
  have HPA := Lib.hid hpa
  have HAT := Lib.hid hat
  clear hcells hpa hat
  simp only [List.length_cons, List.length_nil, reachB] at hsmall
  by_cases hbig : 3000 < ro ∧ ro ≤ 65536
  · obtain ⟨b1, b2⟩ := hbig
    go_enter Try.func6, Try.ntmps6
    go_wp2_with fail
    refine (works16 _).mono ?_
    rintro e w2 ⟨rfl, hk2⟩
    go_wp2_with fail
    go_ret
    exact ⟨rfl, hk2.below (Nat.le_refl _) (fun _ _ h => h)⟩
  have hb3 : ¬ (3000 < ro) ∨ (3000 < ro ∧ ¬ (ro ≤ 65536)) := by omega
  by_cases hgood : (0 ≤ fi ∧ fi < 4294967296) ∧ 1 ≤ ro ∧ ro ≤ 65536
  · have hr3 : ¬ 3000 < ro := by omega
    obtain ⟨⟨f0, f1⟩, r0, r1⟩ := hgood
    clear hb3 hbig r1
    go_enter Try.func6, Try.ntmps6
    go_wp2_with fail
    refine (qnew fi ro W f0 f1 r0 (by omega)).mono ?_
    rintro e w1 ⟨rfl, hQ, hk1⟩
    have hgm := hQ.lt
    have hgW : W.heap.size ≤ W.heap.size + 1 := by omega
    have hmW : W.heap.size ≤ W.heap.size := Nat.le_refl _
    have hmd : ∃ m, m = W.heap.size := ⟨_, rfl⟩
    obtain ⟨m, hm⟩ := hmd
    have hgd : ∃ g, g = W.heap.size + 1 := ⟨_, rfl⟩
    obtain ⟨g, hg⟩ := hgd
    rw [← hg] at hQ hgm hgW ⊢
    rw [← hm] at hQ hgm
    rw [show W.heap.size ≤ W.heap.size ↔ W.heap.size ≤ m by rw [hm]] at hmW
    clear hm hg
    go_wp2_with fail
    refine (rnew fi ro w1 f0 f1 r0 (by omega)).mono ?_
    rintro e w2 ⟨r, hb, bb, rfl, hrw, _, _, hR, hk2⟩
    have hrW : W.heap.size ≤ r := Nat.le_trans hk1.size hrw
    have hTw : Twins w2 g m r := ⟨_, hb, bb, hQ.keep hk2, hR, QInv.new fi ro f0 f1 (by omega) (by omega), r0, by omega⟩
    have hO2 : Only (fun _ => False) W w2 := hk1.trans hk2
    clear hQ hR hk1 hk2 hrw hgm
    go_wp2_with fail
    refine (works16 _).mono ?_
    rintro e w3 ⟨rfl, hk3⟩
    have hTw3 : Twins w3 g m r := by
      obtain ⟨q, hb, bb, hq, hr, hi, s0, s1⟩ := hTw
      exact ⟨q, hb, bb, hq.keep hk3, hr.only hk3 (fun h => h) (fun h => h) (fun h => h), hi, s0, s1⟩
    have hO3 := hO2.trans hk3
    clear hTw hO2 hk3
    go_wp2_with fail
    go_loopw [11] (fun iv wr => ∃ k : Nat, iv = .int .i64 k ∧ k ≤ n ∧ k ≤ 60 ∧ Twins wr g m r ∧ Only (fun _ => False) W wr) (fun i _ => 60 - (intOf i).toNat)
    case atStart => exact ⟨0, rfl, by omega, by omega, hTw3, hO3⟩
    case round =>
      clear hTw3 hO3
      obtain ⟨k, rfl, hkn, hk60, hTw, hO⟩ := hrel
      by_cases hin : k < n ∧ k < 60
      · obtain ⟨hin, hi60⟩ := hin
        obtain ⟨b, off, rfl, hbW, hat⟩ := HAT.out (by omega)
        obtain ⟨he, wk, wa, wsz⟩ := HPA.out k hin
        have hc0 := hat k hin 0 (by decide)
        have hc1 := hat k hin 1 (by decide)
        have hc2 := hat k hin 2 (by decide)
        have hc3 := hat k hin 3 (by decide)
        have hc4 := hat k hin 4 (by decide)
        rw [he] at hc0 hc1 hc2 hc3 hc4
        simp only [List.getElem?_cons_zero, List.getElem?_cons_succ, Nat.add_zero, List.length_cons, List.length_nil, Nat.zero_add, Nat.reduceAdd] at hc0 hc1 hc2 hc3 hc4
        clear hat he
        generalize pa k = x at hc0 hc1 hc2 hc3 hc4 wk wa wsz
        obtain ⟨kd, at_, nn, s, near⟩ := x
        simp only [reachB] at hc0 hc1 hc2 hc3 hc4 wk wa wsz
        have AC := Lib.hid (show _ ∧ _ ∧ _ ∧ _ ∧ _ from ⟨hc0, hc1, hc2, hc3, hc4⟩)
        have y3 := cell_only hO (fun h => h) hc3
        clear hc0 hc1 hc2 hc3 hc4
        by_cases hs : s.size ≤ 2000
        · have hs2 : ¬ 2000 < (s.size : Int) := by omega
          have WF := Lib.hid (show _ ∧ _ ∧ _ from ⟨wk, wa, hs⟩)
          clear wk wa wsz
          obtain ⟨q, hb, bb, hq, hr, hi, s0, s1⟩ := hTw
          go_wp2_with fail
          refine (qfork wr g m q hq).mono ?_
          rintro e w5 ⟨g2, m2, rfl, hg2, hm2, hq2, hk5⟩
          have hB2 := hq2.lt
          have hB1 := hq.lt
          have hB0 := hr.lt
          have HT0 : Hid (rpPh W g m r g2 m2 w5.heap.size false w5.drew) := Lib.hid ⟨(hO.trans hk5).drew, Nat.le_refl _, q, hb, bb, hq.keep hk5.drew, hr.only hk5.drew (fun h => h) (fun h => h) (fun h => h), hi, s0, s1, q, hq2.keep (Only.refl _ w5).drew, hi, fun _ => rfl⟩
          have HC := Lib.hid (show RpC W g m r g2 m2 w5.heap.size from by
            have hsz := hk5.size
            have hszW := hO.size
            constructor <;> omega)
          generalize w5.heap.size = B at HC HT0
          have hgn : (some (⟨g2, 0, none⟩ : Addr) == none) = false := rfl
          clear hq hr hi s0 s1 hq2 hk5 hB2 hB1 hB0 hg2 hm2 hO y3
          go_upto_region 12 with fail
          refine wp_region_phased_tail 23 rpDs rpNeed rpGs rpLate rpEarly (fun L w' => rpPh W g m r g2 m2 B (L 10) w') (fun i w w' => Only (rpSt g m r g2 m2 B i) w w') (rpG W g m r g2 m2 B b off k n cap kd at_ nn s near) rfl rfl (by kernel_rfl) (by kernel_rfl) (by kernel_rfl) (by kernel_rfl) (by kernel_rfl) (by kernel_rfl) HT0.out rpG.keep rpG.guard (fun _ _ => Only.refl _ _) ?_ ?_
          · refine And.intro ?op0 (And.intro ?op1 (And.intro ?op2 (And.intro ?op3 (And.intro ?op4 (And.intro ?op5 (And.intro ?op6 (And.intro ?op7 (And.intro ?op8 (And.intro ?op9 (And.intro ?op10 (And.intro ?op11 (And.intro ?op12 (And.intro ?op13 (And.intro ?op14 (And.intro ?op15 (And.intro ?op16 (And.intro ?op17 (And.intro ?op18 (And.intro ?op19 (And.intro ?op20 (And.intro ?op21 (And.intro ?op22 trivial))))))))))))))))))))))
            case op0 =>
              intro L ev w1 hLi hlate hearly hT1 hc hf hfr hG
              rw [if_pos (by decide)]
              have hP : rpPh W g m r g2 m2 B (L 10) w1 := hT1
              obtain ⟨hl10, _⟩ := hlate
              rw [hl10] at hP
              have h12 : ev (.tmp 12) = .pointer (some ⟨g2, 0, none⟩) := hfr 12 (by decide)
              clear hG hfr
              refine OpSays.value (v := .pointer (some ⟨g2, 0, none⟩)) (w' := w1) ?_ ⟨hT1, Only.refl _ _, rfl⟩
              go_simp
            case op1 =>
              intro L ev w1 hLi hlate hearly hT1 hc hf hfr hG
              rw [if_pos (by decide)]
              have hP : rpPh W g m r g2 m2 B (L 10) w1 := hT1
              obtain ⟨hl10, _⟩ := hlate
              rw [hl10] at hP
              have hg : (ev (.tmp 70) = .pointer (some ⟨g2, 0, none⟩)) ∧ True := hG
              obtain ⟨g0, _⟩ := hg
              clear hG hfr
              refine OpSays.value (v := .bool false) (w' := w1) ?_ ⟨hT1, Only.refl _ _, rfl⟩
              go_simp
            case op2 =>
              intro L ev w1 hLi hlate hearly hT1 hc hf hfr hG
              rw [if_pos (by decide)]
              have hP : rpPh W g m r g2 m2 B (L 10) w1 := hT1
              obtain ⟨hl10, _⟩ := hlate
              rw [hl10] at hP
              have hg : (ev (.tmp 71) = .bool false) ∧ True := hG
              obtain ⟨g1, _⟩ := hg
              clear hG hfr
              refine OpSays.value (v := .bool false) (w' := w1) ?_ ⟨hT1, Only.refl _ _, rfl⟩
              go_simp
            case op3 =>
              intro L ev w1 hLi hlate hearly hT1 hc hf hfr hG
              rw [if_pos (by decide)]
              have hP : rpPh W g m r g2 m2 B (L 10) w1 := hT1
              obtain ⟨hl10, _⟩ := hlate
              rw [hl10] at hP
              have h12 : ev (.tmp 12) = .pointer (some ⟨g2, 0, none⟩) := hfr 12 (by decide)
              clear hG hfr
              refine OpSays.value (v := .pointer (some ⟨g2, 0, none⟩)) (w' := w1) ?_ ⟨hT1, Only.refl _ _, rfl⟩
              go_simp
            case op4 =>
              intro L ev w1 hLi hlate hearly hT1 hc hf hfr hG
              rw [if_pos (by decide)]
              have hP : rpPh W g m r g2 m2 B (L 10) w1 := hT1
              obtain ⟨hl10, _⟩ := hlate
              rw [hl10] at hP
              have h9 : ev (.tmp 9) = .pointer (some ⟨r, 0, none⟩) := hfr 9 (by decide)
              clear hG hfr
              refine OpSays.value (v := .pointer (some ⟨r, 0, none⟩)) (w' := w1) ?_ ⟨hT1, Only.refl _ _, rfl⟩
              go_simp
            case op5 =>
              intro L ev w1 hLi hlate hearly hT1 hc hf hfr hG
              rw [if_pos (by decide)]
              have hP : rpPh W g m r g2 m2 B (L 10) w1 := hT1
              obtain ⟨hl10, _⟩ := hlate
              rw [hl10] at hP
              change OpSays _ _ _ _ (fun v w' => rpPh W g m r g2 m2 B (L 10) w' ∧ _ ∧ _)
              rw [hl10]
              have hg : (ev (.tmp 74) = .pointer (some ⟨r, 0, none⟩)) ∧ True := hG
              obtain ⟨g4, _⟩ := hg
              clear hG hfr
              obtain ⟨hO, hBw, q, hb, bb, hq, hr, hi, r0, r1, q2, hq2, hi2, he⟩ := hP
              obtain rfl := he rfl
              refine OpSays.enter (f := 22) (args := #[.pointer (some ⟨r, 0, none⟩)]) (w' := w1) ?_ ?_
              · go_simp
              · refine (rfork w1 r hb bb q2 hr r0 r1).mono ?_
                rintro e' w2 ⟨rf, hb2, bb2, rfl, b1, b2, b3, hr2, hk⟩
                exact ⟨_, rfl, ⟨hO.trans hk, Nat.le_trans hBw hk.size, q2, hb, bb, hq.keep hk, hr.only hk (fun h => h) (fun h => h) (fun h => h), hi, r0, r1, q2, hq2.keep hk, hi2, fun _ => rfl⟩, hk.mono (fun _ _ h => h.elim), rf, rfl, HC.out, Nat.le_trans hBw b1, fun _ => ⟨q2, hb2, bb2, Nat.le_trans hBw b2, Nat.le_trans hBw b3, hq2.keep hk, hr2, hi, r0, r1⟩⟩
            case op6 =>
              intro L ev w1 hLi hlate hearly hT1 hc hf hfr hG
              rw [if_pos (by decide)]
              have hP : rpPh W g m r g2 m2 B (L 10) w1 := hT1
              obtain ⟨hl10, _⟩ := hlate
              rw [hl10] at hP
              have h2 : ev (.tmp 2) = .slice (some ⟨b, off, none⟩) n cap := hfr 2 (by decide)
              clear hG hfr
              refine OpSays.value (v := .slice (some ⟨b, off, none⟩) n cap) (w' := w1) ?_ ⟨hT1, Only.refl _ _, rfl⟩
              go_simp
            case op7 =>
              intro L ev w1 hLi hlate hearly hT1 hc hf hfr hG
              rw [if_pos (by decide)]
              have hP : rpPh W g m r g2 m2 B (L 10) w1 := hT1
              obtain ⟨hl10, _⟩ := hlate
              rw [hl10] at hP
              have h11 : ev (.tmp 11) = .int .i64 k := hfr 11 (by decide)
              clear hG hfr
              refine OpSays.value (v := .int .i64 k) (w' := w1) ?_ ⟨hT1, Only.refl _ _, rfl⟩
              go_simp
            case op8 =>
              intro L ev w1 hLi hlate hearly hT1 hc hf hfr hG
              rw [if_pos (by decide)]
              have hP : rpPh W g m r g2 m2 B (L 10) w1 := hT1
              obtain ⟨hl10, _⟩ := hlate
              rw [hl10] at hP
              have hg : (ev (.tmp 76) = .slice (some ⟨b, off, none⟩) n cap) ∧ (ev (.tmp 77) = .int .i64 k) ∧ True := hG
              obtain ⟨g6, g7, _⟩ := hg
              clear hG hfr
              refine OpSays.value (v := .pointer (some ⟨b, off + k * 5, none⟩)) (w' := w1) ?_ ⟨hT1, Only.refl _ _, rfl⟩
              go_simp
            case op9 =>
              intro L ev w1 hLi hlate hearly hT1 hc hf hfr hG
              rw [if_pos (by decide)]
              have hP : rpPh W g m r g2 m2 B (L 10) w1 := hT1
              obtain ⟨hl10, _⟩ := hlate
              rw [hl10] at hP
              have hg : (ev (.tmp 78) = .pointer (some ⟨b, off + k * 5, none⟩)) ∧ True := hG
              obtain ⟨g8, _⟩ := hg
              clear hG hfr
              have c0 := cell_only hP.1 (fun h => h) (AC.out.1)
              have c1 := cell_only hP.1 (fun h => h) (AC.out.2.1)
              have c2 := cell_only hP.1 (fun h => h) (AC.out.2.2.1)
              have c3 := cell_only hP.1 (fun h => h) (AC.out.2.2.2.1)
              have c4 := cell_only hP.1 (fun h => h) AC.out.2.2.2.2
              refine OpSays.value (v := .agg #[.int .i64 kd, .int .i64 at_, .int .i64 nn, .string s, .bool near]) (w' := w1) ?_ ⟨hT1, Only.refl _ _, rfl⟩
              go_simp
            case op10 =>
              intro L ev w1 hLi hlate hearly hT1 hc hf hfr hG
              rw [if_pos (by decide)]
              have hP : rpPh W g m r g2 m2 B (L 10) w1 := hT1
              rw [hLi] at hP
              change OpSays _ _ _ _ (fun v w' => rpPh W g m r g2 m2 B (true) w' ∧ _ ∧ _)
              have hg : (ev (.tmp 73) = .pointer (some ⟨g2, 0, none⟩)) ∧ (∃ rf, ev (.tmp 75) = .pointer (some ⟨rf, 0, none⟩) ∧ RpC W g m r g2 m2 B ∧ B ≤ rf ∧ (L 10 = false → ∃ (q : QS) (hb bb : Nat), B ≤ hb ∧ B ≤ bb ∧ QAt w1 g2 m2 q ∧ RAt w1 rf hb bb q ∧ QInv q ∧ 1 ≤ q.room ∧ q.room ≤ 3000)) ∧ (ev (.tmp 79) = .agg #[.int .i64 kd, .int .i64 at_, .int .i64 nn, .string s, .bool near]) ∧ True := hG
              obtain ⟨g3, g5, g9, _⟩ := hg
              clear hG hfr
              obtain ⟨rf, g5, hC, hBf, hx⟩ := g5
              obtain ⟨q', hb', bb', b1, b2, hq', hr', hi', s0, s1⟩ := hx hLi
              obtain ⟨hO, hBw, q, hb, bb, hq, hr, hi, r0, r1, q2, hq2, hi2, he⟩ := hP
              refine OpSays.enter (f := 21) (args := #[.pointer (some ⟨g2, 0, none⟩), .pointer (some ⟨rf, 0, none⟩), .agg #[.int .i64 kd, .int .i64 at_, .int .i64 nn, .string s, .bool near]]) (w' := w1) ?_ ?_
              · go_simp
              · refine (step_any w1 g2 m2 rf ⟨q', hb', bb', hq', hr', hi', s0, s1⟩ kd at_ nn s near WF.out.1 WF.out.2.1 WF.out.2.2).mono ?_
                rintro e' w2 ⟨rfl, ⟨q3, hb3, bb3, hq3, hr3, hi3, _, _⟩, hk⟩
                obtain ⟨t1, t2, t3, t4, t5, t6, t7⟩ := twins_ne hq2 hr
                obtain ⟨u1, u2⟩ := rat_ne hr hr'
                obtain ⟨c1, c2, c3, c4, c5, c6, c7, c8, c9, c10, c11, c12, c13, c14, c15, c16⟩ := hC
                exact ⟨_, rfl, ⟨hO.then hk (fun k h1 h2 => by omega), Nat.le_trans hBw hk.size, q, hb, bb, hq.only hk (by omega) (by omega), hr.only hk (by omega) (by omega) (by omega), hi, r0, r1, q3, hq3, hi3, fun h => by cases h⟩, hk.mono (fun k _ h => .inl ⟨rfl, by omega⟩), rfl⟩
            case op11 =>
              intro L ev w1 hLi hlate hearly hT1 hc hf hfr hG
              rw [if_pos (by decide)]
              have hP : rpPh W g m r g2 m2 B (L 10) w1 := hT1
              obtain ⟨he10, _⟩ := hearly
              rw [he10] at hP
              have hg : (ev (.tmp 80) = .bool true) ∧ True := hG
              obtain ⟨g10, _⟩ := hg
              clear hG hfr
              refine OpSays.value (v := .bool false) (w' := w1) ?_ ⟨hT1, Only.refl _ _, rfl⟩
              go_simp
            case op12 =>
              intro L ev w1 hLi hlate hearly hT1 hc hf hfr hG
              rw [if_pos (by decide)]
              have hP : rpPh W g m r g2 m2 B (L 10) w1 := hT1
              obtain ⟨he10, _⟩ := hearly
              rw [he10] at hP
              have hg : (ev (.tmp 72) = .bool false) ∧ (ev (.tmp 81) = .bool false) ∧ True := hG
              obtain ⟨g2, g11, _⟩ := hg
              clear hG hfr
              refine OpSays.value (v := .bool false) (w' := w1) ?_ ⟨hT1, Only.refl _ _, rfl⟩
              go_simp
            case op13 =>
              intro L ev w1 hLi hlate hearly hT1 hc hf hfr hG
              rw [if_pos (by decide)]
              have hP : rpPh W g m r g2 m2 B (L 10) w1 := hT1
              obtain ⟨he10, _⟩ := hearly
              rw [he10] at hP
              have hg : (ev (.tmp 82) = .bool false) ∧ True := hG
              obtain ⟨g12, _⟩ := hg
              clear hG hfr
              refine OpSays.value (v := .bool false) (w' := w1) ?_ ⟨hT1, Only.refl _ _, rfl⟩
              go_simp
            case op14 =>
              intro L ev w1 hLi hlate hearly hT1 hc hf hfr hG
              rw [if_pos (by decide)]
              have hP : rpPh W g m r g2 m2 B (L 10) w1 := hT1
              obtain ⟨he10, _⟩ := hearly
              rw [he10] at hP
              have h7 : ev (.tmp 7) = .pointer (some ⟨g, 0, none⟩) := hfr 7 (by decide)
              clear hG hfr
              refine OpSays.value (v := .pointer (some ⟨g, 0, none⟩)) (w' := w1) ?_ ⟨hT1, Only.refl _ _, rfl⟩
              go_simp
            case op15 =>
              intro L ev w1 hLi hlate hearly hT1 hc hf hfr hG
              rw [if_pos (by decide)]
              have hP : rpPh W g m r g2 m2 B (L 10) w1 := hT1
              obtain ⟨he10, _⟩ := hearly
              rw [he10] at hP
              have h9 : ev (.tmp 9) = .pointer (some ⟨r, 0, none⟩) := hfr 9 (by decide)
              clear hG hfr
              refine OpSays.value (v := .pointer (some ⟨r, 0, none⟩)) (w' := w1) ?_ ⟨hT1, Only.refl _ _, rfl⟩
              go_simp
            case op16 =>
              intro L ev w1 hLi hlate hearly hT1 hc hf hfr hG
              rw [if_pos (by decide)]
              have hP : rpPh W g m r g2 m2 B (L 10) w1 := hT1
              obtain ⟨he10, _⟩ := hearly
              rw [he10] at hP
              have h2 : ev (.tmp 2) = .slice (some ⟨b, off, none⟩) n cap := hfr 2 (by decide)
              clear hG hfr
              refine OpSays.value (v := .slice (some ⟨b, off, none⟩) n cap) (w' := w1) ?_ ⟨hT1, Only.refl _ _, rfl⟩
              go_simp
            case op17 =>
              intro L ev w1 hLi hlate hearly hT1 hc hf hfr hG
              rw [if_pos (by decide)]
              have hP : rpPh W g m r g2 m2 B (L 10) w1 := hT1
              obtain ⟨he10, _⟩ := hearly
              rw [he10] at hP
              have h11 : ev (.tmp 11) = .int .i64 k := hfr 11 (by decide)
              clear hG hfr
              refine OpSays.value (v := .int .i64 k) (w' := w1) ?_ ⟨hT1, Only.refl _ _, rfl⟩
              go_simp
            case op18 =>
              intro L ev w1 hLi hlate hearly hT1 hc hf hfr hG
              rw [if_pos (by decide)]
              have hP : rpPh W g m r g2 m2 B (L 10) w1 := hT1
              obtain ⟨he10, _⟩ := hearly
              rw [he10] at hP
              have hg : (ev (.tmp 86) = .slice (some ⟨b, off, none⟩) n cap) ∧ (ev (.tmp 87) = .int .i64 k) ∧ True := hG
              obtain ⟨g16, g17, _⟩ := hg
              clear hG hfr
              refine OpSays.value (v := .pointer (some ⟨b, off + k * 5, none⟩)) (w' := w1) ?_ ⟨hT1, Only.refl _ _, rfl⟩
              go_simp
            case op19 =>
              intro L ev w1 hLi hlate hearly hT1 hc hf hfr hG
              rw [if_pos (by decide)]
              have hP : rpPh W g m r g2 m2 B (L 10) w1 := hT1
              obtain ⟨he10, _⟩ := hearly
              rw [he10] at hP
              have hg : (ev (.tmp 88) = .pointer (some ⟨b, off + k * 5, none⟩)) ∧ True := hG
              obtain ⟨g18, _⟩ := hg
              clear hG hfr
              have c0 := cell_only hP.1 (fun h => h) (AC.out.1)
              have c1 := cell_only hP.1 (fun h => h) (AC.out.2.1)
              have c2 := cell_only hP.1 (fun h => h) (AC.out.2.2.1)
              have c3 := cell_only hP.1 (fun h => h) (AC.out.2.2.2.1)
              have c4 := cell_only hP.1 (fun h => h) AC.out.2.2.2.2
              refine OpSays.value (v := .agg #[.int .i64 kd, .int .i64 at_, .int .i64 nn, .string s, .bool near]) (w' := w1) ?_ ⟨hT1, Only.refl _ _, rfl⟩
              go_simp
            case op20 =>
              intro L ev w1 hLi hlate hearly hT1 hc hf hfr hG
              rw [if_pos (by decide)]
              have hP : rpPh W g m r g2 m2 B (L 10) w1 := hT1
              obtain ⟨he10, _⟩ := hearly
              rw [he10] at hP
              change OpSays _ _ _ _ (fun v w' => rpPh W g m r g2 m2 B (L 10) w' ∧ _ ∧ _)
              rw [he10]
              have hg : (ev (.tmp 84) = .pointer (some ⟨g, 0, none⟩)) ∧ (ev (.tmp 85) = .pointer (some ⟨r, 0, none⟩)) ∧ (ev (.tmp 89) = .agg #[.int .i64 kd, .int .i64 at_, .int .i64 nn, .string s, .bool near]) ∧ True := hG
              obtain ⟨g14, g15, g19, _⟩ := hg
              clear hG hfr
              obtain ⟨hO, hBw, q, hb, bb, hq, hr, hi, r0, r1, q2, hq2, hi2, he⟩ := hP
              refine OpSays.enter (f := 21) (args := #[.pointer (some ⟨g, 0, none⟩), .pointer (some ⟨r, 0, none⟩), .agg #[.int .i64 kd, .int .i64 at_, .int .i64 nn, .string s, .bool near]]) (w' := w1) ?_ ?_
              · go_simp
              · refine (step_any w1 g m r ⟨q, hb, bb, hq, hr, hi, r0, r1⟩ kd at_ nn s near WF.out.1 WF.out.2.1 WF.out.2.2).mono ?_
                rintro e' w2 ⟨rfl, ⟨q3, hb3, bb3, hq3, hr3, hi3, s0, s1⟩, hk⟩
                obtain ⟨c1, c2, c3, c4, c5, c6, c7, c8, c9, c10, c11, c12, c13, c14, c15, c16⟩ := HC.out
                exact ⟨_, rfl, ⟨hO.then hk (fun k h1 h2 => by omega), Nat.le_trans hBw hk.size, q3, hb3, bb3, hq3, hr3, hi3, s0, s1, q2, hq2.only hk (by omega) (by omega), hi2, fun h => by cases h⟩, hk.mono (fun k _ h => .inr ⟨rfl, h⟩), rfl⟩
            case op21 =>
              intro L ev w1 hLi hlate hearly hT1 hc hf hfr hG
              rw [if_pos (by decide)]
              have hP : rpPh W g m r g2 m2 B (L 10) w1 := hT1
              obtain ⟨he10, _⟩ := hearly
              rw [he10] at hP
              have hg : (ev (.tmp 90) = .bool true) ∧ True := hG
              obtain ⟨g20, _⟩ := hg
              clear hG hfr
              refine OpSays.value (v := .bool false) (w' := w1) ?_ ⟨hT1, Only.refl _ _, rfl⟩
              go_simp
            case op22 =>
              intro L ev w1 hLi hlate hearly hT1 hc hf hfr hG
              rw [if_pos (by decide)]
              have hP : rpPh W g m r g2 m2 B (L 10) w1 := hT1
              obtain ⟨he10, _⟩ := hearly
              rw [he10] at hP
              have hg : (ev (.tmp 83) = .bool false) ∧ (ev (.tmp 91) = .bool false) ∧ True := hG
              obtain ⟨g13, g21, _⟩ := hg
              clear hG hfr
              refine OpSays.value (v := .bool false) (w' := w1) ?_ ⟨hT1, Only.refl _ _, rfl⟩
              go_simp
          rintro L ⟨tm, df⟩ w6 hL hT1 hsz hdf hfr hG
          have hPE : rpPh W g m r g2 m2 B (true) w6 := by
            have hP : rpPh W g m r g2 m2 B (L 10) w6 := hT1
            have hm := fun k (hk : k ∈ List.range 23) => AllB.get hL k hk
            rw [hm 10 (by decide)] at hP
            exact hP
          clear hT1 hL
          have k0 : tm.getD 0 undef = Value.int IntKind.i64 fi := hfr 0 (by decide)
          have k1 : tm.getD 1 undef = Value.int IntKind.i64 ro := hfr 1 (by decide)
          have k2 : tm.getD 2 undef = Value.slice (some { block := b, off := off }) n cap := hfr 2 (by decide)
          have k3 : tm.getD 3 undef = undef := hfr 3 (by decide)
          have k4 : tm.getD 4 undef = undef := hfr 4 (by decide)
          have k5 : tm.getD 5 undef = undef := hfr 5 (by decide)
          have k7 : tm.getD 7 undef = Value.pointer (some { block := g, off := 0 }) := hfr 7 (by decide)
          have k8 : tm.getD 8 undef = Value.int IntKind.i64 0 := hfr 8 (by decide)
          have k9 : tm.getD 9 undef = Value.pointer (some { block := r, off := 0 }) := hfr 9 (by decide)
          have k10 : tm.getD 10 undef = Value.int IntKind.i64 0 := hfr 10 (by decide)
          have k14 : tm.getD 14 undef = Value.int IntKind.i64 ro := hfr 14 (by decide)
          have k15 : tm.getD 15 undef = Value.bool false := hfr 15 (by decide)
          have k16 : tm.getD 16 undef = Value.bool false := hfr 16 (by decide)
          have k17 : tm.getD 17 undef = undef := hfr 17 (by decide)
          have k18 : tm.getD 18 undef = undef := hfr 18 (by decide)
          have k19 : tm.getD 19 undef = Value.bool false := hfr 19 (by decide)
          have k20 : tm.getD 20 undef = undef := hfr 20 (by decide)
          have k21 : tm.getD 21 undef = Value.tuple #[Value.pointer (some { block := g, off := 0 }), Value.int IntKind.i64 0] := hfr 21 (by decide)
          have k22 : tm.getD 22 undef = Value.int IntKind.i64 fi := hfr 22 (by decide)
          have k23 : tm.getD 23 undef = Value.int IntKind.i64 ro := hfr 23 (by decide)
          have k24 : tm.getD 24 undef = Value.tuple #[Value.pointer (some { block := g, off := 0 }), Value.int IntKind.i64 0] := hfr 24 (by decide)
          have k25 : tm.getD 25 undef = Value.pointer (some { block := g, off := 0 }) := hfr 25 (by decide)
          have k26 : tm.getD 26 undef = Value.int IntKind.i64 0 := hfr 26 (by decide)
          have k27 : tm.getD 27 undef = Value.tuple #[Value.pointer (some { block := r, off := 0 }), Value.int IntKind.i64 0] := hfr 27 (by decide)
          have k28 : tm.getD 28 undef = Value.int IntKind.i64 fi := hfr 28 (by decide)
          have k29 : tm.getD 29 undef = Value.int IntKind.i64 ro := hfr 29 (by decide)
          have k30 : tm.getD 30 undef = Value.tuple #[Value.pointer (some { block := r, off := 0 }), Value.int IntKind.i64 0] := hfr 30 (by decide)
          have k31 : tm.getD 31 undef = Value.pointer (some { block := r, off := 0 }) := hfr 31 (by decide)
          have k32 : tm.getD 32 undef = Value.int IntKind.i64 0 := hfr 32 (by decide)
          have k33 : tm.getD 33 undef = Value.int IntKind.i64 0 := hfr 33 (by decide)
          have k34 : tm.getD 34 undef = Value.int IntKind.i64 0 := hfr 34 (by decide)
          have k35 : tm.getD 35 undef = Value.bool false := hfr 35 (by decide)
          have k36 : tm.getD 36 undef = Value.bool false := hfr 36 (by decide)
          have k37 : tm.getD 37 undef = Value.pointer (some { block := g, off := 0 }) := hfr 37 (by decide)
          have k38 : tm.getD 38 undef = Value.bool false := hfr 38 (by decide)
          have k39 : tm.getD 39 undef = Value.pointer (some { block := r, off := 0 }) := hfr 39 (by decide)
          have k40 : tm.getD 40 undef = Value.bool false := hfr 40 (by decide)
          have k41 : tm.getD 41 undef = Value.bool false := hfr 41 (by decide)
          have k42 : tm.getD 42 undef = Value.bool false := hfr 42 (by decide)
          have k43 : tm.getD 43 undef = Value.bool false := hfr 43 (by decide)
          have k44 : tm.getD 44 undef = Value.bool true := hfr 44 (by decide)
          have k45 : tm.getD 45 undef = Value.bool false := hfr 45 (by decide)
          have k46 : tm.getD 46 undef = Value.bool false := hfr 46 (by decide)
          have k11 : tm.getD 11 undef = .int .i64 k := hfr 11 (by decide)
          have k12 : tm.getD 12 undef = .pointer (some ⟨g2, 0, none⟩) := hfr 12 (by decide)
          have k92 : tm.getD 92 undef = .bool false := AllG.get hG 22 (by decide)
          have he : tm = #[tm.getD 0 undef, tm.getD 1 undef, tm.getD 2 undef, tm.getD 3 undef, tm.getD 4 undef, tm.getD 5 undef, tm.getD 6 undef, tm.getD 7 undef, tm.getD 8 undef, tm.getD 9 undef, tm.getD 10 undef, tm.getD 11 undef, tm.getD 12 undef, tm.getD 13 undef, tm.getD 14 undef, tm.getD 15 undef, tm.getD 16 undef, tm.getD 17 undef, tm.getD 18 undef, tm.getD 19 undef, tm.getD 20 undef, tm.getD 21 undef, tm.getD 22 undef, tm.getD 23 undef, tm.getD 24 undef, tm.getD 25 undef, tm.getD 26 undef, tm.getD 27 undef, tm.getD 28 undef, tm.getD 29 undef, tm.getD 30 undef, tm.getD 31 undef, tm.getD 32 undef, tm.getD 33 undef, tm.getD 34 undef, tm.getD 35 undef, tm.getD 36 undef, tm.getD 37 undef, tm.getD 38 undef, tm.getD 39 undef, tm.getD 40 undef, tm.getD 41 undef, tm.getD 42 undef, tm.getD 43 undef, tm.getD 44 undef, tm.getD 45 undef, tm.getD 46 undef, tm.getD 47 undef, tm.getD 48 undef, tm.getD 49 undef, tm.getD 50 undef, tm.getD 51 undef, tm.getD 52 undef, tm.getD 53 undef, tm.getD 54 undef, tm.getD 55 undef, tm.getD 56 undef, tm.getD 57 undef, tm.getD 58 undef, tm.getD 59 undef, tm.getD 60 undef, tm.getD 61 undef, tm.getD 62 undef, tm.getD 63 undef, tm.getD 64 undef, tm.getD 65 undef, tm.getD 66 undef, tm.getD 67 undef, tm.getD 68 undef, tm.getD 69 undef, tm.getD 70 undef, tm.getD 71 undef, tm.getD 72 undef, tm.getD 73 undef, tm.getD 74 undef, tm.getD 75 undef, tm.getD 76 undef, tm.getD 77 undef, tm.getD 78 undef, tm.getD 79 undef, tm.getD 80 undef, tm.getD 81 undef, tm.getD 82 undef, tm.getD 83 undef, tm.getD 84 undef, tm.getD 85 undef, tm.getD 86 undef, tm.getD 87 undef, tm.getD 88 undef, tm.getD 89 undef, tm.getD 90 undef, tm.getD 91 undef, tm.getD 92 undef, tm.getD 93 undef, tm.getD 94 undef, tm.getD 95 undef, tm.getD 96 undef, tm.getD 97 undef, tm.getD 98 undef, tm.getD 99 undef, tm.getD 100 undef, tm.getD 101 undef, tm.getD 102 undef, tm.getD 103 undef, tm.getD 104 undef, tm.getD 105 undef, tm.getD 106 undef, tm.getD 107 undef, tm.getD 108 undef, tm.getD 109 undef, tm.getD 110 undef, tm.getD 111 undef, tm.getD 112 undef, tm.getD 113 undef, tm.getD 114 undef, tm.getD 115 undef, tm.getD 116 undef, tm.getD 117 undef, tm.getD 118 undef, tm.getD 119 undef, tm.getD 120 undef, tm.getD 121 undef, tm.getD 122 undef, tm.getD 123 undef, tm.getD 124 undef, tm.getD 125 undef, tm.getD 126 undef, tm.getD 127 undef, tm.getD 128 undef, tm.getD 129 undef, tm.getD 130 undef, tm.getD 131 undef, tm.getD 132 undef, tm.getD 133 undef, tm.getD 134 undef, tm.getD 135 undef, tm.getD 136 undef, tm.getD 137 undef, tm.getD 138 undef, tm.getD 139 undef, tm.getD 140 undef, tm.getD 141 undef, tm.getD 142 undef, tm.getD 143 undef, tm.getD 144 undef, tm.getD 145 undef, tm.getD 146 undef, tm.getD 147 undef, tm.getD 148 undef, tm.getD 149 undef] := arr_eta (n := 150) hsz
          replace hdf : df = [] := hdf
          subst hdf
          clear hsz hfr hG
          rw [he, k0, k1, k2, k3, k4, k5, k7, k8, k9, k10, k14, k15, k16, k17, k18, k19, k20, k21, k22, k23, k24, k25, k26, k27, k28, k29, k30, k31, k32, k33, k34, k35, k36, k37, k38, k39, k40, k41, k42, k43, k44, k45, k46, k11, k12, k92]
          clear he k0 k1 k2 k3 k4 k5 k7 k8 k9 k10 k14 k15 k16 k17 k18 k19 k20 k21 k22 k23 k24 k25 k26 k27 k28 k29 k30 k31 k32 k33 k34 k35 k36 k37 k38 k39 k40 k41 k42 k43 k44 k45 k46 k11 k12 k92
          generalize tm.getD 6 undef = x6
          generalize tm.getD 13 undef = x13
          generalize tm.getD 47 undef = x47
          generalize tm.getD 48 undef = x48
          generalize tm.getD 49 undef = x49
          generalize tm.getD 50 undef = x50
          generalize tm.getD 51 undef = x51
          generalize tm.getD 52 undef = x52
          generalize tm.getD 53 undef = x53
          generalize tm.getD 54 undef = x54
          generalize tm.getD 55 undef = x55
          generalize tm.getD 56 undef = x56
          generalize tm.getD 57 undef = x57
          generalize tm.getD 58 undef = x58
          generalize tm.getD 59 undef = x59
          generalize tm.getD 60 undef = x60
          generalize tm.getD 61 undef = x61
          generalize tm.getD 62 undef = x62
          generalize tm.getD 63 undef = x63
          generalize tm.getD 64 undef = x64
          generalize tm.getD 65 undef = x65
          generalize tm.getD 66 undef = x66
          generalize tm.getD 67 undef = x67
          generalize tm.getD 68 undef = x68
          generalize tm.getD 69 undef = x69
          generalize tm.getD 70 undef = x70
          generalize tm.getD 71 undef = x71
          generalize tm.getD 72 undef = x72
          generalize tm.getD 73 undef = x73
          generalize tm.getD 74 undef = x74
          generalize tm.getD 75 undef = x75
          generalize tm.getD 76 undef = x76
          generalize tm.getD 77 undef = x77
          generalize tm.getD 78 undef = x78
          generalize tm.getD 79 undef = x79
          generalize tm.getD 80 undef = x80
          generalize tm.getD 81 undef = x81
          generalize tm.getD 82 undef = x82
          generalize tm.getD 83 undef = x83
          generalize tm.getD 84 undef = x84
          generalize tm.getD 85 undef = x85
          generalize tm.getD 86 undef = x86
          generalize tm.getD 87 undef = x87
          generalize tm.getD 88 undef = x88
          generalize tm.getD 89 undef = x89
          generalize tm.getD 90 undef = x90
          generalize tm.getD 91 undef = x91
          generalize tm.getD 93 undef = x93
          generalize tm.getD 94 undef = x94
          generalize tm.getD 95 undef = x95
          generalize tm.getD 96 undef = x96
          generalize tm.getD 97 undef = x97
          generalize tm.getD 98 undef = x98
          generalize tm.getD 99 undef = x99
          generalize tm.getD 100 undef = x100
          generalize tm.getD 101 undef = x101
          generalize tm.getD 102 undef = x102
          generalize tm.getD 103 undef = x103
          generalize tm.getD 104 undef = x104
          generalize tm.getD 105 undef = x105
          generalize tm.getD 106 undef = x106
          generalize tm.getD 107 undef = x107
          generalize tm.getD 108 undef = x108
          generalize tm.getD 109 undef = x109
          generalize tm.getD 110 undef = x110
          generalize tm.getD 111 undef = x111
          generalize tm.getD 112 undef = x112
          generalize tm.getD 113 undef = x113
          generalize tm.getD 114 undef = x114
          generalize tm.getD 115 undef = x115
          generalize tm.getD 116 undef = x116
          generalize tm.getD 117 undef = x117
          generalize tm.getD 118 undef = x118
          generalize tm.getD 119 undef = x119
          generalize tm.getD 120 undef = x120
          generalize tm.getD 121 undef = x121
          generalize tm.getD 122 undef = x122
          generalize tm.getD 123 undef = x123
          generalize tm.getD 124 undef = x124
          generalize tm.getD 125 undef = x125
          generalize tm.getD 126 undef = x126
          generalize tm.getD 127 undef = x127
          generalize tm.getD 128 undef = x128
          generalize tm.getD 129 undef = x129
          generalize tm.getD 130 undef = x130
          generalize tm.getD 131 undef = x131
          generalize tm.getD 132 undef = x132
          generalize tm.getD 133 undef = x133
          generalize tm.getD 134 undef = x134
          generalize tm.getD 135 undef = x135
          generalize tm.getD 136 undef = x136
          generalize tm.getD 137 undef = x137
          generalize tm.getD 138 undef = x138
          generalize tm.getD 139 undef = x139
          generalize tm.getD 140 undef = x140
          generalize tm.getD 141 undef = x141
          generalize tm.getD 142 undef = x142
          generalize tm.getD 143 undef = x143
          generalize tm.getD 144 undef = x144
          generalize tm.getD 145 undef = x145
          generalize tm.getD 146 undef = x146
          generalize tm.getD 147 undef = x147
          generalize tm.getD 148 undef = x148
          generalize tm.getD 149 undef = x149
          simp only [List.drop_succ_cons, List.drop_zero]
          obtain ⟨hO6, hB6, q, hb, bb, hq6, hr6, hi6, s0, s1, q2, hq2, hi2, _⟩ := hPE
          obtain ⟨c1, c2, c3, c4, c5, c6, c7, c8, c9, c10, c11, c12, c13, c14, c15, c16⟩ := HC.out
          have x0 := hr6.c0
          go_wp2_with fail
          refine (put_any w6 g2 m2 q2 q.next ⟨#[102, 111, 114, 107]⟩ hq2 hi6.n0 hi6.n1 (by decide) hi2.n0 hi2.n1 (by have := hi2.sz; omega) hi2.r2 hi2.len).mono ?_
          rintro e w7 ⟨rfl, _, hk7⟩
          obtain ⟨t1, t2, t3, t4, t5, t6, t7⟩ := twins_ne hq2 hr6
          have hq7 : QAt w7 g m q := hq6.only hk7 (by omega) (by omega)
          have hr7 : RAt w7 r hb bb q := hr6.only hk7 (by omega) (by omega) (by omega)
          have hO7 : Only (fun _ => False) W w7 := hO6.then hk7 (fun k h1 h2 => by omega)
          have y2 := cell_only hO7 (fun h => h) AC.out.2.2.1
          clear x0 hk7 hq2 hi2 hO6 hB6 hq6 hr6 t1 t2 t3 t4 t5 t6 t7 c1 c2 c3 c4 c5 c6 c7 c8 c9 c10 c11 c12 c13 c14 c15 c16
          go_wp2_with fail
          refine (apart_any w7 g m q nn hq7 hi6.n0 hi6.n1 hi6.len hi6.keys).mono ?_
          rintro e w8 ⟨la, lcap, rfl, hRL, hk8⟩
          have hslen : q.stretches.length ≤ 65536 := by
            have h1 := runs_length q.far q.far.length
            have h2 := far_length q
            have h3 := hi6.len
            unfold QS.stretches
            rw [List.length_map]
            omega
          have hml : ∀ most : Int, (mx 0 (mn most q.stretches.length)).toNat ≤ q.stretches.length := fun most => by unfold mx mn; (repeat' split) <;> omega
          have HST41 := Lib.hid (show (mx 0 (mn 99 q.stretches.length)).toNat ≤ q.stretches.length ∧ q.stretches.length ≤ 65536 from ⟨hml 99, hslen⟩)
          have h33 := hml nn
          have hnn : ∃ nl, nl = (mx 0 (mn nn q.stretches.length)).toNat := ⟨_, rfl⟩
          obtain ⟨nl, hnl⟩ := hnn
          rw [← hnl] at hRL h33 ⊢
          have HST33 := Lib.hid (show nl ≤ q.stretches.length ∧ q.stretches.length ≤ 65536 from ⟨h33, hslen⟩)
          have HNL := Lib.hid hnl
          have HT16 : Hid (RqAt w8.drew g m r hb bb q) := Lib.hid (RqAt.keep ⟨hq7, hr7, hi6, s0, s1⟩ hk8.drew)
          have HO16 : Hid (Only (fun _ => False) W w8.drew) := Lib.hid (hO7.trans hk8).drew
          have HRL16 : Hid (RangesAt w8.drew W.heap.size la (q.stretches.take nl)) := Lib.hid ((hRL.base hO7.size).keep2 (Only.refl _ w8).drew)
          clear hnl hslen hml h33 hRL hk8 hO7 hq7 hr7 y2
          go_upto_region 16 with fail
          refine wp_region_facts_tail 44 rsDs rsNeed rsGs (fun w' => RqAt w' g m r hb bb q ∧ Only (fun _ => False) W w' ∧ RangesAt w' W.heap.size la (q.stretches.take nl)) (Only (fun _ => False)) (rsG W g m r hb bb b off k n cap nl lcap la nn q) rfl rfl (by kernel_rfl) (by kernel_rfl) (by kernel_rfl) (by kernel_rfl) (by kernel_rfl) ⟨HT16.out, HO16.out, HRL16.out⟩ rsG.keep rsG.guard ?_ ?_
          · refine And.intro ?op0 (And.intro ?op1 (And.intro ?op2 (And.intro ?op3 (And.intro ?op4 (And.intro ?op5 (And.intro ?op6 (And.intro ?op7 (And.intro ?op8 (And.intro ?op9 (And.intro ?op10 (And.intro ?op11 (And.intro ?op12 (And.intro ?op13 (And.intro ?op14 (And.intro ?op15 (And.intro ?op16 (And.intro ?op17 (And.intro ?op18 (And.intro ?op19 (And.intro ?op20 (And.intro ?op21 (And.intro ?op22 (And.intro ?op23 (And.intro ?op24 (And.intro ?op25 (And.intro ?op26 (And.intro ?op27 (And.intro ?op28 (And.intro ?op29 (And.intro ?op30 (And.intro ?op31 (And.intro ?op32 (And.intro ?op33 (And.intro ?op34 (And.intro ?op35 (And.intro ?op36 (And.intro ?op37 (And.intro ?op38 (And.intro ?op39 (And.intro ?op40 (And.intro ?op41 (And.intro ?op42 (And.intro ?op43 trivial)))))))))))))))))))))))))))))))))))))))))))
            case op0 =>
              intro ev w1 hT1 hc hf hfr hG
              rw [if_pos (by decide)]
              obtain ⟨hT, hO, hRL⟩ := hT1
              have h7 : ev (.tmp 7) = .pointer (some ⟨g, 0, none⟩) := hfr 7 (by decide)
              clear hG hfr
              refine OpSays.value (v := .pointer (some ⟨g, 0, none⟩)) (w' := w1) ?_ ⟨⟨hT, hO, hRL⟩, Only.refl _ _, rfl⟩
              go_simp
            case op1 =>
              intro ev w1 hT1 hc hf hfr hG
              rw [if_pos (by decide)]
              obtain ⟨hT, hO, hRL⟩ := hT1
              have hg : (ev (.tmp 106) = .pointer (some ⟨g, 0, none⟩)) ∧ True := hG
              obtain ⟨g0, _⟩ := hg
              clear hG hfr
              refine OpSays.enter (f := 14) (args := #[.pointer (some ⟨g, 0, none⟩)]) (w' := w1) ?_ ?_
              · go_simp
              · refine (qnext_only w1 g m q hT.q).mono ?_
                rintro e' w2 ⟨rfl, hk⟩
                exact ⟨_, rfl, ⟨hT.keep hk, hO.trans hk, hRL.keep2 hk⟩, hk, rfl⟩
            case op2 =>
              intro ev w1 hT1 hc hf hfr hG
              rw [if_pos (by decide)]
              obtain ⟨hT, hO, hRL⟩ := hT1
              have h9 : ev (.tmp 9) = .pointer (some ⟨r, 0, none⟩) := hfr 9 (by decide)
              clear hG hfr
              refine OpSays.value (v := .pointer (some ⟨r, 0, none⟩)) (w' := w1) ?_ ⟨⟨hT, hO, hRL⟩, Only.refl _ _, rfl⟩
              go_simp
            case op3 =>
              intro ev w1 hT1 hc hf hfr hG
              rw [if_pos (by decide)]
              obtain ⟨hT, hO, hRL⟩ := hT1
              have hg : (ev (.tmp 108) = .pointer (some ⟨r, 0, none⟩)) ∧ True := hG
              obtain ⟨g2, _⟩ := hg
              clear hG hfr
              refine OpSays.value (v := .pointer (some ⟨r, 0, none⟩)) (w' := w1) ?_ ⟨⟨hT, hO, hRL⟩, Only.refl _ _, rfl⟩
              go_simp
            case op4 =>
              intro ev w1 hT1 hc hf hfr hG
              rw [if_pos (by decide)]
              obtain ⟨hT, hO, hRL⟩ := hT1
              have hg : (ev (.tmp 109) = .pointer (some ⟨r, 0, none⟩)) ∧ True := hG
              obtain ⟨g3, _⟩ := hg
              clear hG hfr
              refine OpSays.value (v := .pointer (some ⟨r, 0, none⟩)) (w' := w1) ?_ ⟨⟨hT, hO, hRL⟩, Only.refl _ _, rfl⟩
              go_simp
            case op5 =>
              intro ev w1 hT1 hc hf hfr hG
              rw [if_pos (by decide)]
              obtain ⟨hT, hO, hRL⟩ := hT1
              have hg : (ev (.tmp 110) = .pointer (some ⟨r, 0, none⟩)) ∧ True := hG
              obtain ⟨g4, _⟩ := hg
              clear hG hfr
              have x0 := hT.r.c0
              refine OpSays.value (v := .int .i64 q.next) (w' := w1) ?_ ⟨⟨hT, hO, hRL⟩, Only.refl _ _, rfl⟩
              go_simp
            case op6 =>
              intro ev w1 hT1 hc hf hfr hG
              rw [if_pos (by decide)]
              obtain ⟨hT, hO, hRL⟩ := hT1
              have hg : (ev (.tmp 107) = .int .i64 q.next) ∧ (ev (.tmp 111) = .int .i64 q.next) ∧ True := hG
              obtain ⟨g1, g5, _⟩ := hg
              clear hG hfr
              refine OpSays.value (v := .bool false) (w' := w1) ?_ ⟨⟨hT, hO, hRL⟩, Only.refl _ _, rfl⟩
              go_simp
            case op7 =>
              intro ev w1 hT1 hc hf hfr hG
              rw [if_pos (by decide)]
              obtain ⟨hT, hO, hRL⟩ := hT1
              have hg : (ev (.tmp 112) = .bool false) ∧ True := hG
              obtain ⟨g6, _⟩ := hg
              clear hG hfr
              refine OpSays.value (v := .bool false) (w' := w1) ?_ ⟨⟨hT, hO, hRL⟩, Only.refl _ _, rfl⟩
              go_simp
            case op8 =>
              intro ev w1 hT1 hc hf hfr hG
              rw [if_pos (by decide)]
              obtain ⟨hT, hO, hRL⟩ := hT1
              have h7 : ev (.tmp 7) = .pointer (some ⟨g, 0, none⟩) := hfr 7 (by decide)
              clear hG hfr
              refine OpSays.value (v := .pointer (some ⟨g, 0, none⟩)) (w' := w1) ?_ ⟨⟨hT, hO, hRL⟩, Only.refl _ _, rfl⟩
              go_simp
            case op9 =>
              intro ev w1 hT1 hc hf hfr hG
              rw [if_pos (by decide)]
              obtain ⟨hT, hO, hRL⟩ := hT1
              have hg : (ev (.tmp 114) = .pointer (some ⟨g, 0, none⟩)) ∧ True := hG
              obtain ⟨g8, _⟩ := hg
              clear hG hfr
              refine OpSays.enter (f := 15) (args := #[.pointer (some ⟨g, 0, none⟩)]) (w' := w1) ?_ ?_
              · go_simp
              · refine (qwindow_only w1 g m q hT.q hT.inv).mono ?_
                rintro e' w2 ⟨rfl, hk⟩
                exact ⟨_, rfl, ⟨hT.keep hk, hO.trans hk, hRL.keep2 hk⟩, hk, rfl⟩
            case op10 =>
              intro ev w1 hT1 hc hf hfr hG
              rw [if_pos (by decide)]
              obtain ⟨hT, hO, hRL⟩ := hT1
              have h9 : ev (.tmp 9) = .pointer (some ⟨r, 0, none⟩) := hfr 9 (by decide)
              clear hG hfr
              refine OpSays.value (v := .pointer (some ⟨r, 0, none⟩)) (w' := w1) ?_ ⟨⟨hT, hO, hRL⟩, Only.refl _ _, rfl⟩
              go_simp
            case op11 =>
              intro ev w1 hT1 hc hf hfr hG
              rw [if_pos (by decide)]
              obtain ⟨hT, hO, hRL⟩ := hT1
              have hg : (ev (.tmp 116) = .pointer (some ⟨r, 0, none⟩)) ∧ True := hG
              obtain ⟨g10, _⟩ := hg
              clear hG hfr
              refine OpSays.enter (f := 23) (args := #[.pointer (some ⟨r, 0, none⟩)]) (w' := w1) ?_ ?_
              · go_simp
              · refine (rwindow_only w1 r hb bb q hT.r hT.inv).mono ?_
                rintro e' w2 ⟨rfl, hk⟩
                exact ⟨_, rfl, ⟨hT.keep hk, hO.trans hk, hRL.keep2 hk⟩, hk, rfl⟩
            case op12 =>
              intro ev w1 hT1 hc hf hfr hG
              rw [if_pos (by decide)]
              obtain ⟨hT, hO, hRL⟩ := hT1
              have hg : (ev (.tmp 115) = .int .i64 (q.room - q.s.size)) ∧ (ev (.tmp 117) = .int .i64 (q.room - q.s.size)) ∧ True := hG
              obtain ⟨g9, g11, _⟩ := hg
              clear hG hfr
              refine OpSays.value (v := .bool false) (w' := w1) ?_ ⟨⟨hT, hO, hRL⟩, Only.refl _ _, rfl⟩
              go_simp
            case op13 =>
              intro ev w1 hT1 hc hf hfr hG
              rw [if_pos (by decide)]
              obtain ⟨hT, hO, hRL⟩ := hT1
              have hg : (ev (.tmp 113) = .bool false) ∧ (ev (.tmp 118) = .bool false) ∧ True := hG
              obtain ⟨g7, g12, _⟩ := hg
              clear hG hfr
              refine OpSays.value (v := .bool false) (w' := w1) ?_ ⟨⟨hT, hO, hRL⟩, Only.refl _ _, rfl⟩
              go_simp
            case op14 =>
              intro ev w1 hT1 hc hf hfr hG
              rw [if_pos (by decide)]
              obtain ⟨hT, hO, hRL⟩ := hT1
              have hg : (ev (.tmp 119) = .bool false) ∧ True := hG
              obtain ⟨g13, _⟩ := hg
              clear hG hfr
              refine OpSays.value (v := .bool false) (w' := w1) ?_ ⟨⟨hT, hO, hRL⟩, Only.refl _ _, rfl⟩
              go_simp
            case op15 =>
              intro ev w1 hT1 hc hf hfr hG
              rw [if_pos (by decide)]
              obtain ⟨hT, hO, hRL⟩ := hT1
              have h7 : ev (.tmp 7) = .pointer (some ⟨g, 0, none⟩) := hfr 7 (by decide)
              clear hG hfr
              refine OpSays.value (v := .pointer (some ⟨g, 0, none⟩)) (w' := w1) ?_ ⟨⟨hT, hO, hRL⟩, Only.refl _ _, rfl⟩
              go_simp
            case op16 =>
              intro ev w1 hT1 hc hf hfr hG
              rw [if_pos (by decide)]
              obtain ⟨hT, hO, hRL⟩ := hT1
              have hg : (ev (.tmp 121) = .pointer (some ⟨g, 0, none⟩)) ∧ True := hG
              obtain ⟨g15, _⟩ := hg
              clear hG hfr
              refine OpSays.enter (f := 18) (args := #[.pointer (some ⟨g, 0, none⟩)]) (w' := w1) ?_ ?_
              · go_simp
              · refine (qready_only w1 g m q hT.q).mono ?_
                rintro e' w2 ⟨rfl, hk⟩
                exact ⟨_, rfl, ⟨hT.keep hk, hO.trans hk, hRL.keep2 hk⟩, hk, rfl⟩
            case op17 =>
              intro ev w1 hT1 hc hf hfr hG
              rw [if_pos (by decide)]
              obtain ⟨hT, hO, hRL⟩ := hT1
              have h9 : ev (.tmp 9) = .pointer (some ⟨r, 0, none⟩) := hfr 9 (by decide)
              clear hG hfr
              refine OpSays.value (v := .pointer (some ⟨r, 0, none⟩)) (w' := w1) ?_ ⟨⟨hT, hO, hRL⟩, Only.refl _ _, rfl⟩
              go_simp
            case op18 =>
              intro ev w1 hT1 hc hf hfr hG
              rw [if_pos (by decide)]
              obtain ⟨hT, hO, hRL⟩ := hT1
              have hg : (ev (.tmp 123) = .pointer (some ⟨r, 0, none⟩)) ∧ True := hG
              obtain ⟨g17, _⟩ := hg
              clear hG hfr
              refine OpSays.value (v := .pointer (some ⟨r, 0, none⟩)) (w' := w1) ?_ ⟨⟨hT, hO, hRL⟩, Only.refl _ _, rfl⟩
              go_simp
            case op19 =>
              intro ev w1 hT1 hc hf hfr hG
              rw [if_pos (by decide)]
              obtain ⟨hT, hO, hRL⟩ := hT1
              have hg : (ev (.tmp 124) = .pointer (some ⟨r, 0, none⟩)) ∧ True := hG
              obtain ⟨g18, _⟩ := hg
              clear hG hfr
              refine OpSays.value (v := .pointer (some ⟨r, 2, none⟩)) (w' := w1) ?_ ⟨⟨hT, hO, hRL⟩, Only.refl _ _, rfl⟩
              go_simp
            case op20 =>
              intro ev w1 hT1 hc hf hfr hG
              rw [if_pos (by decide)]
              obtain ⟨hT, hO, hRL⟩ := hT1
              have hg : (ev (.tmp 125) = .pointer (some ⟨r, 2, none⟩)) ∧ True := hG
              obtain ⟨g19, _⟩ := hg
              clear hG hfr
              have x2 := hT.r.c2
              refine OpSays.value (v := .string q.s) (w' := w1) ?_ ⟨⟨hT, hO, hRL⟩, Only.refl _ _, rfl⟩
              go_simp
            case op21 =>
              intro ev w1 hT1 hc hf hfr hG
              rw [if_pos (by decide)]
              obtain ⟨hT, hO, hRL⟩ := hT1
              have hg : (ev (.tmp 126) = .string q.s) ∧ True := hG
              obtain ⟨g20, _⟩ := hg
              clear hG hfr
              refine OpSays.value (v := .int .i64 q.s.size) (w' := w1) ?_ ⟨⟨hT, hO, hRL⟩, Only.refl _ _, rfl⟩
              go_simp
            case op22 =>
              intro ev w1 hT1 hc hf hfr hG
              rw [if_pos (by decide)]
              obtain ⟨hT, hO, hRL⟩ := hT1
              have hg : (ev (.tmp 122) = .int .i64 q.s.size) ∧ (ev (.tmp 127) = .int .i64 q.s.size) ∧ True := hG
              obtain ⟨g16, g21, _⟩ := hg
              clear hG hfr
              refine OpSays.value (v := .bool false) (w' := w1) ?_ ⟨⟨hT, hO, hRL⟩, Only.refl _ _, rfl⟩
              go_simp
            case op23 =>
              intro ev w1 hT1 hc hf hfr hG
              rw [if_pos (by decide)]
              obtain ⟨hT, hO, hRL⟩ := hT1
              have hg : (ev (.tmp 120) = .bool false) ∧ (ev (.tmp 128) = .bool false) ∧ True := hG
              obtain ⟨g14, g22, _⟩ := hg
              clear hG hfr
              refine OpSays.value (v := .bool false) (w' := w1) ?_ ⟨⟨hT, hO, hRL⟩, Only.refl _ _, rfl⟩
              go_simp
            case op24 =>
              intro ev w1 hT1 hc hf hfr hG
              rw [if_pos (by decide)]
              obtain ⟨hT, hO, hRL⟩ := hT1
              have hg : (ev (.tmp 129) = .bool false) ∧ True := hG
              obtain ⟨g23, _⟩ := hg
              clear hG hfr
              refine OpSays.value (v := .bool false) (w' := w1) ?_ ⟨⟨hT, hO, hRL⟩, Only.refl _ _, rfl⟩
              go_simp
            case op25 =>
              intro ev w1 hT1 hc hf hfr hG
              rw [if_pos (by decide)]
              obtain ⟨hT, hO, hRL⟩ := hT1
              have h13 : ev (.tmp 13) = .slice la nl lcap := hfr 13 (by decide)
              clear hG hfr
              refine OpSays.value (v := .slice la nl lcap) (w' := w1) ?_ ⟨⟨hT, hO, hRL⟩, Only.refl _ _, rfl⟩
              go_simp
            case op26 =>
              intro ev w1 hT1 hc hf hfr hG
              rw [if_pos (by decide)]
              obtain ⟨hT, hO, hRL⟩ := hT1
              have h9 : ev (.tmp 9) = .pointer (some ⟨r, 0, none⟩) := hfr 9 (by decide)
              clear hG hfr
              refine OpSays.value (v := .pointer (some ⟨r, 0, none⟩)) (w' := w1) ?_ ⟨⟨hT, hO, hRL⟩, Only.refl _ _, rfl⟩
              go_simp
            case op27 =>
              intro ev w1 hT1 hc hf hfr hG
              rw [if_pos (by decide)]
              obtain ⟨hT, hO, hRL⟩ := hT1
              have h2 : ev (.tmp 2) = .slice (some ⟨b, off, none⟩) n cap := hfr 2 (by decide)
              clear hG hfr
              refine OpSays.value (v := .slice (some ⟨b, off, none⟩) n cap) (w' := w1) ?_ ⟨⟨hT, hO, hRL⟩, Only.refl _ _, rfl⟩
              go_simp
            case op28 =>
              intro ev w1 hT1 hc hf hfr hG
              rw [if_pos (by decide)]
              obtain ⟨hT, hO, hRL⟩ := hT1
              have h11 : ev (.tmp 11) = .int .i64 k := hfr 11 (by decide)
              clear hG hfr
              refine OpSays.value (v := .int .i64 k) (w' := w1) ?_ ⟨⟨hT, hO, hRL⟩, Only.refl _ _, rfl⟩
              go_simp
            case op29 =>
              intro ev w1 hT1 hc hf hfr hG
              rw [if_pos (by decide)]
              obtain ⟨hT, hO, hRL⟩ := hT1
              have hg : (ev (.tmp 133) = .slice (some ⟨b, off, none⟩) n cap) ∧ (ev (.tmp 134) = .int .i64 k) ∧ True := hG
              obtain ⟨g27, g28, _⟩ := hg
              clear hG hfr
              refine OpSays.value (v := .pointer (some ⟨b, off + k * 5, none⟩)) (w' := w1) ?_ ⟨⟨hT, hO, hRL⟩, Only.refl _ _, rfl⟩
              go_simp
            case op30 =>
              intro ev w1 hT1 hc hf hfr hG
              rw [if_pos (by decide)]
              obtain ⟨hT, hO, hRL⟩ := hT1
              have hg : (ev (.tmp 135) = .pointer (some ⟨b, off + k * 5, none⟩)) ∧ True := hG
              obtain ⟨g29, _⟩ := hg
              clear hG hfr
              refine OpSays.value (v := .pointer (some ⟨b, off + k * 5 + 2, none⟩)) (w' := w1) ?_ ⟨⟨hT, hO, hRL⟩, Only.refl _ _, rfl⟩
              go_simp
            case op31 =>
              intro ev w1 hT1 hc hf hfr hG
              rw [if_pos (by decide)]
              obtain ⟨hT, hO, hRL⟩ := hT1
              have hg : (ev (.tmp 136) = .pointer (some ⟨b, off + k * 5 + 2, none⟩)) ∧ True := hG
              obtain ⟨g30, _⟩ := hg
              clear hG hfr
              have c2 := cell_only hO (fun h => h) AC.out.2.2.1
              refine OpSays.value (v := .int .i64 nn) (w' := w1) ?_ ⟨⟨hT, hO, hRL⟩, Only.refl _ _, rfl⟩
              go_simp
            case op32 =>
              intro ev w1 hT1 hc hf hfr hG
              rw [if_pos (by decide)]
              obtain ⟨hT, hO, hRL⟩ := hT1
              have hg : (ev (.tmp 132) = .pointer (some ⟨r, 0, none⟩)) ∧ (ev (.tmp 137) = .int .i64 nn) ∧ True := hG
              obtain ⟨g26, g31, _⟩ := hg
              clear hG hfr
              refine OpSays.enter (f := 24) (args := #[.pointer (some ⟨r, 0, none⟩), .int .i64 nn]) (w' := w1) ?_ ?_
              · go_simp
              · refine (rapart w1 r hb bb q nn hT.r hT.inv hT.r0 hT.r1).mono ?_
                rintro e' w2 ⟨a, cap2, rfl, hra, hk⟩
                exact ⟨_, rfl, ⟨hT.keep hk, hO.trans hk, hRL.keep2 hk⟩, hk, a, cap2, rfl, hra.base hO.size⟩
            case op33 =>
              intro ev w1 hT1 hc hf hfr hG
              rw [if_pos (by decide)]
              obtain ⟨hT, hO, hRL⟩ := hT1
              have hg : (ev (.tmp 131) = .slice la nl lcap) ∧ (∃ a cap2, ev (.tmp 138) = .slice a (mx 0 (mn nn q.stretches.length)).toNat cap2 ∧ RangesAt w1 W.heap.size a (q.stretches.take (mx 0 (mn nn q.stretches.length)).toNat)) ∧ True := hG
              obtain ⟨g25, g32, _⟩ := hg
              clear hG hfr
              obtain ⟨ya, ycap, g32, hyr⟩ := g32
              refine OpSays.enter (f := 16) (args := #[.slice la nl lcap, .slice ya (mx 0 (mn nn q.stretches.length)).toNat ycap]) (w' := w1) ?_ ?_
              · go_simp
              · refine (same_true la ya _ _ _ _ q.stretches hRL hyr HNL.out HST33.out).mono ?_
                rintro e' w2 ⟨rfl, hk⟩
                exact ⟨_, rfl, ⟨hT.keep hk, hO.trans hk, hRL.keep2 hk⟩, hk, rfl⟩
            case op34 =>
              intro ev w1 hT1 hc hf hfr hG
              rw [if_pos (by decide)]
              obtain ⟨hT, hO, hRL⟩ := hT1
              have hg : (ev (.tmp 139) = .bool true) ∧ True := hG
              obtain ⟨g33, _⟩ := hg
              clear hG hfr
              refine OpSays.value (v := .bool false) (w' := w1) ?_ ⟨⟨hT, hO, hRL⟩, Only.refl _ _, rfl⟩
              go_simp
            case op35 =>
              intro ev w1 hT1 hc hf hfr hG
              rw [if_pos (by decide)]
              obtain ⟨hT, hO, hRL⟩ := hT1
              have hg : (ev (.tmp 130) = .bool false) ∧ (ev (.tmp 140) = .bool false) ∧ True := hG
              obtain ⟨g24, g34, _⟩ := hg
              clear hG hfr
              refine OpSays.value (v := .bool false) (w' := w1) ?_ ⟨⟨hT, hO, hRL⟩, Only.refl _ _, rfl⟩
              go_simp
            case op36 =>
              intro ev w1 hT1 hc hf hfr hG
              rw [if_pos (by decide)]
              obtain ⟨hT, hO, hRL⟩ := hT1
              have hg : (ev (.tmp 141) = .bool false) ∧ True := hG
              obtain ⟨g35, _⟩ := hg
              clear hG hfr
              refine OpSays.value (v := .bool false) (w' := w1) ?_ ⟨⟨hT, hO, hRL⟩, Only.refl _ _, rfl⟩
              go_simp
            case op37 =>
              intro ev w1 hT1 hc hf hfr hG
              rw [if_pos (by decide)]
              obtain ⟨hT, hO, hRL⟩ := hT1
              have h7 : ev (.tmp 7) = .pointer (some ⟨g, 0, none⟩) := hfr 7 (by decide)
              clear hG hfr
              refine OpSays.value (v := .pointer (some ⟨g, 0, none⟩)) (w' := w1) ?_ ⟨⟨hT, hO, hRL⟩, Only.refl _ _, rfl⟩
              go_simp
            case op38 =>
              intro ev w1 hT1 hc hf hfr hG
              rw [if_pos (by decide)]
              obtain ⟨hT, hO, hRL⟩ := hT1
              have hg : (ev (.tmp 143) = .pointer (some ⟨g, 0, none⟩)) ∧ True := hG
              obtain ⟨g37, _⟩ := hg
              clear hG hfr
              refine OpSays.enter (f := 12) (args := #[.pointer (some ⟨g, 0, none⟩), .int .i64 99]) (w' := w1) ?_ ?_
              · go_simp
              · refine (apart_any w1 g m q 99 hT.q hT.inv.n0 hT.inv.n1 hT.inv.len hT.inv.keys).mono ?_
                rintro e' w2 ⟨a, cap2, rfl, hra, hk⟩
                exact ⟨_, rfl, ⟨hT.keep hk, hO.trans hk, hRL.keep2 hk⟩, hk, a, cap2, rfl, hra.base hO.size⟩
            case op39 =>
              intro ev w1 hT1 hc hf hfr hG
              rw [if_pos (by decide)]
              obtain ⟨hT, hO, hRL⟩ := hT1
              have h9 : ev (.tmp 9) = .pointer (some ⟨r, 0, none⟩) := hfr 9 (by decide)
              clear hG hfr
              refine OpSays.value (v := .pointer (some ⟨r, 0, none⟩)) (w' := w1) ?_ ⟨⟨hT, hO, hRL⟩, Only.refl _ _, rfl⟩
              go_simp
            case op40 =>
              intro ev w1 hT1 hc hf hfr hG
              rw [if_pos (by decide)]
              obtain ⟨hT, hO, hRL⟩ := hT1
              have hg : (ev (.tmp 145) = .pointer (some ⟨r, 0, none⟩)) ∧ True := hG
              obtain ⟨g39, _⟩ := hg
              clear hG hfr
              refine OpSays.enter (f := 24) (args := #[.pointer (some ⟨r, 0, none⟩), .int .i64 99]) (w' := w1) ?_ ?_
              · go_simp
              · refine (rapart w1 r hb bb q 99 hT.r hT.inv hT.r0 hT.r1).mono ?_
                rintro e' w2 ⟨a, cap2, rfl, hra, hk⟩
                exact ⟨_, rfl, ⟨hT.keep hk, hO.trans hk, hRL.keep2 hk⟩, hk, a, cap2, rfl, hra.base hO.size⟩
            case op41 =>
              intro ev w1 hT1 hc hf hfr hG
              rw [if_pos (by decide)]
              obtain ⟨hT, hO, hRL⟩ := hT1
              have hg : (∃ a cap2, ev (.tmp 144) = .slice a (mx 0 (mn 99 q.stretches.length)).toNat cap2 ∧ RangesAt w1 W.heap.size a (q.stretches.take (mx 0 (mn 99 q.stretches.length)).toNat)) ∧ (∃ a cap2, ev (.tmp 146) = .slice a (mx 0 (mn 99 q.stretches.length)).toNat cap2 ∧ RangesAt w1 W.heap.size a (q.stretches.take (mx 0 (mn 99 q.stretches.length)).toNat)) ∧ True := hG
              obtain ⟨g38, g40, _⟩ := hg
              clear hG hfr
              obtain ⟨xa, xcap, g38, hxr⟩ := g38
              obtain ⟨ya, ycap, g40, hyr⟩ := g40
              refine OpSays.enter (f := 16) (args := #[.slice xa (mx 0 (mn 99 q.stretches.length)).toNat xcap, .slice ya (mx 0 (mn 99 q.stretches.length)).toNat ycap]) (w' := w1) ?_ ?_
              · go_simp
              · refine (same_true xa ya _ _ _ _ q.stretches hxr hyr rfl HST41.out).mono ?_
                rintro e' w2 ⟨rfl, hk⟩
                exact ⟨_, rfl, ⟨hT.keep hk, hO.trans hk, hRL.keep2 hk⟩, hk, rfl⟩
            case op42 =>
              intro ev w1 hT1 hc hf hfr hG
              rw [if_pos (by decide)]
              obtain ⟨hT, hO, hRL⟩ := hT1
              have hg : (ev (.tmp 147) = .bool true) ∧ True := hG
              obtain ⟨g41, _⟩ := hg
              clear hG hfr
              refine OpSays.value (v := .bool false) (w' := w1) ?_ ⟨⟨hT, hO, hRL⟩, Only.refl _ _, rfl⟩
              go_simp
            case op43 =>
              intro ev w1 hT1 hc hf hfr hG
              rw [if_pos (by decide)]
              obtain ⟨hT, hO, hRL⟩ := hT1
              have hg : (ev (.tmp 142) = .bool false) ∧ (ev (.tmp 148) = .bool false) ∧ True := hG
              obtain ⟨g36, g42, _⟩ := hg
              clear hG hfr
              refine OpSays.value (v := .bool false) (w' := w1) ?_ ⟨⟨hT, hO, hRL⟩, Only.refl _ _, rfl⟩
              go_simp
          rintro ⟨tm, df⟩ w9 ⟨hT9, hO9, hRL9⟩ hsz hdf hfr hG
          have k0 : tm.getD 0 undef = Value.int IntKind.i64 fi := hfr 0 (by decide)
          have k1 : tm.getD 1 undef = Value.int IntKind.i64 ro := hfr 1 (by decide)
          have k2 : tm.getD 2 undef = Value.slice (some { block := b, off := off }) n cap := hfr 2 (by decide)
          have k3 : tm.getD 3 undef = undef := hfr 3 (by decide)
          have k4 : tm.getD 4 undef = undef := hfr 4 (by decide)
          have k5 : tm.getD 5 undef = undef := hfr 5 (by decide)
          have k7 : tm.getD 7 undef = Value.pointer (some { block := g, off := 0 }) := hfr 7 (by decide)
          have k8 : tm.getD 8 undef = Value.int IntKind.i64 0 := hfr 8 (by decide)
          have k9 : tm.getD 9 undef = Value.pointer (some { block := r, off := 0 }) := hfr 9 (by decide)
          have k10 : tm.getD 10 undef = Value.int IntKind.i64 0 := hfr 10 (by decide)
          have k14 : tm.getD 14 undef = Value.int IntKind.i64 ro := hfr 14 (by decide)
          have k15 : tm.getD 15 undef = Value.bool false := hfr 15 (by decide)
          have k16 : tm.getD 16 undef = Value.bool false := hfr 16 (by decide)
          have k17 : tm.getD 17 undef = undef := hfr 17 (by decide)
          have k18 : tm.getD 18 undef = undef := hfr 18 (by decide)
          have k19 : tm.getD 19 undef = Value.bool false := hfr 19 (by decide)
          have k20 : tm.getD 20 undef = undef := hfr 20 (by decide)
          have k21 : tm.getD 21 undef = Value.tuple #[Value.pointer (some { block := g, off := 0 }), Value.int IntKind.i64 0] := hfr 21 (by decide)
          have k22 : tm.getD 22 undef = Value.int IntKind.i64 fi := hfr 22 (by decide)
          have k23 : tm.getD 23 undef = Value.int IntKind.i64 ro := hfr 23 (by decide)
          have k24 : tm.getD 24 undef = Value.tuple #[Value.pointer (some { block := g, off := 0 }), Value.int IntKind.i64 0] := hfr 24 (by decide)
          have k25 : tm.getD 25 undef = Value.pointer (some { block := g, off := 0 }) := hfr 25 (by decide)
          have k26 : tm.getD 26 undef = Value.int IntKind.i64 0 := hfr 26 (by decide)
          have k27 : tm.getD 27 undef = Value.tuple #[Value.pointer (some { block := r, off := 0 }), Value.int IntKind.i64 0] := hfr 27 (by decide)
          have k28 : tm.getD 28 undef = Value.int IntKind.i64 fi := hfr 28 (by decide)
          have k29 : tm.getD 29 undef = Value.int IntKind.i64 ro := hfr 29 (by decide)
          have k30 : tm.getD 30 undef = Value.tuple #[Value.pointer (some { block := r, off := 0 }), Value.int IntKind.i64 0] := hfr 30 (by decide)
          have k31 : tm.getD 31 undef = Value.pointer (some { block := r, off := 0 }) := hfr 31 (by decide)
          have k32 : tm.getD 32 undef = Value.int IntKind.i64 0 := hfr 32 (by decide)
          have k33 : tm.getD 33 undef = Value.int IntKind.i64 0 := hfr 33 (by decide)
          have k34 : tm.getD 34 undef = Value.int IntKind.i64 0 := hfr 34 (by decide)
          have k35 : tm.getD 35 undef = Value.bool false := hfr 35 (by decide)
          have k36 : tm.getD 36 undef = Value.bool false := hfr 36 (by decide)
          have k37 : tm.getD 37 undef = Value.pointer (some { block := g, off := 0 }) := hfr 37 (by decide)
          have k38 : tm.getD 38 undef = Value.bool false := hfr 38 (by decide)
          have k39 : tm.getD 39 undef = Value.pointer (some { block := r, off := 0 }) := hfr 39 (by decide)
          have k40 : tm.getD 40 undef = Value.bool false := hfr 40 (by decide)
          have k41 : tm.getD 41 undef = Value.bool false := hfr 41 (by decide)
          have k42 : tm.getD 42 undef = Value.bool false := hfr 42 (by decide)
          have k43 : tm.getD 43 undef = Value.bool false := hfr 43 (by decide)
          have k44 : tm.getD 44 undef = Value.bool true := hfr 44 (by decide)
          have k45 : tm.getD 45 undef = Value.bool false := hfr 45 (by decide)
          have k46 : tm.getD 46 undef = Value.bool false := hfr 46 (by decide)
          have k11 : tm.getD 11 undef = .int .i64 k := hfr 11 (by decide)
          have k149 : tm.getD 149 undef = .bool false := AllG.get hG 43 (by decide)
          have he : tm = #[tm.getD 0 undef, tm.getD 1 undef, tm.getD 2 undef, tm.getD 3 undef, tm.getD 4 undef, tm.getD 5 undef, tm.getD 6 undef, tm.getD 7 undef, tm.getD 8 undef, tm.getD 9 undef, tm.getD 10 undef, tm.getD 11 undef, tm.getD 12 undef, tm.getD 13 undef, tm.getD 14 undef, tm.getD 15 undef, tm.getD 16 undef, tm.getD 17 undef, tm.getD 18 undef, tm.getD 19 undef, tm.getD 20 undef, tm.getD 21 undef, tm.getD 22 undef, tm.getD 23 undef, tm.getD 24 undef, tm.getD 25 undef, tm.getD 26 undef, tm.getD 27 undef, tm.getD 28 undef, tm.getD 29 undef, tm.getD 30 undef, tm.getD 31 undef, tm.getD 32 undef, tm.getD 33 undef, tm.getD 34 undef, tm.getD 35 undef, tm.getD 36 undef, tm.getD 37 undef, tm.getD 38 undef, tm.getD 39 undef, tm.getD 40 undef, tm.getD 41 undef, tm.getD 42 undef, tm.getD 43 undef, tm.getD 44 undef, tm.getD 45 undef, tm.getD 46 undef, tm.getD 47 undef, tm.getD 48 undef, tm.getD 49 undef, tm.getD 50 undef, tm.getD 51 undef, tm.getD 52 undef, tm.getD 53 undef, tm.getD 54 undef, tm.getD 55 undef, tm.getD 56 undef, tm.getD 57 undef, tm.getD 58 undef, tm.getD 59 undef, tm.getD 60 undef, tm.getD 61 undef, tm.getD 62 undef, tm.getD 63 undef, tm.getD 64 undef, tm.getD 65 undef, tm.getD 66 undef, tm.getD 67 undef, tm.getD 68 undef, tm.getD 69 undef, tm.getD 70 undef, tm.getD 71 undef, tm.getD 72 undef, tm.getD 73 undef, tm.getD 74 undef, tm.getD 75 undef, tm.getD 76 undef, tm.getD 77 undef, tm.getD 78 undef, tm.getD 79 undef, tm.getD 80 undef, tm.getD 81 undef, tm.getD 82 undef, tm.getD 83 undef, tm.getD 84 undef, tm.getD 85 undef, tm.getD 86 undef, tm.getD 87 undef, tm.getD 88 undef, tm.getD 89 undef, tm.getD 90 undef, tm.getD 91 undef, tm.getD 92 undef, tm.getD 93 undef, tm.getD 94 undef, tm.getD 95 undef, tm.getD 96 undef, tm.getD 97 undef, tm.getD 98 undef, tm.getD 99 undef, tm.getD 100 undef, tm.getD 101 undef, tm.getD 102 undef, tm.getD 103 undef, tm.getD 104 undef, tm.getD 105 undef, tm.getD 106 undef, tm.getD 107 undef, tm.getD 108 undef, tm.getD 109 undef, tm.getD 110 undef, tm.getD 111 undef, tm.getD 112 undef, tm.getD 113 undef, tm.getD 114 undef, tm.getD 115 undef, tm.getD 116 undef, tm.getD 117 undef, tm.getD 118 undef, tm.getD 119 undef, tm.getD 120 undef, tm.getD 121 undef, tm.getD 122 undef, tm.getD 123 undef, tm.getD 124 undef, tm.getD 125 undef, tm.getD 126 undef, tm.getD 127 undef, tm.getD 128 undef, tm.getD 129 undef, tm.getD 130 undef, tm.getD 131 undef, tm.getD 132 undef, tm.getD 133 undef, tm.getD 134 undef, tm.getD 135 undef, tm.getD 136 undef, tm.getD 137 undef, tm.getD 138 undef, tm.getD 139 undef, tm.getD 140 undef, tm.getD 141 undef, tm.getD 142 undef, tm.getD 143 undef, tm.getD 144 undef, tm.getD 145 undef, tm.getD 146 undef, tm.getD 147 undef, tm.getD 148 undef, tm.getD 149 undef] := arr_eta (n := 150) hsz
          replace hdf : df = [] := hdf
          subst hdf
          clear hsz hfr hG
          rw [he, k0, k1, k2, k3, k4, k5, k7, k8, k9, k10, k14, k15, k16, k17, k18, k19, k20, k21, k22, k23, k24, k25, k26, k27, k28, k29, k30, k31, k32, k33, k34, k35, k36, k37, k38, k39, k40, k41, k42, k43, k44, k45, k46, k11, k149]
          clear he k0 k1 k2 k3 k4 k5 k7 k8 k9 k10 k14 k15 k16 k17 k18 k19 k20 k21 k22 k23 k24 k25 k26 k27 k28 k29 k30 k31 k32 k33 k34 k35 k36 k37 k38 k39 k40 k41 k42 k43 k44 k45 k46 k11 k149
          generalize tm.getD 6 undef = x6
          generalize tm.getD 12 undef = x12
          generalize tm.getD 13 undef = x13
          generalize tm.getD 47 undef = x47
          generalize tm.getD 48 undef = x48
          generalize tm.getD 49 undef = x49
          generalize tm.getD 50 undef = x50
          generalize tm.getD 51 undef = x51
          generalize tm.getD 52 undef = x52
          generalize tm.getD 53 undef = x53
          generalize tm.getD 54 undef = x54
          generalize tm.getD 55 undef = x55
          generalize tm.getD 56 undef = x56
          generalize tm.getD 57 undef = x57
          generalize tm.getD 58 undef = x58
          generalize tm.getD 59 undef = x59
          generalize tm.getD 60 undef = x60
          generalize tm.getD 61 undef = x61
          generalize tm.getD 62 undef = x62
          generalize tm.getD 63 undef = x63
          generalize tm.getD 64 undef = x64
          generalize tm.getD 65 undef = x65
          generalize tm.getD 66 undef = x66
          generalize tm.getD 67 undef = x67
          generalize tm.getD 68 undef = x68
          generalize tm.getD 69 undef = x69
          generalize tm.getD 70 undef = x70
          generalize tm.getD 71 undef = x71
          generalize tm.getD 72 undef = x72
          generalize tm.getD 73 undef = x73
          generalize tm.getD 74 undef = x74
          generalize tm.getD 75 undef = x75
          generalize tm.getD 76 undef = x76
          generalize tm.getD 77 undef = x77
          generalize tm.getD 78 undef = x78
          generalize tm.getD 79 undef = x79
          generalize tm.getD 80 undef = x80
          generalize tm.getD 81 undef = x81
          generalize tm.getD 82 undef = x82
          generalize tm.getD 83 undef = x83
          generalize tm.getD 84 undef = x84
          generalize tm.getD 85 undef = x85
          generalize tm.getD 86 undef = x86
          generalize tm.getD 87 undef = x87
          generalize tm.getD 88 undef = x88
          generalize tm.getD 89 undef = x89
          generalize tm.getD 90 undef = x90
          generalize tm.getD 91 undef = x91
          generalize tm.getD 92 undef = x92
          generalize tm.getD 93 undef = x93
          generalize tm.getD 94 undef = x94
          generalize tm.getD 95 undef = x95
          generalize tm.getD 96 undef = x96
          generalize tm.getD 97 undef = x97
          generalize tm.getD 98 undef = x98
          generalize tm.getD 99 undef = x99
          generalize tm.getD 100 undef = x100
          generalize tm.getD 101 undef = x101
          generalize tm.getD 102 undef = x102
          generalize tm.getD 103 undef = x103
          generalize tm.getD 104 undef = x104
          generalize tm.getD 105 undef = x105
          generalize tm.getD 106 undef = x106
          generalize tm.getD 107 undef = x107
          generalize tm.getD 108 undef = x108
          generalize tm.getD 109 undef = x109
          generalize tm.getD 110 undef = x110
          generalize tm.getD 111 undef = x111
          generalize tm.getD 112 undef = x112
          generalize tm.getD 113 undef = x113
          generalize tm.getD 114 undef = x114
          generalize tm.getD 115 undef = x115
          generalize tm.getD 116 undef = x116
          generalize tm.getD 117 undef = x117
          generalize tm.getD 118 undef = x118
          generalize tm.getD 119 undef = x119
          generalize tm.getD 120 undef = x120
          generalize tm.getD 121 undef = x121
          generalize tm.getD 122 undef = x122
          generalize tm.getD 123 undef = x123
          generalize tm.getD 124 undef = x124
          generalize tm.getD 125 undef = x125
          generalize tm.getD 126 undef = x126
          generalize tm.getD 127 undef = x127
          generalize tm.getD 128 undef = x128
          generalize tm.getD 129 undef = x129
          generalize tm.getD 130 undef = x130
          generalize tm.getD 131 undef = x131
          generalize tm.getD 132 undef = x132
          generalize tm.getD 133 undef = x133
          generalize tm.getD 134 undef = x134
          generalize tm.getD 135 undef = x135
          generalize tm.getD 136 undef = x136
          generalize tm.getD 137 undef = x137
          generalize tm.getD 138 undef = x138
          generalize tm.getD 139 undef = x139
          generalize tm.getD 140 undef = x140
          generalize tm.getD 141 undef = x141
          generalize tm.getD 142 undef = x142
          generalize tm.getD 143 undef = x143
          generalize tm.getD 144 undef = x144
          generalize tm.getD 145 undef = x145
          generalize tm.getD 146 undef = x146
          generalize tm.getD 147 undef = x147
          generalize tm.getD 148 undef = x148
          have HTW9 := Lib.hid (show Twins w9 g m r from ⟨q, hb, bb, hT9.q, hT9.r, hT9.inv, hT9.r0, hT9.r1⟩)
          have HO9 := Lib.hid hO9
          clear hT9 hO9 hRL9 HT16 HO16 HRL16
          simp only [List.drop_succ_cons, List.drop_zero]
          go_wp2_with fail
          go_roundw
          case rel => exact ⟨k + 1, by go_num, by omega, by omega, HTW9.out, HO9.out⟩
          case measure => simp [intOf]; omega
        · have hs2 : 2000 < (s.size : Int) := by omega
          go_wp2_with fail
          go_roundw
          case rel => exact ⟨k + 1, by go_num, by omega, by omega, hTw, hO⟩
          case measure => simp [intOf]; omega
      · have hend : ¬ k < n ∨ (k < n ∧ ¬ k < 60) := by omega
        have HB := Lib.hid (hO.below (Nat.le_refl _) (fun _ _ h => h))
        rcases hend with hk1 | ⟨hk1, hk2⟩
        · have hk1' : ¬ (k : Int) < (n : Int) := by omega
          clear hin hTw
          go_wp2_with fail
          go_ret
          exact ⟨rfl, HB.out⟩
        · have hk2' : ¬ (k : Int) < 60 := by omega
          have hk1' : (k : Int) < (n : Int) := by omega
          clear hin hTw
          go_wp2_with fail
          go_ret
          exact ⟨rfl, HB.out⟩
  · have hbad : ¬ ((0 ≤ fi ∧ fi < 4294967296) ∧ 1 ≤ ro ∧ ro ≤ 65536) := hgood
    have HBAD := Lib.hid hbad
    clear hgood hbad hbig
    rcases hb3 with h1 | ⟨h1, h2⟩
    all_goals
      go_enter Try.func6, Try.ntmps6
      go_wp2_with fail
      refine (qnew_bad fi ro _ HBAD.out).mono ?_
      rintro e _ ⟨rfl, rfl⟩
      go_wp2_with fail
      refine (rnew_bad fi ro _ HBAD.out).mono ?_
      rintro e _ ⟨rfl, rfl⟩
      go_wp2_with fail
      refine (works16 _).mono ?_
      rintro e w2 ⟨rfl, hk2⟩
      have HB := Lib.hid (hk2.below (Nat.le_refl _) (fun _ _ h => h))
      clear hk2
      go_wp2_with fail
      refine wp_loop_rounds 1 ?_
      rw [rounds_succ]
      go_wp2_with fail
      go_ret
      exact ⟨rfl, HB.out⟩

end Go.Proofs.Ytbpmbmidjdhbpaa

/-
  The contract of Take of package neigh. No question for an own address, from who is known, where nobody waits for him.
  Conditions: numbers are of the kind int, the cache's own in their bounds; there is room.
-/
import Derived.Test.YthgkdfllddljcaaNeiPut
import Derived.Test.YthgkdfllddljcaaNeiAsk
import Derived.Test.YthgkdfllddljcaaNeiLearn
import Derived.Test.YthgkdfllddljcaaPhasedS
set_option linter.unusedVariables false
set_option linter.unusedSimpArgs false
set_option maxRecDepth 100000
namespace Go.Proofs.Ythgkdfllddljcaa
open Go.RowKit


def tkKa6G (g c d p : Nat) (s : NS) (op fm fi tq ti : Int) (β : Bool) (x : Asked) : Nat → Value → World → Prop
  | 0, v, w' => v = .pointer (some ⟨g, 0, none⟩)
  | 1, v, w' => v = .pointer (some ⟨g, 0, none⟩)
  | 2, v, w' => v = .pointer (some ⟨g, 6, none⟩)
  | 3, v, w' => v = s.own
  | 4, v, w' => v = .pointer (some ⟨p, 2, none⟩)
  | 5, v, w' => v = .int .i64 fi
  | 6, v, w' => v = .bool false
  | 7, v, w' => v = .bool false
  | 8, v, w' => True
  | 9, v, w' => True
  | 10, v, w' => True
  | 11, v, w' => True
  | 12, v, w' => True
  | 13, v, w' => True
  | 14, v, w' => True
  | 15, v, w' => True
  | 16, v, w' => v = .bool false
  | _, _, _ => True
def tkKa6Ds : List Nat := [27, 28, 29, 30, 31, 32, 33, 34, 35, 36, 37, 38, 39, 40, 41, 42, 43]
def tkKa6Need : List (List Nat) := [[], [0], [1], [2], [], [4], [3, 5], [6], [], [], [], [], [], [], [], [], [7, 15]]
def tkKa6Gs : List (Option Bool) := [none, none, none, none, none, none, none, some false]
theorem tkKa6G.keep {g c d p : Nat} {s : NS} {op fm fi tq ti : Int} {β : Bool} {x : Asked} : ∀ jx v w w', tkKa6G g c d p s op fm fi tq ti β x jx v w → Only (fun _ => False) w w' → tkKa6G g c d p s op fm fi tq ti β x jx v w' := by
  intro jx v w w' h hO
  match jx with
  | 0 => exact h
  | 1 => exact h
  | 2 => exact h
  | 3 => exact h
  | 4 => exact h
  | 5 => exact h
  | 6 => exact h
  | 7 => exact h
  | 8 => exact h
  | 9 => exact h
  | 10 => exact h
  | 11 => exact h
  | 12 => exact h
  | 13 => exact h
  | 14 => exact h
  | 15 => exact h
  | 16 => exact h
  | n + 17 => trivial
theorem tkKa6G.guard {g c d p : Nat} {s : NS} {op fm fi tq ti : Int} {β : Bool} {x : Asked} : ∀ g' b', tkKa6Gs.getD g' none = some b' → ∀ v w, tkKa6G g c d p s op fm fi tq ti β x g' v w → v = .bool b' := by
  intro g' b' hbb v w hgg
  match g', hbb, hgg with
  | 0, hbb, hgg => cases hbb
  | 1, hbb, hgg => cases hbb
  | 2, hbb, hgg => cases hbb
  | 3, hbb, hgg => cases hbb
  | 4, hbb, hgg => cases hbb
  | 5, hbb, hgg => cases hbb
  | 6, hbb, hgg => cases hbb
  | 7, hbb, hgg => cases hbb; exact hgg
  | n' + 8, hbb, hgg => exact absurd hbb (by simp [tkKa6Gs])
def tkKa8G (g c d p : Nat) (s : NS) (op fm fi tq ti : Int) (β : Bool) (x : Asked) : Nat → Value → World → Prop
  | 0, v, w' => v = .pointer (some ⟨p, 0, none⟩)
  | 1, v, w' => v = .int .i64 op
  | 2, v, w' => v = .bool true
  | 3, v, w' => v = .bool true
  | 4, v, w' => v = .pointer (some ⟨g, 0, none⟩)
  | 5, v, w' => v = .pointer (some ⟨g, 0, none⟩)
  | 6, v, w' => v = .pointer (some ⟨g, 6, none⟩)
  | 7, v, w' => v = s.own
  | 8, v, w' => v = .pointer (some ⟨p, 4, none⟩)
  | 9, v, w' => v = .int .i64 ti
  | 10, v, w' => v = .bool β
  | 11, v, w' => v = .bool β
  | _, _, _ => True
def tkKa8Ds : List Nat := [45, 46, 47, 48, 49, 50, 51, 52, 53, 54, 55, 56]
def tkKa8Need : List (List Nat) := [[], [0], [1], [2], [], [4], [5], [6], [], [8], [7, 9], [3, 10]]
def tkKa8Gs : List (Option Bool) := [none, none, none, some true]
theorem tkKa8G.keep {g c d p : Nat} {s : NS} {op fm fi tq ti : Int} {β : Bool} {x : Asked} : ∀ jx v w w', tkKa8G g c d p s op fm fi tq ti β x jx v w → Only (fun _ => False) w w' → tkKa8G g c d p s op fm fi tq ti β x jx v w' := by
  intro jx v w w' h hO
  match jx with
  | 0 => exact h
  | 1 => exact h
  | 2 => exact h
  | 3 => exact h
  | 4 => exact h
  | 5 => exact h
  | 6 => exact h
  | 7 => exact h
  | 8 => exact h
  | 9 => exact h
  | 10 => exact h
  | 11 => exact h
  | n + 12 => trivial
theorem tkKa8G.guard {g c d p : Nat} {s : NS} {op fm fi tq ti : Int} {β : Bool} {x : Asked} : ∀ g' b', tkKa8Gs.getD g' none = some b' → ∀ v w, tkKa8G g c d p s op fm fi tq ti β x g' v w → v = .bool b' := by
  intro g' b' hbb v w hgg
  match g', hbb, hgg with
  | 0, hbb, hgg => cases hbb
  | 1, hbb, hgg => cases hbb
  | 2, hbb, hgg => cases hbb
  | 3, hbb, hgg => cases hbb; exact hgg
  | n' + 4, hbb, hgg => exact absurd hbb (by simp [tkKa8Gs])
def tkKb8G (g c d p : Nat) (s : NS) (op fm fi tq ti : Int) (β : Bool) (x : Asked) : Nat → Value → World → Prop
  | 0, v, w' => v = .pointer (some ⟨p, 0, none⟩)
  | 1, v, w' => v = .int .i64 op
  | 2, v, w' => v = .bool false
  | 3, v, w' => v = .bool false
  | 4, v, w' => True
  | 5, v, w' => True
  | 6, v, w' => True
  | 7, v, w' => True
  | 8, v, w' => True
  | 9, v, w' => True
  | 10, v, w' => True
  | 11, v, w' => v = .bool β
  | _, _, _ => True
def tkKb8Ds : List Nat := [45, 46, 47, 48, 49, 50, 51, 52, 53, 54, 55, 56]
def tkKb8Need : List (List Nat) := [[], [0], [1], [2], [], [], [], [], [], [], [], [3, 10]]
def tkKb8Gs : List (Option Bool) := [none, none, none, some false]
theorem tkKb8G.keep {g c d p : Nat} {s : NS} {op fm fi tq ti : Int} {β : Bool} {x : Asked} : ∀ jx v w w', tkKb8G g c d p s op fm fi tq ti β x jx v w → Only (fun _ => False) w w' → tkKb8G g c d p s op fm fi tq ti β x jx v w' := by
  intro jx v w w' h hO
  match jx with
  | 0 => exact h
  | 1 => exact h
  | 2 => exact h
  | 3 => exact h
  | 4 => exact h
  | 5 => exact h
  | 6 => exact h
  | 7 => exact h
  | 8 => exact h
  | 9 => exact h
  | 10 => exact h
  | 11 => exact h
  | n + 12 => trivial
theorem tkKb8G.guard {g c d p : Nat} {s : NS} {op fm fi tq ti : Int} {β : Bool} {x : Asked} : ∀ g' b', tkKb8Gs.getD g' none = some b' → ∀ v w, tkKb8G g c d p s op fm fi tq ti β x g' v w → v = .bool b' := by
  intro g' b' hbb v w hgg
  match g', hbb, hgg with
  | 0, hbb, hgg => cases hbb
  | 1, hbb, hgg => cases hbb
  | 2, hbb, hgg => cases hbb
  | 3, hbb, hgg => cases hbb; exact hgg
  | n' + 4, hbb, hgg => exact absurd hbb (by simp [tkKb8Gs])
def tkKa10G (g c d p : Nat) (s : NS) (op fm fi tq ti : Int) (β : Bool) (x : Asked) : Nat → Value → World → Prop
  | 0, v, w' => v = .pointer (some ⟨g, 0, none⟩)
  | 1, v, w' => v = .pointer (some ⟨g, 0, none⟩)
  | 2, v, w' => v = .pointer (some ⟨g, 8, none⟩)
  | 3, v, w' => v = .map (some d)
  | 4, v, w' => v = .pointer (some ⟨p, 2, none⟩)
  | 5, v, w' => v = .int .i64 fi
  | 6, v, w' => v = .pointer none
  | 7, v, w' => v = .pointer none
  | _, _, _ => True
def tkKa10Ds : List Nat := [65, 66, 67, 68, 69, 70, 71, 13]
def tkKa10Need : List (List Nat) := [[], [0], [1], [2], [], [4], [3, 5], [6]]
def tkKa10Gs : List (Option Bool) := []
theorem tkKa10G.keep {g c d p : Nat} {s : NS} {op fm fi tq ti : Int} {β : Bool} {x : Asked} : ∀ jx v w w', tkKa10G g c d p s op fm fi tq ti β x jx v w → Only (fun _ => False) w w' → tkKa10G g c d p s op fm fi tq ti β x jx v w' := by
  intro jx v w w' h hO
  match jx with
  | 0 => exact h
  | 1 => exact h
  | 2 => exact h
  | 3 => exact h
  | 4 => exact h
  | 5 => exact h
  | 6 => exact h
  | 7 => exact h
  | n + 8 => trivial
theorem tkKa10G.guard {g c d p : Nat} {s : NS} {op fm fi tq ti : Int} {β : Bool} {x : Asked} : ∀ g' b', tkKa10Gs.getD g' none = some b' → ∀ v w, tkKa10G g c d p s op fm fi tq ti β x g' v w → v = .bool b' := by
  intro g' b' hbb v w hgg
  match g', hbb, hgg with
  | n' + 0, hbb, hgg => exact absurd hbb (by simp [tkKa10Gs])

set_option maxHeartbeats 4000000 in
/-- No question for an own address, from who is known, where nobody waits for him. -/
theorem take_known (w : World) (g c d : Nat) (s0 : NS) (op fm fi tq ti now : Int) (x : Asked) (hN : NAt w g c d s0) (hOk : NOk { s0 with now := now }) (hfi : 0 < fi) (hc : arC op fm fi tq ti = 0)
    (h0 : s0.now ≤ now) (h1 : now ≤ 1099511627776) (hown : (s0.mine && decide (fi = 10)) = false) (has : ((op == 1) && (s0.mine && decide (ti = 10))) = false) (hfa : s0.A.find? (fun p => p.1 == fi) = none) (hth : (({ s0 with now := now } : NS).find fi now).isSome = true)
    (hroom : (((({ s0 with now := now } : NS).kept fi).length : Nat) : Int) < s0.room) (hwf : ∀ p ∈ s0.K, (Lit.int .i64 p.1).wf = true) (hsz : s0.K.length ≤ 4096) :
    Calls Try.prog 9 #[.pointer (some ⟨g, 0, none⟩), .agg #[.int .i64 op, .int .i64 fm, .int .i64 fi, .int .i64 tq, .int .i64 ti], .int .i64 now] w fun e w' => e = .returned (.tuple #[.agg (arpCells (⟨0, 0, 0, 0, 0⟩)), .slice none 0 0, .int .i64 0, .int .i64 0]) ∧
      NAt w' g c d (({ s0 with now := now } : NS).learn fi fm) ∧ Only (NFoot g c d s0) w w' := by
  have hp0 := blk_new2 w (.cells #[.int .i64 op, .int .i64 fm, .int .i64 fi, .int .i64 tq, .int .i64 ti] 31) (.cells #[.int .i64 0, .int .i64 0, .int .i64 0, .int .i64 0, .int .i64 0] 31)
  have hpk := blk_alloc (blk_new w (.cells #[.int .i64 op, .int .i64 fm, .int .i64 fi, .int .i64 tq, .int .i64 ti] 31)) (.cells #[.int .i64 0, .int .i64 0, .int .i64 0, .int .i64 0, .int .i64 0] 31)
  have hO := ((Only.refl (fun _ => False) w).alloc (.cells #[.int .i64 op, .int .i64 fm, .int .i64 fi, .int .i64 tq, .int .i64 ti] 31)).alloc (.cells #[.int .i64 0, .int .i64 0, .int .i64 0, .int .i64 0, .int .i64 0] 31)
  have hgl := heap_lt hN.cell
  have hdl := hN.amap.lt
  have hcl := hN.kmap.lt
  go_enter Try.func9, Try.ntmps9
  go_wp2_with fail
  generalize hP : w.heap.size = p at hp0 hpk hgl hdl hcl ⊢
  generalize (w.alloc (.cells #[.int .i64 op, .int .i64 fm, .int .i64 fi, .int .i64 tq, .int .i64 ti] 31)).alloc (.cells #[.int .i64 0, .int .i64 0, .int .i64 0, .int .i64 0, .int .i64 0] 31) = w1 at hp0 hpk hO ⊢
  have HN := Lib.hid (hN.keep hO)
  have HRB := Lib.hid hp0
  have HAR := Lib.hid hpk
  have HO := Lib.hid hO
  have HB := Lib.hid (show g < p ∧ d < p ∧ c < p ∧ w.heap.size = p from ⟨hgl, hdl, hcl, hP⟩)
  have HH := Lib.hid (show s0.now ≤ now ∧ now ≤ 1099511627776 from ⟨h0, h1⟩)
  have HOK := Lib.hid hOk
  have HOWN := Lib.hid hown
  have HAS := Lib.hid has
  have HFA := Lib.hid hfa
  have HTH := Lib.hid hth
  
  have HROOM := Lib.hid hroom
  have HWF := Lib.hid (show _ ∧ _ from ⟨hwf, hsz⟩)
  clear hN hp0 hpk hO hgl hdl hcl hP h0 h1 hOk hown has hfa hth hroom hwf hsz
  refine (acheck_any op fm fi tq ti w1).mono ?_
  rintro e w2 ⟨rfl, hk2⟩
  rw [hc]
  clear hc
  go_wp2_with fail
  refine (tick_ok _ g c d s0 now (HN.out.keep hk2) HH.out.1 HH.out.2).mono ?_
  rintro e W6 ⟨rfl, hn3, hk3⟩
  obtain ⟨s, hs⟩ : ∃ s : NS, ({ s0 with now := now } : NS) = s := ⟨_, rfl⟩
  rw [hs] at hn3 HOK HTH HROOM
  replace HO := Lib.hid (show Only (NFoot g c d s0) w W6 from (HO.out.then hk2 (fun _ _ h => h)).mono (fun _ _ h => h.elim) |>.trans (hk3.mono (fun _ _ h => .inl h)))
  replace HRB := Lib.hid (hk3.at (hk2.at HRB.out (fun h => h)) (by have := HB.out; omega))
  replace HAR := Lib.hid (hk3.at (hk2.at HAR.out (fun h => h)) (by have := HB.out; omega))
  replace HN := Lib.hid hn3
  replace HOWN : Hid ((s.mine && decide (fi = 10)) = false) := Lib.hid (by subst hs; exact HOWN.out)
  replace HFA : Hid (s.A.find? (fun p => p.1 == fi) = none) := Lib.hid (by subst hs; exact HFA.out)
  obtain ⟨β, hβ⟩ : ∃ β : Bool, false = β := ⟨_, rfl⟩
  replace HAS : Hid (((op == 1) && (s.mine && decide (ti = 10))) = β) := Lib.hid (by rw [← hβ]; subst hs; exact HAS.out)
  have HNOW := Lib.hid (show s.now = now by subst hs; rfl)
  have HSE := Lib.hid hs
  have HBE := Lib.hid hβ
  clear hn3 hk2 hk3 hs hβ w1 w2
  go_wp2_with fail
  refine wp_region_facts_tail 17 tkKa6Ds tkKa6Need tkKa6Gs (fun w' => NAt w' g c d s ∧ w'.heap[p]? = some (.cells #[.int .i64 op, .int .i64 fm, .int .i64 fi, .int .i64 tq, .int .i64 ti] 31 (0, 0)) ∧ Only (fun _ => False) W6 w') (Only (fun _ => False)) (tkKa6G g c d p s op fm fi tq ti β x) rfl rfl (by kernel_rfl) (by kernel_rfl) (by kernel_rfl) (by kernel_rfl) (by kernel_rfl) ⟨HN.out.keep ((Only.refl _ _).drew), HAR.out, (Only.refl _ _).drew⟩ tkKa6G.keep tkKa6G.guard ?_ ?_
  · refine And.intro ?op0 (And.intro ?op1 (And.intro ?op2 (And.intro ?op3 (And.intro ?op4 (And.intro ?op5 (And.intro ?op6 (And.intro ?op7 (And.intro ?op8 (And.intro ?op9 (And.intro ?op10 (And.intro ?op11 (And.intro ?op12 (And.intro ?op13 (And.intro ?op14 (And.intro ?op15 (And.intro ?op16 trivial))))))))))))))))
    case op0 =>
      intro ev w1 hT1 hc hf hfr hG
      rw [if_pos (by decide)]
      obtain ⟨hT, hA, hO⟩ := hT1
      have h0 : ev (.tmp 0) = .pointer (some ⟨g, 0, none⟩) := hfr 0 (by decide)
      clear hG hfr
      refine OpSays.value (v := .pointer (some ⟨g, 0, none⟩)) (w' := w1) ?_ ⟨⟨hT, hA, hO⟩, Only.refl _ _, rfl⟩
      go_simp
    case op1 =>
      intro ev w1 hT1 hc hf hfr hG
      rw [if_pos (by decide)]
      obtain ⟨hT, hA, hO⟩ := hT1
      have hg : (ev (.tmp 27) = .pointer (some ⟨g, 0, none⟩)) ∧ True := hG
      obtain ⟨g0, _⟩ := hg
      clear hG hfr
      refine OpSays.value (v := .pointer (some ⟨g, 0, none⟩)) (w' := w1) ?_ ⟨⟨hT, hA, hO⟩, Only.refl _ _, rfl⟩
      go_simp
    case op2 =>
      intro ev w1 hT1 hc hf hfr hG
      rw [if_pos (by decide)]
      obtain ⟨hT, hA, hO⟩ := hT1
      have hg : (ev (.tmp 28) = .pointer (some ⟨g, 0, none⟩)) ∧ True := hG
      obtain ⟨g1, _⟩ := hg
      clear hG hfr
      refine OpSays.value (v := .pointer (some ⟨g, 6, none⟩)) (w' := w1) ?_ ⟨⟨hT, hA, hO⟩, Only.refl _ _, rfl⟩
      go_simp
    case op3 =>
      intro ev w1 hT1 hc hf hfr hG
      rw [if_pos (by decide)]
      obtain ⟨hT, hA, hO⟩ := hT1
      have hg : (ev (.tmp 29) = .pointer (some ⟨g, 6, none⟩)) ∧ True := hG
      obtain ⟨g2, _⟩ := hg
      clear hG hfr
      have c := blk_cell hT.cell 6
      simp only [NS.cells, List.getElem?_toArray, List.getElem?_cons_zero, List.getElem?_cons_succ] at c
      refine OpSays.value (v := s.own) (w' := w1) ?_ ⟨⟨hT, hA, hO⟩, Only.refl _ _, rfl⟩
      go_simp
    case op4 =>
      intro ev w1 hT1 hc hf hfr hG
      rw [if_pos (by decide)]
      obtain ⟨hT, hA, hO⟩ := hT1
      have h4 : ev (.tmp 4) = .pointer (some ⟨p, 0, none⟩) := hfr 4 (by decide)
      clear hG hfr
      refine OpSays.value (v := .pointer (some ⟨p, 2, none⟩)) (w' := w1) ?_ ⟨⟨hT, hA, hO⟩, Only.refl _ _, rfl⟩
      go_simp
    case op5 =>
      intro ev w1 hT1 hc hf hfr hG
      rw [if_pos (by decide)]
      obtain ⟨hT, hA, hO⟩ := hT1
      have hg : (ev (.tmp 31) = .pointer (some ⟨p, 2, none⟩)) ∧ True := hG
      obtain ⟨g4, _⟩ := hg
      clear hG hfr
      have c := blk_cell hA 2
      simp only [List.getElem?_toArray, List.getElem?_cons_zero, List.getElem?_cons_succ] at c
      refine OpSays.value (v := .int .i64 fi) (w' := w1) ?_ ⟨⟨hT, hA, hO⟩, Only.refl _ _, rfl⟩
      go_simp
    case op6 =>
      intro ev w1 hT1 hc hf hfr hG
      rw [if_pos (by decide)]
      obtain ⟨hT, hA, hO⟩ := hT1
      have hg : (ev (.tmp 30) = s.own) ∧ (ev (.tmp 32) = .int .i64 fi) ∧ True := hG
      obtain ⟨g3, g5, _⟩ := hg
      clear hG hfr
      refine OpSays.enter (f := 23) (args := #[s.own, .int .i64 fi]) (w' := w1) ?_ ?_
      · go_simp
      · refine (ncontains_is w1 s.own s.mine fi false hT.own HOWN.out).mono ?_
        rintro e' w2 ⟨rfl, hk⟩
        exact ⟨_, rfl, ⟨hT.keep hk, hk.at hA (fun h => h), hO.trans hk⟩, hk, rfl⟩
    case op7 =>
      intro ev w1 hT1 hc hf hfr hG
      rw [if_pos (by decide)]
      obtain ⟨hT, hA, hO⟩ := hT1
      have hg : (ev (.tmp 33) = .bool false) ∧ True := hG
      obtain ⟨g6, _⟩ := hg
      clear hG hfr
      refine OpSays.value (v := .bool false) (w' := w1) ?_ ⟨⟨hT, hA, hO⟩, Only.refl _ _, rfl⟩
      go_simp
    case op8 =>
      intro ev w1 hT1 hc hf hfr hG
      rw [if_neg (by decide)]
      trivial
    case op9 =>
      intro ev w1 hT1 hc hf hfr hG
      rw [if_neg (by decide)]
      trivial
    case op10 =>
      intro ev w1 hT1 hc hf hfr hG
      rw [if_neg (by decide)]
      trivial
    case op11 =>
      intro ev w1 hT1 hc hf hfr hG
      rw [if_neg (by decide)]
      trivial
    case op12 =>
      intro ev w1 hT1 hc hf hfr hG
      rw [if_neg (by decide)]
      trivial
    case op13 =>
      intro ev w1 hT1 hc hf hfr hG
      rw [if_neg (by decide)]
      trivial
    case op14 =>
      intro ev w1 hT1 hc hf hfr hG
      rw [if_neg (by decide)]
      trivial
    case op15 =>
      intro ev w1 hT1 hc hf hfr hG
      rw [if_neg (by decide)]
      trivial
    case op16 =>
      intro ev w1 hT1 hc hf hfr hG
      rw [if_pos (by decide)]
      obtain ⟨hT, hA, hO⟩ := hT1
      have hg : (ev (.tmp 34) = .bool false) ∧ (True) ∧ True := hG
      obtain ⟨g7, g15, _⟩ := hg
      clear hG hfr
      refine OpSays.value (v := .bool false) (w' := w1) ?_ ⟨⟨hT, hA, hO⟩, Only.refl _ _, rfl⟩
      go_simp
  rintro ⟨tm, df⟩ w7 ⟨hT, hA, hO⟩ hsz hdf hfr hG
  have k0 : tm.getD 0 undef = .pointer (some ⟨g, 0, none⟩) := hfr 0 (by decide)
  have k2 : tm.getD 2 undef = .int .i64 now := hfr 2 (by decide)
  have k4 : tm.getD 4 undef = .pointer (some ⟨p, 0, none⟩) := hfr 4 (by decide)
  have k6 : tm.getD 6 undef = .pointer (some ⟨p + 1, 0, none⟩) := hfr 6 (by decide)
  have k7 : tm.getD 7 undef = .slice none 0 0 := hfr 7 (by decide)
  have k8 : tm.getD 8 undef = .int .i64 0 := hfr 8 (by decide)
  have k9 : tm.getD 9 undef = .int .i64 0 := hfr 9 (by decide)
  have k43 : tm.getD 43 undef = .bool false := AllG.get hG 16 (by decide)
  have he : tm = #[tm.getD 0 undef, tm.getD 1 undef, tm.getD 2 undef, tm.getD 3 undef, tm.getD 4 undef, tm.getD 5 undef, tm.getD 6 undef, tm.getD 7 undef, tm.getD 8 undef, tm.getD 9 undef, tm.getD 10 undef, tm.getD 11 undef, tm.getD 12 undef, tm.getD 13 undef, tm.getD 14 undef, tm.getD 15 undef, tm.getD 16 undef, tm.getD 17 undef, tm.getD 18 undef, tm.getD 19 undef, tm.getD 20 undef, tm.getD 21 undef, tm.getD 22 undef, tm.getD 23 undef, tm.getD 24 undef, tm.getD 25 undef, tm.getD 26 undef, tm.getD 27 undef, tm.getD 28 undef, tm.getD 29 undef, tm.getD 30 undef, tm.getD 31 undef, tm.getD 32 undef, tm.getD 33 undef, tm.getD 34 undef, tm.getD 35 undef, tm.getD 36 undef, tm.getD 37 undef, tm.getD 38 undef, tm.getD 39 undef, tm.getD 40 undef, tm.getD 41 undef, tm.getD 42 undef, tm.getD 43 undef, tm.getD 44 undef, tm.getD 45 undef, tm.getD 46 undef, tm.getD 47 undef, tm.getD 48 undef, tm.getD 49 undef, tm.getD 50 undef, tm.getD 51 undef, tm.getD 52 undef, tm.getD 53 undef, tm.getD 54 undef, tm.getD 55 undef, tm.getD 56 undef, tm.getD 57 undef, tm.getD 58 undef, tm.getD 59 undef, tm.getD 60 undef, tm.getD 61 undef, tm.getD 62 undef, tm.getD 63 undef, tm.getD 64 undef, tm.getD 65 undef, tm.getD 66 undef, tm.getD 67 undef, tm.getD 68 undef, tm.getD 69 undef, tm.getD 70 undef, tm.getD 71 undef, tm.getD 72 undef, tm.getD 73 undef, tm.getD 74 undef, tm.getD 75 undef, tm.getD 76 undef, tm.getD 77 undef, tm.getD 78 undef, tm.getD 79 undef, tm.getD 80 undef, tm.getD 81 undef, tm.getD 82 undef, tm.getD 83 undef, tm.getD 84 undef, tm.getD 85 undef, tm.getD 86 undef, tm.getD 87 undef, tm.getD 88 undef, tm.getD 89 undef, tm.getD 90 undef, tm.getD 91 undef, tm.getD 92 undef, tm.getD 93 undef, tm.getD 94 undef, tm.getD 95 undef, tm.getD 96 undef, tm.getD 97 undef, tm.getD 98 undef, tm.getD 99 undef, tm.getD 100 undef, tm.getD 101 undef, tm.getD 102 undef, tm.getD 103 undef, tm.getD 104 undef, tm.getD 105 undef, tm.getD 106 undef, tm.getD 107 undef, tm.getD 108 undef, tm.getD 109 undef, tm.getD 110 undef, tm.getD 111 undef, tm.getD 112 undef, tm.getD 113 undef, tm.getD 114 undef, tm.getD 115 undef, tm.getD 116 undef, tm.getD 117 undef, tm.getD 118 undef, tm.getD 119 undef, tm.getD 120 undef, tm.getD 121 undef, tm.getD 122 undef, tm.getD 123 undef, tm.getD 124 undef, tm.getD 125 undef] := arr_eta (n := 126) hsz
  replace hdf : df = [] := hdf
  subst hdf
  clear hsz hfr hG
  rw [he, k0, k2, k4, k6, k7, k8, k9, k43]
  clear he k0 k2 k4 k6 k7 k8 k9 k43
  generalize tm.getD 1 undef = x1
  generalize tm.getD 3 undef = x3
  generalize tm.getD 5 undef = x5
  generalize tm.getD 10 undef = x10
  generalize tm.getD 11 undef = x11
  generalize tm.getD 12 undef = x12
  generalize tm.getD 13 undef = x13
  generalize tm.getD 14 undef = x14
  generalize tm.getD 15 undef = x15
  generalize tm.getD 16 undef = x16
  generalize tm.getD 17 undef = x17
  generalize tm.getD 18 undef = x18
  generalize tm.getD 19 undef = x19
  generalize tm.getD 20 undef = x20
  generalize tm.getD 21 undef = x21
  generalize tm.getD 22 undef = x22
  generalize tm.getD 23 undef = x23
  generalize tm.getD 24 undef = x24
  generalize tm.getD 25 undef = x25
  generalize tm.getD 26 undef = x26
  generalize tm.getD 27 undef = x27
  generalize tm.getD 28 undef = x28
  generalize tm.getD 29 undef = x29
  generalize tm.getD 30 undef = x30
  generalize tm.getD 31 undef = x31
  generalize tm.getD 32 undef = x32
  generalize tm.getD 33 undef = x33
  generalize tm.getD 34 undef = x34
  generalize tm.getD 35 undef = x35
  generalize tm.getD 36 undef = x36
  generalize tm.getD 37 undef = x37
  generalize tm.getD 38 undef = x38
  generalize tm.getD 39 undef = x39
  generalize tm.getD 40 undef = x40
  generalize tm.getD 41 undef = x41
  generalize tm.getD 42 undef = x42
  generalize tm.getD 44 undef = x44
  generalize tm.getD 45 undef = x45
  generalize tm.getD 46 undef = x46
  generalize tm.getD 47 undef = x47
  generalize tm.getD 48 undef = x48
  generalize tm.getD 49 undef = x49
  generalize tm.getD 50 undef = x50
  generalize tm.getD 51 undef = x51
  generalize tm.getD 52 undef = x52
  generalize tm.getD 53 undef = x53
  generalize tm.getD 54 undef = x54
  generalize tm.getD 55 undef = x55
  generalize tm.getD 56 undef = x56
  generalize tm.getD 57 undef = x57
  generalize tm.getD 58 undef = x58
  generalize tm.getD 59 undef = x59
  generalize tm.getD 60 undef = x60
  generalize tm.getD 61 undef = x61
  generalize tm.getD 62 undef = x62
  generalize tm.getD 63 undef = x63
  generalize tm.getD 64 undef = x64
  generalize tm.getD 65 undef = x65
  generalize tm.getD 66 undef = x66
  generalize tm.getD 67 undef = x67
  generalize tm.getD 68 undef = x68
  generalize tm.getD 69 undef = x69
  generalize tm.getD 70 undef = x70
  generalize tm.getD 71 undef = x71
  generalize tm.getD 72 undef = x72
  generalize tm.getD 73 undef = x73
  generalize tm.getD 74 undef = x74
  generalize tm.getD 75 undef = x75
  generalize tm.getD 76 undef = x76
  generalize tm.getD 77 undef = x77
  generalize tm.getD 78 undef = x78
  generalize tm.getD 79 undef = x79
  generalize tm.getD 80 undef = x80
  generalize tm.getD 81 undef = x81
  generalize tm.getD 82 undef = x82
  generalize tm.getD 83 undef = x83
  generalize tm.getD 84 undef = x84
  generalize tm.getD 85 undef = x85
  generalize tm.getD 86 undef = x86
  generalize tm.getD 87 undef = x87
  generalize tm.getD 88 undef = x88
  generalize tm.getD 89 undef = x89
  generalize tm.getD 90 undef = x90
  generalize tm.getD 91 undef = x91
  generalize tm.getD 92 undef = x92
  generalize tm.getD 93 undef = x93
  generalize tm.getD 94 undef = x94
  generalize tm.getD 95 undef = x95
  generalize tm.getD 96 undef = x96
  generalize tm.getD 97 undef = x97
  generalize tm.getD 98 undef = x98
  generalize tm.getD 99 undef = x99
  generalize tm.getD 100 undef = x100
  generalize tm.getD 101 undef = x101
  generalize tm.getD 102 undef = x102
  generalize tm.getD 103 undef = x103
  generalize tm.getD 104 undef = x104
  generalize tm.getD 105 undef = x105
  generalize tm.getD 106 undef = x106
  generalize tm.getD 107 undef = x107
  generalize tm.getD 108 undef = x108
  generalize tm.getD 109 undef = x109
  generalize tm.getD 110 undef = x110
  generalize tm.getD 111 undef = x111
  generalize tm.getD 112 undef = x112
  generalize tm.getD 113 undef = x113
  generalize tm.getD 114 undef = x114
  generalize tm.getD 115 undef = x115
  generalize tm.getD 116 undef = x116
  generalize tm.getD 117 undef = x117
  generalize tm.getD 118 undef = x118
  generalize tm.getD 119 undef = x119
  generalize tm.getD 120 undef = x120
  generalize tm.getD 121 undef = x121
  generalize tm.getD 122 undef = x122
  generalize tm.getD 123 undef = x123
  generalize tm.getD 124 undef = x124
  generalize tm.getD 125 undef = x125
  simp only [List.drop_succ_cons, List.drop_zero]
  replace HN := Lib.hid hT
  replace HAR := Lib.hid hA
  replace HO := Lib.hid (HO.out.then hO (fun _ _ h => h.elim))
  replace HRB := Lib.hid (hO.at HRB.out (fun h => h))
  clear hT hA hO
  clear W6
  go_wp2_with fail
  rcases hop : (op == 1) with _ | _
  case' false =>
    have HOP := Lib.hid hop
    clear hop
    refine wp_region_facts_tail 12 tkKb8Ds tkKb8Need tkKb8Gs (fun w' => NAt w' g c d s ∧ w'.heap[p]? = some (.cells #[.int .i64 op, .int .i64 fm, .int .i64 fi, .int .i64 tq, .int .i64 ti] 31 (0, 0)) ∧ Only (fun _ => False) w7 w') (Only (fun _ => False)) (tkKb8G g c d p s op fm fi tq ti β x) rfl rfl (by kernel_rfl) (by kernel_rfl) (by kernel_rfl) (by kernel_rfl) (by kernel_rfl) ⟨HN.out.keep ((Only.refl _ _).drew), HAR.out, (Only.refl _ _).drew⟩ tkKb8G.keep tkKb8G.guard ?_ ?_
    · refine And.intro ?op0 (And.intro ?op1 (And.intro ?op2 (And.intro ?op3 (And.intro ?op4 (And.intro ?op5 (And.intro ?op6 (And.intro ?op7 (And.intro ?op8 (And.intro ?op9 (And.intro ?op10 (And.intro ?op11 trivial)))))))))))
      case op0 =>
        intro ev w1 hT1 hc hf hfr hG
        rw [if_pos (by decide)]
        obtain ⟨hT, hA, hO⟩ := hT1
        have h4 : ev (.tmp 4) = .pointer (some ⟨p, 0, none⟩) := hfr 4 (by decide)
        clear hG hfr
        refine OpSays.value (v := .pointer (some ⟨p, 0, none⟩)) (w' := w1) ?_ ⟨⟨hT, hA, hO⟩, Only.refl _ _, rfl⟩
        go_simp
      case op1 =>
        intro ev w1 hT1 hc hf hfr hG
        rw [if_pos (by decide)]
        obtain ⟨hT, hA, hO⟩ := hT1
        have hg : (ev (.tmp 45) = .pointer (some ⟨p, 0, none⟩)) ∧ True := hG
        obtain ⟨g0, _⟩ := hg
        clear hG hfr
        have c := blk_cell hA 0
        simp only [List.getElem?_toArray, List.getElem?_cons_zero, List.getElem?_cons_succ] at c
        refine OpSays.value (v := .int .i64 op) (w' := w1) ?_ ⟨⟨hT, hA, hO⟩, Only.refl _ _, rfl⟩
        go_simp
      case op2 =>
        intro ev w1 hT1 hc hf hfr hG
        rw [if_pos (by decide)]
        obtain ⟨hT, hA, hO⟩ := hT1
        have hg : (ev (.tmp 46) = .int .i64 op) ∧ True := hG
        obtain ⟨g1, _⟩ := hg
        clear hG hfr
        have ho := HOP.out
        refine OpSays.value (v := .bool false) (w' := w1) ?_ ⟨⟨hT, hA, hO⟩, Only.refl _ _, rfl⟩
        go_simp
      case op3 =>
        intro ev w1 hT1 hc hf hfr hG
        rw [if_pos (by decide)]
        obtain ⟨hT, hA, hO⟩ := hT1
        have hg : (ev (.tmp 47) = .bool false) ∧ True := hG
        obtain ⟨g2, _⟩ := hg
        clear hG hfr
        refine OpSays.value (v := .bool false) (w' := w1) ?_ ⟨⟨hT, hA, hO⟩, Only.refl _ _, rfl⟩
        go_simp
      case op4 =>
        intro ev w1 hT1 hc hf hfr hG
        rw [if_neg (by decide)]
        trivial
      case op5 =>
        intro ev w1 hT1 hc hf hfr hG
        rw [if_neg (by decide)]
        trivial
      case op6 =>
        intro ev w1 hT1 hc hf hfr hG
        rw [if_neg (by decide)]
        trivial
      case op7 =>
        intro ev w1 hT1 hc hf hfr hG
        rw [if_neg (by decide)]
        trivial
      case op8 =>
        intro ev w1 hT1 hc hf hfr hG
        rw [if_neg (by decide)]
        trivial
      case op9 =>
        intro ev w1 hT1 hc hf hfr hG
        rw [if_neg (by decide)]
        trivial
      case op10 =>
        intro ev w1 hT1 hc hf hfr hG
        rw [if_neg (by decide)]
        trivial
      case op11 =>
        intro ev w1 hT1 hc hf hfr hG
        rw [if_pos (by decide)]
        obtain ⟨hT, hA, hO⟩ := hT1
        have hg : (ev (.tmp 48) = .bool false) ∧ (True) ∧ True := hG
        obtain ⟨g3, g10, _⟩ := hg
        clear hG hfr
        have hb : false = β := by have := HAS.out; have h2 := HOP.out; rw [h2, Bool.false_and] at this; exact this
        refine OpSays.value (v := .bool β) (w' := w1) ?_ ⟨⟨hT, hA, hO⟩, Only.refl _ _, rfl⟩
        go_simp; intro h; rw [← hb] at h; cases h
    rintro ⟨tm, df⟩ w9 ⟨hT, hA, hO⟩ hsz hdf hfr hG
    have k0 : tm.getD 0 undef = .pointer (some ⟨g, 0, none⟩) := hfr 0 (by decide)
    have k2 : tm.getD 2 undef = .int .i64 now := hfr 2 (by decide)
    have k4 : tm.getD 4 undef = .pointer (some ⟨p, 0, none⟩) := hfr 4 (by decide)
    have k6 : tm.getD 6 undef = .pointer (some ⟨p + 1, 0, none⟩) := hfr 6 (by decide)
    have k7 : tm.getD 7 undef = .slice none 0 0 := hfr 7 (by decide)
    have k8 : tm.getD 8 undef = .int .i64 0 := hfr 8 (by decide)
    have k9 : tm.getD 9 undef = .int .i64 0 := hfr 9 (by decide)
    have k56 : tm.getD 56 undef = .bool β := AllG.get hG 11 (by decide)
    have he : tm = #[tm.getD 0 undef, tm.getD 1 undef, tm.getD 2 undef, tm.getD 3 undef, tm.getD 4 undef, tm.getD 5 undef, tm.getD 6 undef, tm.getD 7 undef, tm.getD 8 undef, tm.getD 9 undef, tm.getD 10 undef, tm.getD 11 undef, tm.getD 12 undef, tm.getD 13 undef, tm.getD 14 undef, tm.getD 15 undef, tm.getD 16 undef, tm.getD 17 undef, tm.getD 18 undef, tm.getD 19 undef, tm.getD 20 undef, tm.getD 21 undef, tm.getD 22 undef, tm.getD 23 undef, tm.getD 24 undef, tm.getD 25 undef, tm.getD 26 undef, tm.getD 27 undef, tm.getD 28 undef, tm.getD 29 undef, tm.getD 30 undef, tm.getD 31 undef, tm.getD 32 undef, tm.getD 33 undef, tm.getD 34 undef, tm.getD 35 undef, tm.getD 36 undef, tm.getD 37 undef, tm.getD 38 undef, tm.getD 39 undef, tm.getD 40 undef, tm.getD 41 undef, tm.getD 42 undef, tm.getD 43 undef, tm.getD 44 undef, tm.getD 45 undef, tm.getD 46 undef, tm.getD 47 undef, tm.getD 48 undef, tm.getD 49 undef, tm.getD 50 undef, tm.getD 51 undef, tm.getD 52 undef, tm.getD 53 undef, tm.getD 54 undef, tm.getD 55 undef, tm.getD 56 undef, tm.getD 57 undef, tm.getD 58 undef, tm.getD 59 undef, tm.getD 60 undef, tm.getD 61 undef, tm.getD 62 undef, tm.getD 63 undef, tm.getD 64 undef, tm.getD 65 undef, tm.getD 66 undef, tm.getD 67 undef, tm.getD 68 undef, tm.getD 69 undef, tm.getD 70 undef, tm.getD 71 undef, tm.getD 72 undef, tm.getD 73 undef, tm.getD 74 undef, tm.getD 75 undef, tm.getD 76 undef, tm.getD 77 undef, tm.getD 78 undef, tm.getD 79 undef, tm.getD 80 undef, tm.getD 81 undef, tm.getD 82 undef, tm.getD 83 undef, tm.getD 84 undef, tm.getD 85 undef, tm.getD 86 undef, tm.getD 87 undef, tm.getD 88 undef, tm.getD 89 undef, tm.getD 90 undef, tm.getD 91 undef, tm.getD 92 undef, tm.getD 93 undef, tm.getD 94 undef, tm.getD 95 undef, tm.getD 96 undef, tm.getD 97 undef, tm.getD 98 undef, tm.getD 99 undef, tm.getD 100 undef, tm.getD 101 undef, tm.getD 102 undef, tm.getD 103 undef, tm.getD 104 undef, tm.getD 105 undef, tm.getD 106 undef, tm.getD 107 undef, tm.getD 108 undef, tm.getD 109 undef, tm.getD 110 undef, tm.getD 111 undef, tm.getD 112 undef, tm.getD 113 undef, tm.getD 114 undef, tm.getD 115 undef, tm.getD 116 undef, tm.getD 117 undef, tm.getD 118 undef, tm.getD 119 undef, tm.getD 120 undef, tm.getD 121 undef, tm.getD 122 undef, tm.getD 123 undef, tm.getD 124 undef, tm.getD 125 undef] := arr_eta (n := 126) hsz
    replace hdf : df = [] := hdf
    subst hdf
    clear hsz hfr hG
    rw [he, k0, k2, k4, k6, k7, k8, k9, k56]
    clear he k0 k2 k4 k6 k7 k8 k9 k56
    generalize tm.getD 1 undef = x1
    generalize tm.getD 3 undef = x3
    generalize tm.getD 5 undef = x5
    generalize tm.getD 10 undef = x10
    generalize tm.getD 11 undef = x11
    generalize tm.getD 12 undef = x12
    generalize tm.getD 13 undef = x13
    generalize tm.getD 14 undef = x14
    generalize tm.getD 15 undef = x15
    generalize tm.getD 16 undef = x16
    generalize tm.getD 17 undef = x17
    generalize tm.getD 18 undef = x18
    generalize tm.getD 19 undef = x19
    generalize tm.getD 20 undef = x20
    generalize tm.getD 21 undef = x21
    generalize tm.getD 22 undef = x22
    generalize tm.getD 23 undef = x23
    generalize tm.getD 24 undef = x24
    generalize tm.getD 25 undef = x25
    generalize tm.getD 26 undef = x26
    generalize tm.getD 27 undef = x27
    generalize tm.getD 28 undef = x28
    generalize tm.getD 29 undef = x29
    generalize tm.getD 30 undef = x30
    generalize tm.getD 31 undef = x31
    generalize tm.getD 32 undef = x32
    generalize tm.getD 33 undef = x33
    generalize tm.getD 34 undef = x34
    generalize tm.getD 35 undef = x35
    generalize tm.getD 36 undef = x36
    generalize tm.getD 37 undef = x37
    generalize tm.getD 38 undef = x38
    generalize tm.getD 39 undef = x39
    generalize tm.getD 40 undef = x40
    generalize tm.getD 41 undef = x41
    generalize tm.getD 42 undef = x42
    generalize tm.getD 43 undef = x43
    generalize tm.getD 44 undef = x44
    generalize tm.getD 45 undef = x45
    generalize tm.getD 46 undef = x46
    generalize tm.getD 47 undef = x47
    generalize tm.getD 48 undef = x48
    generalize tm.getD 49 undef = x49
    generalize tm.getD 50 undef = x50
    generalize tm.getD 51 undef = x51
    generalize tm.getD 52 undef = x52
    generalize tm.getD 53 undef = x53
    generalize tm.getD 54 undef = x54
    generalize tm.getD 55 undef = x55
    generalize tm.getD 57 undef = x57
    generalize tm.getD 58 undef = x58
    generalize tm.getD 59 undef = x59
    generalize tm.getD 60 undef = x60
    generalize tm.getD 61 undef = x61
    generalize tm.getD 62 undef = x62
    generalize tm.getD 63 undef = x63
    generalize tm.getD 64 undef = x64
    generalize tm.getD 65 undef = x65
    generalize tm.getD 66 undef = x66
    generalize tm.getD 67 undef = x67
    generalize tm.getD 68 undef = x68
    generalize tm.getD 69 undef = x69
    generalize tm.getD 70 undef = x70
    generalize tm.getD 71 undef = x71
    generalize tm.getD 72 undef = x72
    generalize tm.getD 73 undef = x73
    generalize tm.getD 74 undef = x74
    generalize tm.getD 75 undef = x75
    generalize tm.getD 76 undef = x76
    generalize tm.getD 77 undef = x77
    generalize tm.getD 78 undef = x78
    generalize tm.getD 79 undef = x79
    generalize tm.getD 80 undef = x80
    generalize tm.getD 81 undef = x81
    generalize tm.getD 82 undef = x82
    generalize tm.getD 83 undef = x83
    generalize tm.getD 84 undef = x84
    generalize tm.getD 85 undef = x85
    generalize tm.getD 86 undef = x86
    generalize tm.getD 87 undef = x87
    generalize tm.getD 88 undef = x88
    generalize tm.getD 89 undef = x89
    generalize tm.getD 90 undef = x90
    generalize tm.getD 91 undef = x91
    generalize tm.getD 92 undef = x92
    generalize tm.getD 93 undef = x93
    generalize tm.getD 94 undef = x94
    generalize tm.getD 95 undef = x95
    generalize tm.getD 96 undef = x96
    generalize tm.getD 97 undef = x97
    generalize tm.getD 98 undef = x98
    generalize tm.getD 99 undef = x99
    generalize tm.getD 100 undef = x100
    generalize tm.getD 101 undef = x101
    generalize tm.getD 102 undef = x102
    generalize tm.getD 103 undef = x103
    generalize tm.getD 104 undef = x104
    generalize tm.getD 105 undef = x105
    generalize tm.getD 106 undef = x106
    generalize tm.getD 107 undef = x107
    generalize tm.getD 108 undef = x108
    generalize tm.getD 109 undef = x109
    generalize tm.getD 110 undef = x110
    generalize tm.getD 111 undef = x111
    generalize tm.getD 112 undef = x112
    generalize tm.getD 113 undef = x113
    generalize tm.getD 114 undef = x114
    generalize tm.getD 115 undef = x115
    generalize tm.getD 116 undef = x116
    generalize tm.getD 117 undef = x117
    generalize tm.getD 118 undef = x118
    generalize tm.getD 119 undef = x119
    generalize tm.getD 120 undef = x120
    generalize tm.getD 121 undef = x121
    generalize tm.getD 122 undef = x122
    generalize tm.getD 123 undef = x123
    generalize tm.getD 124 undef = x124
    generalize tm.getD 125 undef = x125
    simp only [List.drop_succ_cons, List.drop_zero]
  case' true =>
    have HOP := Lib.hid hop
    clear hop
    refine wp_region_facts_tail 12 tkKa8Ds tkKa8Need tkKa8Gs (fun w' => NAt w' g c d s ∧ w'.heap[p]? = some (.cells #[.int .i64 op, .int .i64 fm, .int .i64 fi, .int .i64 tq, .int .i64 ti] 31 (0, 0)) ∧ Only (fun _ => False) w7 w') (Only (fun _ => False)) (tkKa8G g c d p s op fm fi tq ti β x) rfl rfl (by kernel_rfl) (by kernel_rfl) (by kernel_rfl) (by kernel_rfl) (by kernel_rfl) ⟨HN.out.keep ((Only.refl _ _).drew), HAR.out, (Only.refl _ _).drew⟩ tkKa8G.keep tkKa8G.guard ?_ ?_
    · refine And.intro ?op0 (And.intro ?op1 (And.intro ?op2 (And.intro ?op3 (And.intro ?op4 (And.intro ?op5 (And.intro ?op6 (And.intro ?op7 (And.intro ?op8 (And.intro ?op9 (And.intro ?op10 (And.intro ?op11 trivial)))))))))))
      case op0 =>
        intro ev w1 hT1 hc hf hfr hG
        rw [if_pos (by decide)]
        obtain ⟨hT, hA, hO⟩ := hT1
        have h4 : ev (.tmp 4) = .pointer (some ⟨p, 0, none⟩) := hfr 4 (by decide)
        clear hG hfr
        refine OpSays.value (v := .pointer (some ⟨p, 0, none⟩)) (w' := w1) ?_ ⟨⟨hT, hA, hO⟩, Only.refl _ _, rfl⟩
        go_simp
      case op1 =>
        intro ev w1 hT1 hc hf hfr hG
        rw [if_pos (by decide)]
        obtain ⟨hT, hA, hO⟩ := hT1
        have hg : (ev (.tmp 45) = .pointer (some ⟨p, 0, none⟩)) ∧ True := hG
        obtain ⟨g0, _⟩ := hg
        clear hG hfr
        have c := blk_cell hA 0
        simp only [List.getElem?_toArray, List.getElem?_cons_zero, List.getElem?_cons_succ] at c
        refine OpSays.value (v := .int .i64 op) (w' := w1) ?_ ⟨⟨hT, hA, hO⟩, Only.refl _ _, rfl⟩
        go_simp
      case op2 =>
        intro ev w1 hT1 hc hf hfr hG
        rw [if_pos (by decide)]
        obtain ⟨hT, hA, hO⟩ := hT1
        have hg : (ev (.tmp 46) = .int .i64 op) ∧ True := hG
        obtain ⟨g1, _⟩ := hg
        clear hG hfr
        have ho := HOP.out
        refine OpSays.value (v := .bool true) (w' := w1) ?_ ⟨⟨hT, hA, hO⟩, Only.refl _ _, rfl⟩
        go_simp
      case op3 =>
        intro ev w1 hT1 hc hf hfr hG
        rw [if_pos (by decide)]
        obtain ⟨hT, hA, hO⟩ := hT1
        have hg : (ev (.tmp 47) = .bool true) ∧ True := hG
        obtain ⟨g2, _⟩ := hg
        clear hG hfr
        refine OpSays.value (v := .bool true) (w' := w1) ?_ ⟨⟨hT, hA, hO⟩, Only.refl _ _, rfl⟩
        go_simp
      case op4 =>
        intro ev w1 hT1 hc hf hfr hG
        rw [if_pos (by decide)]
        obtain ⟨hT, hA, hO⟩ := hT1
        have h0 : ev (.tmp 0) = .pointer (some ⟨g, 0, none⟩) := hfr 0 (by decide)
        clear hG hfr
        refine OpSays.value (v := .pointer (some ⟨g, 0, none⟩)) (w' := w1) ?_ ⟨⟨hT, hA, hO⟩, Only.refl _ _, rfl⟩
        go_simp
      case op5 =>
        intro ev w1 hT1 hc hf hfr hG
        rw [if_pos (by decide)]
        obtain ⟨hT, hA, hO⟩ := hT1
        have hg : (ev (.tmp 49) = .pointer (some ⟨g, 0, none⟩)) ∧ True := hG
        obtain ⟨g4, _⟩ := hg
        clear hG hfr
        refine OpSays.value (v := .pointer (some ⟨g, 0, none⟩)) (w' := w1) ?_ ⟨⟨hT, hA, hO⟩, Only.refl _ _, rfl⟩
        go_simp
      case op6 =>
        intro ev w1 hT1 hc hf hfr hG
        rw [if_pos (by decide)]
        obtain ⟨hT, hA, hO⟩ := hT1
        have hg : (ev (.tmp 50) = .pointer (some ⟨g, 0, none⟩)) ∧ True := hG
        obtain ⟨g5, _⟩ := hg
        clear hG hfr
        refine OpSays.value (v := .pointer (some ⟨g, 6, none⟩)) (w' := w1) ?_ ⟨⟨hT, hA, hO⟩, Only.refl _ _, rfl⟩
        go_simp
      case op7 =>
        intro ev w1 hT1 hc hf hfr hG
        rw [if_pos (by decide)]
        obtain ⟨hT, hA, hO⟩ := hT1
        have hg : (ev (.tmp 51) = .pointer (some ⟨g, 6, none⟩)) ∧ True := hG
        obtain ⟨g6, _⟩ := hg
        clear hG hfr
        have c := blk_cell hT.cell 6
        simp only [NS.cells, List.getElem?_toArray, List.getElem?_cons_zero, List.getElem?_cons_succ] at c
        refine OpSays.value (v := s.own) (w' := w1) ?_ ⟨⟨hT, hA, hO⟩, Only.refl _ _, rfl⟩
        go_simp
      case op8 =>
        intro ev w1 hT1 hc hf hfr hG
        rw [if_pos (by decide)]
        obtain ⟨hT, hA, hO⟩ := hT1
        have h4 : ev (.tmp 4) = .pointer (some ⟨p, 0, none⟩) := hfr 4 (by decide)
        clear hG hfr
        refine OpSays.value (v := .pointer (some ⟨p, 4, none⟩)) (w' := w1) ?_ ⟨⟨hT, hA, hO⟩, Only.refl _ _, rfl⟩
        go_simp
      case op9 =>
        intro ev w1 hT1 hc hf hfr hG
        rw [if_pos (by decide)]
        obtain ⟨hT, hA, hO⟩ := hT1
        have hg : (ev (.tmp 53) = .pointer (some ⟨p, 4, none⟩)) ∧ True := hG
        obtain ⟨g8, _⟩ := hg
        clear hG hfr
        have c := blk_cell hA 4
        simp only [List.getElem?_toArray, List.getElem?_cons_zero, List.getElem?_cons_succ] at c
        refine OpSays.value (v := .int .i64 ti) (w' := w1) ?_ ⟨⟨hT, hA, hO⟩, Only.refl _ _, rfl⟩
        go_simp
      case op10 =>
        intro ev w1 hT1 hc hf hfr hG
        rw [if_pos (by decide)]
        obtain ⟨hT, hA, hO⟩ := hT1
        have hg : (ev (.tmp 52) = s.own) ∧ (ev (.tmp 54) = .int .i64 ti) ∧ True := hG
        obtain ⟨g7, g9, _⟩ := hg
        clear hG hfr
        refine OpSays.enter (f := 23) (args := #[s.own, .int .i64 ti]) (w' := w1) ?_ ?_
        · go_simp
        · refine (ncontains_is w1 s.own s.mine ti β hT.own (by have := HAS.out; have h2 := HOP.out; rw [h2, Bool.true_and] at this; exact this)).mono ?_
          rintro e' w2 ⟨rfl, hk⟩
          exact ⟨_, rfl, ⟨hT.keep hk, hk.at hA (fun h => h), hO.trans hk⟩, hk, rfl⟩
      case op11 =>
        intro ev w1 hT1 hc hf hfr hG
        rw [if_pos (by decide)]
        obtain ⟨hT, hA, hO⟩ := hT1
        have hg : (ev (.tmp 48) = .bool true) ∧ (ev (.tmp 55) = .bool β) ∧ True := hG
        obtain ⟨g3, g10, _⟩ := hg
        clear hG hfr
        refine OpSays.value (v := .bool β) (w' := w1) ?_ ⟨⟨hT, hA, hO⟩, Only.refl _ _, rfl⟩
        go_simp
    rintro ⟨tm, df⟩ w9 ⟨hT, hA, hO⟩ hsz hdf hfr hG
    have k0 : tm.getD 0 undef = .pointer (some ⟨g, 0, none⟩) := hfr 0 (by decide)
    have k2 : tm.getD 2 undef = .int .i64 now := hfr 2 (by decide)
    have k4 : tm.getD 4 undef = .pointer (some ⟨p, 0, none⟩) := hfr 4 (by decide)
    have k6 : tm.getD 6 undef = .pointer (some ⟨p + 1, 0, none⟩) := hfr 6 (by decide)
    have k7 : tm.getD 7 undef = .slice none 0 0 := hfr 7 (by decide)
    have k8 : tm.getD 8 undef = .int .i64 0 := hfr 8 (by decide)
    have k9 : tm.getD 9 undef = .int .i64 0 := hfr 9 (by decide)
    have k56 : tm.getD 56 undef = .bool β := AllG.get hG 11 (by decide)
    have he : tm = #[tm.getD 0 undef, tm.getD 1 undef, tm.getD 2 undef, tm.getD 3 undef, tm.getD 4 undef, tm.getD 5 undef, tm.getD 6 undef, tm.getD 7 undef, tm.getD 8 undef, tm.getD 9 undef, tm.getD 10 undef, tm.getD 11 undef, tm.getD 12 undef, tm.getD 13 undef, tm.getD 14 undef, tm.getD 15 undef, tm.getD 16 undef, tm.getD 17 undef, tm.getD 18 undef, tm.getD 19 undef, tm.getD 20 undef, tm.getD 21 undef, tm.getD 22 undef, tm.getD 23 undef, tm.getD 24 undef, tm.getD 25 undef, tm.getD 26 undef, tm.getD 27 undef, tm.getD 28 undef, tm.getD 29 undef, tm.getD 30 undef, tm.getD 31 undef, tm.getD 32 undef, tm.getD 33 undef, tm.getD 34 undef, tm.getD 35 undef, tm.getD 36 undef, tm.getD 37 undef, tm.getD 38 undef, tm.getD 39 undef, tm.getD 40 undef, tm.getD 41 undef, tm.getD 42 undef, tm.getD 43 undef, tm.getD 44 undef, tm.getD 45 undef, tm.getD 46 undef, tm.getD 47 undef, tm.getD 48 undef, tm.getD 49 undef, tm.getD 50 undef, tm.getD 51 undef, tm.getD 52 undef, tm.getD 53 undef, tm.getD 54 undef, tm.getD 55 undef, tm.getD 56 undef, tm.getD 57 undef, tm.getD 58 undef, tm.getD 59 undef, tm.getD 60 undef, tm.getD 61 undef, tm.getD 62 undef, tm.getD 63 undef, tm.getD 64 undef, tm.getD 65 undef, tm.getD 66 undef, tm.getD 67 undef, tm.getD 68 undef, tm.getD 69 undef, tm.getD 70 undef, tm.getD 71 undef, tm.getD 72 undef, tm.getD 73 undef, tm.getD 74 undef, tm.getD 75 undef, tm.getD 76 undef, tm.getD 77 undef, tm.getD 78 undef, tm.getD 79 undef, tm.getD 80 undef, tm.getD 81 undef, tm.getD 82 undef, tm.getD 83 undef, tm.getD 84 undef, tm.getD 85 undef, tm.getD 86 undef, tm.getD 87 undef, tm.getD 88 undef, tm.getD 89 undef, tm.getD 90 undef, tm.getD 91 undef, tm.getD 92 undef, tm.getD 93 undef, tm.getD 94 undef, tm.getD 95 undef, tm.getD 96 undef, tm.getD 97 undef, tm.getD 98 undef, tm.getD 99 undef, tm.getD 100 undef, tm.getD 101 undef, tm.getD 102 undef, tm.getD 103 undef, tm.getD 104 undef, tm.getD 105 undef, tm.getD 106 undef, tm.getD 107 undef, tm.getD 108 undef, tm.getD 109 undef, tm.getD 110 undef, tm.getD 111 undef, tm.getD 112 undef, tm.getD 113 undef, tm.getD 114 undef, tm.getD 115 undef, tm.getD 116 undef, tm.getD 117 undef, tm.getD 118 undef, tm.getD 119 undef, tm.getD 120 undef, tm.getD 121 undef, tm.getD 122 undef, tm.getD 123 undef, tm.getD 124 undef, tm.getD 125 undef] := arr_eta (n := 126) hsz
    replace hdf : df = [] := hdf
    subst hdf
    clear hsz hfr hG
    rw [he, k0, k2, k4, k6, k7, k8, k9, k56]
    clear he k0 k2 k4 k6 k7 k8 k9 k56
    generalize tm.getD 1 undef = x1
    generalize tm.getD 3 undef = x3
    generalize tm.getD 5 undef = x5
    generalize tm.getD 10 undef = x10
    generalize tm.getD 11 undef = x11
    generalize tm.getD 12 undef = x12
    generalize tm.getD 13 undef = x13
    generalize tm.getD 14 undef = x14
    generalize tm.getD 15 undef = x15
    generalize tm.getD 16 undef = x16
    generalize tm.getD 17 undef = x17
    generalize tm.getD 18 undef = x18
    generalize tm.getD 19 undef = x19
    generalize tm.getD 20 undef = x20
    generalize tm.getD 21 undef = x21
    generalize tm.getD 22 undef = x22
    generalize tm.getD 23 undef = x23
    generalize tm.getD 24 undef = x24
    generalize tm.getD 25 undef = x25
    generalize tm.getD 26 undef = x26
    generalize tm.getD 27 undef = x27
    generalize tm.getD 28 undef = x28
    generalize tm.getD 29 undef = x29
    generalize tm.getD 30 undef = x30
    generalize tm.getD 31 undef = x31
    generalize tm.getD 32 undef = x32
    generalize tm.getD 33 undef = x33
    generalize tm.getD 34 undef = x34
    generalize tm.getD 35 undef = x35
    generalize tm.getD 36 undef = x36
    generalize tm.getD 37 undef = x37
    generalize tm.getD 38 undef = x38
    generalize tm.getD 39 undef = x39
    generalize tm.getD 40 undef = x40
    generalize tm.getD 41 undef = x41
    generalize tm.getD 42 undef = x42
    generalize tm.getD 43 undef = x43
    generalize tm.getD 44 undef = x44
    generalize tm.getD 45 undef = x45
    generalize tm.getD 46 undef = x46
    generalize tm.getD 47 undef = x47
    generalize tm.getD 48 undef = x48
    generalize tm.getD 49 undef = x49
    generalize tm.getD 50 undef = x50
    generalize tm.getD 51 undef = x51
    generalize tm.getD 52 undef = x52
    generalize tm.getD 53 undef = x53
    generalize tm.getD 54 undef = x54
    generalize tm.getD 55 undef = x55
    generalize tm.getD 57 undef = x57
    generalize tm.getD 58 undef = x58
    generalize tm.getD 59 undef = x59
    generalize tm.getD 60 undef = x60
    generalize tm.getD 61 undef = x61
    generalize tm.getD 62 undef = x62
    generalize tm.getD 63 undef = x63
    generalize tm.getD 64 undef = x64
    generalize tm.getD 65 undef = x65
    generalize tm.getD 66 undef = x66
    generalize tm.getD 67 undef = x67
    generalize tm.getD 68 undef = x68
    generalize tm.getD 69 undef = x69
    generalize tm.getD 70 undef = x70
    generalize tm.getD 71 undef = x71
    generalize tm.getD 72 undef = x72
    generalize tm.getD 73 undef = x73
    generalize tm.getD 74 undef = x74
    generalize tm.getD 75 undef = x75
    generalize tm.getD 76 undef = x76
    generalize tm.getD 77 undef = x77
    generalize tm.getD 78 undef = x78
    generalize tm.getD 79 undef = x79
    generalize tm.getD 80 undef = x80
    generalize tm.getD 81 undef = x81
    generalize tm.getD 82 undef = x82
    generalize tm.getD 83 undef = x83
    generalize tm.getD 84 undef = x84
    generalize tm.getD 85 undef = x85
    generalize tm.getD 86 undef = x86
    generalize tm.getD 87 undef = x87
    generalize tm.getD 88 undef = x88
    generalize tm.getD 89 undef = x89
    generalize tm.getD 90 undef = x90
    generalize tm.getD 91 undef = x91
    generalize tm.getD 92 undef = x92
    generalize tm.getD 93 undef = x93
    generalize tm.getD 94 undef = x94
    generalize tm.getD 95 undef = x95
    generalize tm.getD 96 undef = x96
    generalize tm.getD 97 undef = x97
    generalize tm.getD 98 undef = x98
    generalize tm.getD 99 undef = x99
    generalize tm.getD 100 undef = x100
    generalize tm.getD 101 undef = x101
    generalize tm.getD 102 undef = x102
    generalize tm.getD 103 undef = x103
    generalize tm.getD 104 undef = x104
    generalize tm.getD 105 undef = x105
    generalize tm.getD 106 undef = x106
    generalize tm.getD 107 undef = x107
    generalize tm.getD 108 undef = x108
    generalize tm.getD 109 undef = x109
    generalize tm.getD 110 undef = x110
    generalize tm.getD 111 undef = x111
    generalize tm.getD 112 undef = x112
    generalize tm.getD 113 undef = x113
    generalize tm.getD 114 undef = x114
    generalize tm.getD 115 undef = x115
    generalize tm.getD 116 undef = x116
    generalize tm.getD 117 undef = x117
    generalize tm.getD 118 undef = x118
    generalize tm.getD 119 undef = x119
    generalize tm.getD 120 undef = x120
    generalize tm.getD 121 undef = x121
    generalize tm.getD 122 undef = x122
    generalize tm.getD 123 undef = x123
    generalize tm.getD 124 undef = x124
    generalize tm.getD 125 undef = x125
    simp only [List.drop_succ_cons, List.drop_zero]
  all_goals
    replace HN := Lib.hid hT
    replace HAR := Lib.hid hA
    replace HO := Lib.hid (HO.out.then hO (fun _ _ h => h.elim))
    replace HRB := Lib.hid (hO.at HRB.out (fun h => h))
    clear hT hA hO
    clear w7
    have hcA := blk_cell HAR.out 2
    simp only [List.getElem?_toArray, List.getElem?_cons_zero, List.getElem?_cons_succ] at hcA
    go_wp2_with fail
    clear hcA
    refine (look_any s g c d w9 fi now HN.out HOK.out).mono ?_
    rintro e W9 ⟨rfl, hk9⟩
    replace HN := Lib.hid (HN.out.keep hk9)
    replace HAR := Lib.hid (hk9.at HAR.out (fun h => h))
    replace HRB := Lib.hid (hk9.at HRB.out (fun h => h))
    replace HO := Lib.hid (HO.out.then hk9 (fun _ _ h => h.elim))
    clear hk9
    clear w9
    rw [HTH.out]
    generalize (s.find fi now).getD 0 = tm0
    go_wp2_with fail
    refine wp_region_facts_tail 8 tkKa10Ds tkKa10Need tkKa10Gs (fun w' => NAt w' g c d s ∧ w'.heap[p]? = some (.cells #[.int .i64 op, .int .i64 fm, .int .i64 fi, .int .i64 tq, .int .i64 ti] 31 (0, 0)) ∧ Only (fun _ => False) W9 w') (Only (fun _ => False)) (tkKa10G g c d p s op fm fi tq ti β x) rfl rfl (by kernel_rfl) (by kernel_rfl) (by kernel_rfl) (by kernel_rfl) (by kernel_rfl) ⟨HN.out.keep ((Only.refl _ _).drew), HAR.out, (Only.refl _ _).drew⟩ tkKa10G.keep tkKa10G.guard ?_ ?_
    · refine And.intro ?op0 (And.intro ?op1 (And.intro ?op2 (And.intro ?op3 (And.intro ?op4 (And.intro ?op5 (And.intro ?op6 (And.intro ?op7 trivial)))))))
      case op0 =>
        intro ev w1 hT1 hc hf hfr hG
        rw [if_pos (by decide)]
        obtain ⟨hT, hA, hO⟩ := hT1
        have h0 : ev (.tmp 0) = .pointer (some ⟨g, 0, none⟩) := hfr 0 (by decide)
        clear hG hfr
        refine OpSays.value (v := .pointer (some ⟨g, 0, none⟩)) (w' := w1) ?_ ⟨⟨hT, hA, hO⟩, Only.refl _ _, rfl⟩
        go_simp
      case op1 =>
        intro ev w1 hT1 hc hf hfr hG
        rw [if_pos (by decide)]
        obtain ⟨hT, hA, hO⟩ := hT1
        have hg : (ev (.tmp 65) = .pointer (some ⟨g, 0, none⟩)) ∧ True := hG
        obtain ⟨g0, _⟩ := hg
        clear hG hfr
        refine OpSays.value (v := .pointer (some ⟨g, 0, none⟩)) (w' := w1) ?_ ⟨⟨hT, hA, hO⟩, Only.refl _ _, rfl⟩
        go_simp
      case op2 =>
        intro ev w1 hT1 hc hf hfr hG
        rw [if_pos (by decide)]
        obtain ⟨hT, hA, hO⟩ := hT1
        have hg : (ev (.tmp 66) = .pointer (some ⟨g, 0, none⟩)) ∧ True := hG
        obtain ⟨g1, _⟩ := hg
        clear hG hfr
        refine OpSays.value (v := .pointer (some ⟨g, 8, none⟩)) (w' := w1) ?_ ⟨⟨hT, hA, hO⟩, Only.refl _ _, rfl⟩
        go_simp
      case op3 =>
        intro ev w1 hT1 hc hf hfr hG
        rw [if_pos (by decide)]
        obtain ⟨hT, hA, hO⟩ := hT1
        have hg : (ev (.tmp 67) = .pointer (some ⟨g, 8, none⟩)) ∧ True := hG
        obtain ⟨g2, _⟩ := hg
        clear hG hfr
        have c := blk_cell hT.cell 8
        simp only [NS.cells, List.getElem?_toArray, List.getElem?_cons_zero, List.getElem?_cons_succ] at c
        refine OpSays.value (v := .map (some d)) (w' := w1) ?_ ⟨⟨hT, hA, hO⟩, Only.refl _ _, rfl⟩
        go_simp
      case op4 =>
        intro ev w1 hT1 hc hf hfr hG
        rw [if_pos (by decide)]
        obtain ⟨hT, hA, hO⟩ := hT1
        have h4 : ev (.tmp 4) = .pointer (some ⟨p, 0, none⟩) := hfr 4 (by decide)
        clear hG hfr
        refine OpSays.value (v := .pointer (some ⟨p, 2, none⟩)) (w' := w1) ?_ ⟨⟨hT, hA, hO⟩, Only.refl _ _, rfl⟩
        go_simp
      case op5 =>
        intro ev w1 hT1 hc hf hfr hG
        rw [if_pos (by decide)]
        obtain ⟨hT, hA, hO⟩ := hT1
        have hg : (ev (.tmp 69) = .pointer (some ⟨p, 2, none⟩)) ∧ True := hG
        obtain ⟨g4, _⟩ := hg
        clear hG hfr
        have c := blk_cell hA 2
        simp only [List.getElem?_toArray, List.getElem?_cons_zero, List.getElem?_cons_succ] at c
        refine OpSays.value (v := .int .i64 fi) (w' := w1) ?_ ⟨⟨hT, hA, hO⟩, Only.refl _ _, rfl⟩
        go_simp
      case op6 =>
        intro ev w1 hT1 hc hf hfr hG
        rw [if_pos (by decide)]
        obtain ⟨hT, hA, hO⟩ := hT1
        have hg : (ev (.tmp 68) = .map (some d)) ∧ (ev (.tmp 70) = .int .i64 fi) ∧ True := hG
        obtain ⟨g3, g5, _⟩ := hg
        clear hG hfr
        have hl := hT.amap.look (P := Try.prog) und_amap und_int (zero_pasked _) fi false
        rw [getI_encW, HFA.out] at hl
        simp only [Option.map_none, Option.map_some, Option.getD_none, Option.getD_some, Bool.false_eq_true, if_false] at hl
        refine OpSays.value (v := .pointer none) (w' := w1) ?_ ⟨⟨hT, hA, hO⟩, Only.refl _ _, rfl⟩
        go_simp
      case op7 =>
        intro ev w1 hT1 hc hf hfr hG
        rw [if_pos (by decide)]
        obtain ⟨hT, hA, hO⟩ := hT1
        have hg : (ev (.tmp 71) = .pointer none) ∧ True := hG
        obtain ⟨g6, _⟩ := hg
        clear hG hfr
        refine OpSays.value (v := .pointer none) (w' := w1) ?_ ⟨⟨hT, hA, hO⟩, Only.refl _ _, rfl⟩
        go_simp
    rintro ⟨tm, df⟩ W10 ⟨hT, hA, hO⟩ hsz hdf hfr hG
    have k0 : tm.getD 0 undef = .pointer (some ⟨g, 0, none⟩) := hfr 0 (by decide)
    have k2 : tm.getD 2 undef = .int .i64 now := hfr 2 (by decide)
    have k4 : tm.getD 4 undef = .pointer (some ⟨p, 0, none⟩) := hfr 4 (by decide)
    have k6 : tm.getD 6 undef = .pointer (some ⟨p + 1, 0, none⟩) := hfr 6 (by decide)
    have k7 : tm.getD 7 undef = .slice none 0 0 := hfr 7 (by decide)
    have k8 : tm.getD 8 undef = .int .i64 0 := hfr 8 (by decide)
    have k9 : tm.getD 9 undef = .int .i64 0 := hfr 9 (by decide)
    have k10 : tm.getD 10 undef = .bool β := hfr 10 (by decide)
    have k12 : tm.getD 12 undef = .bool true := hfr 12 (by decide)
    have k13 : tm.getD 13 undef = .pointer none := AllG.get hG 7 (by decide)
    have he : tm = #[tm.getD 0 undef, tm.getD 1 undef, tm.getD 2 undef, tm.getD 3 undef, tm.getD 4 undef, tm.getD 5 undef, tm.getD 6 undef, tm.getD 7 undef, tm.getD 8 undef, tm.getD 9 undef, tm.getD 10 undef, tm.getD 11 undef, tm.getD 12 undef, tm.getD 13 undef, tm.getD 14 undef, tm.getD 15 undef, tm.getD 16 undef, tm.getD 17 undef, tm.getD 18 undef, tm.getD 19 undef, tm.getD 20 undef, tm.getD 21 undef, tm.getD 22 undef, tm.getD 23 undef, tm.getD 24 undef, tm.getD 25 undef, tm.getD 26 undef, tm.getD 27 undef, tm.getD 28 undef, tm.getD 29 undef, tm.getD 30 undef, tm.getD 31 undef, tm.getD 32 undef, tm.getD 33 undef, tm.getD 34 undef, tm.getD 35 undef, tm.getD 36 undef, tm.getD 37 undef, tm.getD 38 undef, tm.getD 39 undef, tm.getD 40 undef, tm.getD 41 undef, tm.getD 42 undef, tm.getD 43 undef, tm.getD 44 undef, tm.getD 45 undef, tm.getD 46 undef, tm.getD 47 undef, tm.getD 48 undef, tm.getD 49 undef, tm.getD 50 undef, tm.getD 51 undef, tm.getD 52 undef, tm.getD 53 undef, tm.getD 54 undef, tm.getD 55 undef, tm.getD 56 undef, tm.getD 57 undef, tm.getD 58 undef, tm.getD 59 undef, tm.getD 60 undef, tm.getD 61 undef, tm.getD 62 undef, tm.getD 63 undef, tm.getD 64 undef, tm.getD 65 undef, tm.getD 66 undef, tm.getD 67 undef, tm.getD 68 undef, tm.getD 69 undef, tm.getD 70 undef, tm.getD 71 undef, tm.getD 72 undef, tm.getD 73 undef, tm.getD 74 undef, tm.getD 75 undef, tm.getD 76 undef, tm.getD 77 undef, tm.getD 78 undef, tm.getD 79 undef, tm.getD 80 undef, tm.getD 81 undef, tm.getD 82 undef, tm.getD 83 undef, tm.getD 84 undef, tm.getD 85 undef, tm.getD 86 undef, tm.getD 87 undef, tm.getD 88 undef, tm.getD 89 undef, tm.getD 90 undef, tm.getD 91 undef, tm.getD 92 undef, tm.getD 93 undef, tm.getD 94 undef, tm.getD 95 undef, tm.getD 96 undef, tm.getD 97 undef, tm.getD 98 undef, tm.getD 99 undef, tm.getD 100 undef, tm.getD 101 undef, tm.getD 102 undef, tm.getD 103 undef, tm.getD 104 undef, tm.getD 105 undef, tm.getD 106 undef, tm.getD 107 undef, tm.getD 108 undef, tm.getD 109 undef, tm.getD 110 undef, tm.getD 111 undef, tm.getD 112 undef, tm.getD 113 undef, tm.getD 114 undef, tm.getD 115 undef, tm.getD 116 undef, tm.getD 117 undef, tm.getD 118 undef, tm.getD 119 undef, tm.getD 120 undef, tm.getD 121 undef, tm.getD 122 undef, tm.getD 123 undef, tm.getD 124 undef, tm.getD 125 undef] := arr_eta (n := 126) hsz
    replace hdf : df = [] := hdf
    subst hdf
    clear hsz hfr hG
    rw [he, k0, k2, k4, k6, k7, k8, k9, k10, k12, k13]
    clear he k0 k2 k4 k6 k7 k8 k9 k10 k12 k13
    generalize tm.getD 1 undef = x1
    generalize tm.getD 3 undef = x3
    generalize tm.getD 5 undef = x5
    generalize tm.getD 11 undef = x11
    generalize tm.getD 14 undef = x14
    generalize tm.getD 15 undef = x15
    generalize tm.getD 16 undef = x16
    generalize tm.getD 17 undef = x17
    generalize tm.getD 18 undef = x18
    generalize tm.getD 19 undef = x19
    generalize tm.getD 20 undef = x20
    generalize tm.getD 21 undef = x21
    generalize tm.getD 22 undef = x22
    generalize tm.getD 23 undef = x23
    generalize tm.getD 24 undef = x24
    generalize tm.getD 25 undef = x25
    generalize tm.getD 26 undef = x26
    generalize tm.getD 27 undef = x27
    generalize tm.getD 28 undef = x28
    generalize tm.getD 29 undef = x29
    generalize tm.getD 30 undef = x30
    generalize tm.getD 31 undef = x31
    generalize tm.getD 32 undef = x32
    generalize tm.getD 33 undef = x33
    generalize tm.getD 34 undef = x34
    generalize tm.getD 35 undef = x35
    generalize tm.getD 36 undef = x36
    generalize tm.getD 37 undef = x37
    generalize tm.getD 38 undef = x38
    generalize tm.getD 39 undef = x39
    generalize tm.getD 40 undef = x40
    generalize tm.getD 41 undef = x41
    generalize tm.getD 42 undef = x42
    generalize tm.getD 43 undef = x43
    generalize tm.getD 44 undef = x44
    generalize tm.getD 45 undef = x45
    generalize tm.getD 46 undef = x46
    generalize tm.getD 47 undef = x47
    generalize tm.getD 48 undef = x48
    generalize tm.getD 49 undef = x49
    generalize tm.getD 50 undef = x50
    generalize tm.getD 51 undef = x51
    generalize tm.getD 52 undef = x52
    generalize tm.getD 53 undef = x53
    generalize tm.getD 54 undef = x54
    generalize tm.getD 55 undef = x55
    generalize tm.getD 56 undef = x56
    generalize tm.getD 57 undef = x57
    generalize tm.getD 58 undef = x58
    generalize tm.getD 59 undef = x59
    generalize tm.getD 60 undef = x60
    generalize tm.getD 61 undef = x61
    generalize tm.getD 62 undef = x62
    generalize tm.getD 63 undef = x63
    generalize tm.getD 64 undef = x64
    generalize tm.getD 65 undef = x65
    generalize tm.getD 66 undef = x66
    generalize tm.getD 67 undef = x67
    generalize tm.getD 68 undef = x68
    generalize tm.getD 69 undef = x69
    generalize tm.getD 70 undef = x70
    generalize tm.getD 71 undef = x71
    generalize tm.getD 72 undef = x72
    generalize tm.getD 73 undef = x73
    generalize tm.getD 74 undef = x74
    generalize tm.getD 75 undef = x75
    generalize tm.getD 76 undef = x76
    generalize tm.getD 77 undef = x77
    generalize tm.getD 78 undef = x78
    generalize tm.getD 79 undef = x79
    generalize tm.getD 80 undef = x80
    generalize tm.getD 81 undef = x81
    generalize tm.getD 82 undef = x82
    generalize tm.getD 83 undef = x83
    generalize tm.getD 84 undef = x84
    generalize tm.getD 85 undef = x85
    generalize tm.getD 86 undef = x86
    generalize tm.getD 87 undef = x87
    generalize tm.getD 88 undef = x88
    generalize tm.getD 89 undef = x89
    generalize tm.getD 90 undef = x90
    generalize tm.getD 91 undef = x91
    generalize tm.getD 92 undef = x92
    generalize tm.getD 93 undef = x93
    generalize tm.getD 94 undef = x94
    generalize tm.getD 95 undef = x95
    generalize tm.getD 96 undef = x96
    generalize tm.getD 97 undef = x97
    generalize tm.getD 98 undef = x98
    generalize tm.getD 99 undef = x99
    generalize tm.getD 100 undef = x100
    generalize tm.getD 101 undef = x101
    generalize tm.getD 102 undef = x102
    generalize tm.getD 103 undef = x103
    generalize tm.getD 104 undef = x104
    generalize tm.getD 105 undef = x105
    generalize tm.getD 106 undef = x106
    generalize tm.getD 107 undef = x107
    generalize tm.getD 108 undef = x108
    generalize tm.getD 109 undef = x109
    generalize tm.getD 110 undef = x110
    generalize tm.getD 111 undef = x111
    generalize tm.getD 112 undef = x112
    generalize tm.getD 113 undef = x113
    generalize tm.getD 114 undef = x114
    generalize tm.getD 115 undef = x115
    generalize tm.getD 116 undef = x116
    generalize tm.getD 117 undef = x117
    generalize tm.getD 118 undef = x118
    generalize tm.getD 119 undef = x119
    generalize tm.getD 120 undef = x120
    generalize tm.getD 121 undef = x121
    generalize tm.getD 122 undef = x122
    generalize tm.getD 123 undef = x123
    generalize tm.getD 124 undef = x124
    generalize tm.getD 125 undef = x125
    simp only [List.drop_succ_cons, List.drop_zero]
    replace HN := Lib.hid hT
    replace HAR := Lib.hid hA
    replace HO := Lib.hid (HO.out.then hO (fun _ _ h => h.elim))
    replace HRB := Lib.hid (hO.at HRB.out (fun h => h))
    clear hT hA hO
    clear W9
    have hb := HBE.out
    subst hb
    have hfid : decide (0 < fi) = true := by simpa using hfi
    have HWF2 : Hid ((∀ p ∈ s.K, (Lit.int .i64 p.1).wf = true) ∧ s.K.length ≤ 4096) := Lib.hid (by have e := HSE.out; subst e; exact HWF.out)
    replace HROOM : Hid (((s.kept fi).length : Int) < s.room) := Lib.hid (by have e := HSE.out; have := HROOM.out; subst e; exact this)
    have hcB := blk_cell HAR.out 1
    have hcA := blk_cell HAR.out 2
    simp only [List.getElem?_toArray, List.getElem?_cons_zero, List.getElem?_cons_succ] at hcA hcB
    go_wp2_with fail
    have hln := learn_any s g c d W10 fi fm HN.out HOK.out HROOM.out HWF2.out.1 HWF2.out.2
    rw [HNOW.out] at hln
    refine hln.mono ?_
    rintro e W14 ⟨rfl, hn14, hk14⟩
    have hO14 := HO.out.then hk14 (fun b _ e => Or.inr (Or.inl e))
    have hA14 := hk14.at HAR.out (by have := HB.out; omega)
    have hB14 := hk14.at HRB.out (by have := HB.out; omega)
    clear hln hk14 hcA hcB
    obtain ⟨sl, hsl⟩ : ∃ sl : NS, NS.learn s fi fm = sl := ⟨_, rfl⟩
    rw [hsl] at hn14
    replace HN := Lib.hid hn14
    replace HAR := Lib.hid hA14
    replace HRB := Lib.hid hB14
    replace HO := Lib.hid hO14
    have HSL := Lib.hid hsl
    clear hn14 hA14 hB14 hO14 hsl
    have hB18 := HRB.out
    obtain ⟨z0, z1, z2, z3, z4, q0, q1, q2, q3, q4⟩ := arp_cells (a := ⟨0, 0, 0, 0, 0⟩) hB18
    have hN18 := HN.out
    have hO17 := HO.out
    go_wp2_with fail
    have hs18 := arp_set (x := ⟨0, 0, 0, 0, 0⟩) hB18 ⟨0, 0, 0, 0, 0⟩
    have hk18 := arp_set_only W14 (p + 1) ⟨0, 0, 0, 0, 0⟩
    simp only at hs18 hk18
    have hn18 := hN18.arp hB18 hk18
    have hO18 := hO17.then hk18 (fun b hb e => by have := HB.out; omega)
    generalize (World.setCell (World.setCell (World.setCell (World.setCell (World.setCell W14 ⟨p + 1, 0, none⟩ (.int .i64 0)) ⟨p + 1, 1, none⟩ (.int .i64 0)) ⟨p + 1, 2, none⟩ (.int .i64 0)) ⟨p + 1, 3, none⟩ (.int .i64 0)) ⟨p + 1, 4, none⟩ (.int .i64 0)) = W18 at hs18 hn18 hO18 ⊢
    clear z0 z1 z2 z3 z4 q0 q1 q2 q3 q4 hk18 hB18 hN18 hO17
    obtain ⟨v0, v1, v2, v3, v4, _⟩ := arp_cells (w := W18) (b := p + 1) (a := ⟨0, 0, 0, 0, 0⟩) hs18
    clear hs18
    have e1 := HSE.out
    have e2 := HSL.out
    subst e2
    subst e1
    refine bodyPost_ret (v := .tuple #[.agg (arpCells ⟨0, 0, 0, 0, 0⟩), .slice none 0 0, .int .i64 0, .int .i64 0]) (by simp [results, Try.results9, go_sem, v0, v1, v2, v3, v4, arpCells]) rfl ⟨rfl, hn18, hO18⟩

end Go.Proofs.Ythgkdfllddljcaa

/-
  The contracts of Send of package neigh, at a packet as the laws have it, where it waits as the first one for its neighbour.
  Conditions: numbers are of the kind int, the cache's own in their bounds; the cache has the address 10.
-/
import Derived.Test.YthgkdfllddljcaaNeiPut
import Derived.Test.YthgkdfllddljcaaNeiAsk
import Derived.Test.YthgkdfllddljcaaNeiWait
import Derived.Test.YthgkdfllddljcaaNeiCheck
import Derived.Test.YthgkdfllddljcaaPhasedK
set_option linter.unusedVariables false
set_option linter.unusedSimpArgs false
set_option maxRecDepth 100000
namespace Go.Proofs.Ythgkdfllddljcaa
open Go.RowKit

def ssPh (W1 : World) (ws : Value) (a : Bool) (w : World) : Prop := (a = false → Only (fun _ => False) W1 w) ∧ Only (fun k => some k = ws.ownBlock) W1 w
def ssSt (ws : Value) (i : Nat) (k : Nat) : Prop := i = 7 ∧ some k = ws.ownBlock

theorem pk_cells {w : World} {z : Nat} {to i : Int} (h : w.heap[z]? = some (.cells #[.int .i64 10, .int .i64 to, .int .i64 9, .int .i64 0, .int .i64 i, .int .i64 0, .bool false, .bool false, .string ⟨#[]⟩, .string ⟨#[]⟩] 47 (0, 0))) : ∀ j u, (pk to i)[j]? = some u → w.cell? ((⟨z, 0, none⟩ : Addr).add j) = some u := by
  intro j u hj
  have h1 := blk_cell h j
  have e : ((⟨z, 0, none⟩ : Addr).add j) = ⟨z, j, none⟩ := by unfold Addr.add; simp; exact fun h => h.symm
  rw [e, h1]
  simpa [pk] using hj
theorem pk_one (to i : Int) : ∀ u ∈ pk to i, u.oneCell' = true := by
  intro u hu
  simp only [pk, List.mem_cons, List.not_mem_nil, or_false] at hu
  rcases hu with rfl | rfl | rfl | rfl | rfl | rfl | rfl | rfl | rfl | rfl <;> rfl

def sfG (W : World) (g c d : Nat) (s : NS) : Nat → Value → World → Prop
  | 0, v, w' => v = .pointer (some ⟨g, 0, none⟩)
  | 1, v, w' => v = .int .i64 (s.waiting : Nat)
  | 2, v, w' => v = .pointer (some ⟨g, 0, none⟩)
  | 3, v, w' => v = .pointer (some ⟨g, 0, none⟩)
  | 4, v, w' => v = .pointer (some ⟨g, 0, none⟩)
  | 5, v, w' => v = .pointer (some ⟨g, 4, none⟩)
  | 6, v, w' => v = .int .i64 s.waits
  | 7, v, w' => v = .bool false
  | _, _, _ => True
def sfDs : List Nat := [39, 40, 41, 42, 43, 44, 45, 46]
def sfNeed : List (List Nat) := [[], [0], [], [2], [3], [4], [5], [1, 6]]
def sfGs : List (Option Bool) := []
theorem sfG.keep {W : World} {g c d : Nat} {s : NS} : ∀ jx v w w', sfG W g c d s jx v w → Only (fun _ => False) w w' → sfG W g c d s jx v w' := by
  intro jx v w w' h hO
  match jx with
  | 0 => exact h
  | 1 => exact h
  | 2 => exact h
  | 3 => exact h
  | 4 => exact h
  | 5 => exact h
  | 6 => exact h
  | 7 => exact h
  | n + 8 => trivial
theorem sfG.guard {W : World} {g c d : Nat} {s : NS} : ∀ g' b', sfGs.getD g' none = some b' → ∀ v w, sfG W g c d s g' v w → v = .bool b' := by
  intro g' b' hbb v w hgg
  match g', hbb, hgg with
  | n' + 0, hbb, hgg => exact absurd hbb (by simp [sfGs])
def stG (W : World) (g c d : Nat) (s : NS) : Nat → Value → World → Prop
  | 0, v, w' => v = .pointer (some ⟨g, 0, none⟩)
  | 1, v, w' => v = .int .i64 (s.waiting : Nat)
  | 2, v, w' => v = .pointer (some ⟨g, 0, none⟩)
  | 3, v, w' => v = .pointer (some ⟨g, 0, none⟩)
  | 4, v, w' => v = .pointer (some ⟨g, 0, none⟩)
  | 5, v, w' => v = .pointer (some ⟨g, 4, none⟩)
  | 6, v, w' => v = .int .i64 s.waits
  | 7, v, w' => v = .bool true
  | _, _, _ => True
def stDs : List Nat := [39, 40, 41, 42, 43, 44, 45, 46]
def stNeed : List (List Nat) := [[], [0], [], [2], [3], [4], [5], [1, 6]]
def stGs : List (Option Bool) := []
theorem stG.keep {W : World} {g c d : Nat} {s : NS} : ∀ jx v w w', stG W g c d s jx v w → Only (fun _ => False) w w' → stG W g c d s jx v w' := by
  intro jx v w w' h hO
  match jx with
  | 0 => exact h
  | 1 => exact h
  | 2 => exact h
  | 3 => exact h
  | 4 => exact h
  | 5 => exact h
  | 6 => exact h
  | 7 => exact h
  | n + 8 => trivial
theorem stG.guard {W : World} {g c d : Nat} {s : NS} : ∀ g' b', stGs.getD g' none = some b' → ∀ v w, stG W g c d s g' v w → v = .bool b' := by
  intro g' b' hbb v w hgg
  match g', hbb, hgg with
  | n' + 0, hbb, hgg => exact absurd hbb (by simp [stGs])
def saG (W1 : World) (ab p n : Nat) (ws : Value) (xs : List Value) (to i : Int) (L : Nat → Bool) : Nat → Value → World → Prop
  | 0, v, w' => v = .pointer (some ⟨ab, 0, none⟩)
  | 1, v, w' => v = .pointer (some ⟨ab, 0, none⟩)
  | 2, v, w' => v = .pointer (some ⟨ab, 0, none⟩)
  | 3, v, w' => v = .pointer (some ⟨ab, 2, none⟩)
  | 4, v, w' => v = ws
  | 5, v, w' => v = .agg #[.int .i64 10, .int .i64 to, .int .i64 9, .int .i64 0, .int .i64 i, .int .i64 0, .bool false, .bool false, .string ⟨#[]⟩, .string ⟨#[]⟩]
  | 6, v, w' => ∃ z, v = .slice (some ⟨z, 0, none⟩) 1 1 ∧ (L 7 = false → w'.heap[z]? = some (.cells #[.int .i64 10, .int .i64 to, .int .i64 9, .int .i64 0, .int .i64 i, .int .i64 0, .bool false, .bool false, .string ⟨#[]⟩, .string ⟨#[]⟩] 47 (0, 0)))
  | 7, v, w' => w'.ownsRow 0 47 10 (v) (n + 1) (xs ++ pk to i) ∧ (∀ b, (v).ownBlock = some b → ws.ownBlock = some b ∨ W1.heap.size ≤ b)
  | 8, v, w' => v = .pointer (some ⟨ab, 0, none⟩)
  | 9, v, w' => v = .pointer (some ⟨ab, 2, none⟩)
  | _, _, _ => True
def saDs : List Nat := [68, 69, 70, 71, 72, 73, 74, 75, 76, 77]
def saNeed : List (List Nat) := [[], [], [1], [2], [3], [], [5], [4, 6], [0], [8]]
def saGs : List (Option Bool) := []
def saLate : List (List Nat) := [[], [7], [7], [7], [7], [7], [7], [], [], []]
def saEarly : List (List Nat) := [[], [], [], [], [], [], [], [], [], []]
theorem saG.keep {W1 : World} {ab p n : Nat} {ws : Value} {xs : List Value} {to i : Int} : ∀ L i' jx v w w', i' ≠ jx → L i' = false → L jx = true → saG W1 ab p n ws xs to i L jx v w → Only (ssSt ws i') w w' → saG W1 ab p n ws xs to i (upd L i') jx v w' := by
  intro L i' jx v w w' hij hLi hLj h hO
  match jx, hij, hLj, h with
  | 0, hij, hLj, h => exact h
  | 1, hij, hLj, h => exact h
  | 2, hij, hLj, h => exact h
  | 3, hij, hLj, h => exact h
  | 4, hij, hLj, h => exact h
  | 5, hij, hLj, h => exact h
  | 6, hij, hLj, h => exact (by
    obtain ⟨z, e1, e3⟩ := h
    refine ⟨z, e1, fun hL => ?_⟩
    have hi : i' ≠ 7 := fun e => by subst e; simp [upd] at hL
    have hL' : L 7 = false := by unfold upd at hL; rwa [if_neg (fun e => hi e.symm)] at hL
    exact hO.at (e3 hL') (fun e => hi e.1))
  | 7, hij, hLj, h => exact (by
    obtain ⟨e1, e2⟩ := h
    exact ⟨row_only e1 (hO.mono (S' := fun _ => False) (fun _ _ e => hij e.1)) (fun _ _ h => h), e2⟩)
  | 8, hij, hLj, h => exact h
  | 9, hij, hLj, h => exact h
  | n + 10, hij, hLj, h => trivial
theorem saG.guard {W1 : World} {ab p n : Nat} {ws : Value} {xs : List Value} {to i : Int} : ∀ g' b', saGs.getD g' none = some b' → ∀ L v w, saG W1 ab p n ws xs to i L g' v w → v = .bool b' := by
  intro g' b' hbb L v w hgg
  match g', hbb, hgg with
  | n' + 0, hbb, hgg => exact absurd hbb (by simp [saGs])

set_option maxHeartbeats 4000000 in
/-- The first packet that waits for a neighbour. -/
theorem send_first (w : World) (g c d : Nat) (s0 : NS) (to i now : Int) (hN : NAt w g c d s0) (hOk : NOk { s0 with now := now }) (hm : s0.mine = true)
    (ht : 0 ≤ to ∧ to < 4294967296) (hi : 0 ≤ i ∧ i ≤ 65535) (h0 : s0.now ≤ now) (h1 : now ≤ 1099511627776)
    (hf : ({ s0 with now := now } : NS).find to now = none) (hw : (s0.waiting : Int) < s0.waits) (hle : s0.waiting ≤ 1099511627776) (ha : s0.A.find? (fun p => p.1 == to) = none) :
    Calls Try.prog 15 #[.pointer (some ⟨g, 0, none⟩), .agg (pk to i).toArray, .int .i64 to, .int .i64 now] w fun e w' => ∃ blk ws, e = .returned (.tuple #[.int .i64 0, .agg (arpCells (amade 1 s0.mac 10 0 to)), .int .i64 110]) ∧
      NAt w' g c d { s0 with now := now, A := s0.A ++ [(to, ⟨blk, now, false, ws, [i]⟩)] } ∧ w.heap.size ≤ blk ∧ (∀ b, ws.ownBlock = some b → w.heap.size ≤ b) ∧ Only (NFoot g c d s0) w w' := by
  have hp0 := blk_new2 w (.cells #[.int .i64 10, .int .i64 to, .int .i64 9, .int .i64 0, .int .i64 i, .int .i64 0, .bool false, .bool false, .string ⟨#[]⟩, .string ⟨#[]⟩] 47) (.cells #[.int .i64 0, .int .i64 0, .int .i64 0, .int .i64 0, .int .i64 0] 31)
  have hpk := blk_alloc (blk_new w (.cells #[.int .i64 10, .int .i64 to, .int .i64 9, .int .i64 0, .int .i64 i, .int .i64 0, .bool false, .bool false, .string ⟨#[]⟩, .string ⟨#[]⟩] 47)) (.cells #[.int .i64 0, .int .i64 0, .int .i64 0, .int .i64 0, .int .i64 0] 31)
  have hO := ((Only.refl (fun _ => False) w).alloc (.cells #[.int .i64 10, .int .i64 to, .int .i64 9, .int .i64 0, .int .i64 i, .int .i64 0, .bool false, .bool false, .string ⟨#[]⟩, .string ⟨#[]⟩] 47)).alloc (.cells #[.int .i64 0, .int .i64 0, .int .i64 0, .int .i64 0, .int .i64 0] 31)
  have hgl := heap_lt hN.cell
  have hdl := hN.amap.lt
  have HS := Lib.hid (show ∀ o o', ((w.alloc o).alloc o').heap.size = w.heap.size + 1 + 1 from fun o o' => by rw [World.size_alloc, World.size_alloc])
  simp only [pk] at ⊢
  go_enter Try.func15, Try.ntmps15
  go_wp2_with fail
  generalize hP : w.heap.size = p at hp0 hpk hgl hdl HS ⊢
  have hs2 := HS.out (.cells #[.int .i64 10, .int .i64 to, .int .i64 9, .int .i64 0, .int .i64 i, .int .i64 0, .bool false, .bool false, .string ⟨#[]⟩, .string ⟨#[]⟩] 47) (.cells #[.int .i64 0, .int .i64 0, .int .i64 0, .int .i64 0, .int .i64 0] 31)
  generalize (w.alloc (.cells #[.int .i64 10, .int .i64 to, .int .i64 9, .int .i64 0, .int .i64 i, .int .i64 0, .bool false, .bool false, .string ⟨#[]⟩, .string ⟨#[]⟩] 47)).alloc (.cells #[.int .i64 0, .int .i64 0, .int .i64 0, .int .i64 0, .int .i64 0] 31) = w1 at hp0 hpk hO hs2 ⊢
  have HN := Lib.hid (hN.keep hO)
  have HOK := Lib.hid hOk
  have HF := Lib.hid hf
  have HA := Lib.hid ha
  have HM := Lib.hid hm
  have HT := Lib.hid ht
  have HI := Lib.hid hi
  have HP0 := Lib.hid hp0
  have HPK := Lib.hid hpk
  have HO := Lib.hid hO
  have HB := Lib.hid (show g < p ∧ d < p ∧ w.heap.size = p from ⟨hgl, hdl, hP⟩)
  have HH := Lib.hid (show s0.now ≤ now ∧ now ≤ 1099511627776 from ⟨h0, h1⟩)
  have HW := Lib.hid (show (s0.waiting : Int) < s0.waits ∧ s0.waiting ≤ 1099511627776 from ⟨hw, hle⟩)
  clear hN hOk hf ha hm ht hi hp0 hpk hO hgl hdl hP h0 h1 hw hle HS
  refine (icheck_any w1 to i ⟨HT.out.1, by have := HT.out.2; omega⟩ HI.out).mono ?_
  rintro e w2 ⟨rfl, hk2⟩
  go_wp2_with fail
  refine (scheck_ok to _ HT.out.1 HT.out.2).mono ?_
  rintro e _ ⟨rfl, rfl⟩
  go_wp2_with fail
  refine (tick_ok _ g c d s0 now (HN.out.keep hk2) HH.out.1 HH.out.2).mono ?_
  rintro e w3 ⟨rfl, hn3, hk3⟩
  have HN3 := Lib.hid hn3
  have HO3 := Lib.hid (show Only (fun k => k = g ∨ k = d) w w3 from ((HO.out.then hk2 (fun _ _ h => h)).mono (fun _ _ h => h.elim)).trans (hk3.mono (fun _ _ h => .inl h)))
  have HP3 := Lib.hid (hk3.at (hk2.at HP0.out (fun h => h)) (by have := HB.out; omega))
  have HK3 := Lib.hid (hk3.at (hk2.at HPK.out (fun h => h)) (by have := HB.out; omega))
  have HZ3 := Lib.hid (show p + 1 + 1 ≤ w3.heap.size by have := hk2.size; have := hk3.size; omega)
  clear hn3 hk2 hk3 hs2 HN HP0 HPK HO
  go_wp2_with fail
  refine (look_any _ g c d _ to now HN3.out HOK.out).mono ?_
  rintro e W ⟨rfl, hk4⟩
  rw [HF.out]
  simp only [Option.getD_none, Option.isSome_none]
  replace HN3 := Lib.hid (HN3.out.keep hk4)
  replace HO3 := Lib.hid (HO3.out.then hk4 (fun _ _ h => h.elim))
  replace HP3 := Lib.hid (hk4.at HP3.out (fun h => h))
  replace HK3 := Lib.hid (hk4.at HK3.out (fun h => h))
  replace HZ3 := Lib.hid (show p + 1 + 1 ≤ W.heap.size by have := hk4.size; have := HZ3.out; omega)
  clear hk4 w3 w2
  go_wp2_with fail
  obtain ⟨s, hs⟩ : ∃ s : NS, ({ s0 with now := now } : NS) = s := ⟨_, rfl⟩
  rw [hs] at HN3 HOK HF
  have HLE : Hid (s.waiting ≤ 1099511627776) := Lib.hid (by subst hs; exact HW.out.2)
  have HD : Hid (decide (s.waits ≤ (s.waiting : Int)) = false) := Lib.hid (by subst hs; have := HW.out.1; have e : NS.waiting { s0 with now := now } = s0.waiting := rfl; rw [e]; simpa using this)
  replace HM : Hid (s.mine = true) := Lib.hid (by subst hs; exact HM.out)
  replace HA : Hid (s.A.find? (fun p => p.1 == to) = none) := Lib.hid (by subst hs; exact HA.out)
  have HSE := Lib.hid hs
  clear hs
  refine wp_region_facts_tail 8 sfDs sfNeed sfGs (fun w' => NAt w' g c d s ∧ Only (fun _ => False) W w') (Only (fun _ => False)) (sfG W g c d s) rfl rfl (by kernel_rfl) (by kernel_rfl) (by kernel_rfl) (by kernel_rfl) (by kernel_rfl) ⟨HN3.out.keep ((Only.refl _ _).drew), (Only.refl _ _).drew⟩ sfG.keep sfG.guard ?_ ?_
  · refine And.intro ?op0 (And.intro ?op1 (And.intro ?op2 (And.intro ?op3 (And.intro ?op4 (And.intro ?op5 (And.intro ?op6 (And.intro ?op7 trivial)))))))
    case op0 =>
      intro ev w1 hT1 hc hf hfr hG
      rw [if_pos (by decide)]
      obtain ⟨hT, hO⟩ := hT1
      have h0 : ev (.tmp 0) = .pointer (some ⟨g, 0, none⟩) := hfr 0 (by decide)
      clear hG hfr
      refine OpSays.value (v := .pointer (some ⟨g, 0, none⟩)) (w' := w1) ?_ ⟨⟨hT, hO⟩, Only.refl _ _, rfl⟩
      go_simp
    case op1 =>
      intro ev w1 hT1 hc hf hfr hG
      rw [if_pos (by decide)]
      obtain ⟨hT, hO⟩ := hT1
      have hg : (ev (.tmp 39) = .pointer (some ⟨g, 0, none⟩)) ∧ True := hG
      obtain ⟨g0, _⟩ := hg
      clear hG hfr
      refine OpSays.enter (f := 31) (args := #[.pointer (some ⟨g, 0, none⟩)]) (w' := w1) ?_ ?_
      · go_simp
      · refine (waiting_any w1 g c d s hT HLE.out).mono ?_
        rintro e' w2 ⟨rfl, hk⟩
        exact ⟨_, rfl, ⟨hT.keep hk, hO.trans hk⟩, hk, rfl⟩
    case op2 =>
      intro ev w1 hT1 hc hf hfr hG
      rw [if_pos (by decide)]
      obtain ⟨hT, hO⟩ := hT1
      have h0 : ev (.tmp 0) = .pointer (some ⟨g, 0, none⟩) := hfr 0 (by decide)
      clear hG hfr
      refine OpSays.value (v := .pointer (some ⟨g, 0, none⟩)) (w' := w1) ?_ ⟨⟨hT, hO⟩, Only.refl _ _, rfl⟩
      go_simp
    case op3 =>
      intro ev w1 hT1 hc hf hfr hG
      rw [if_pos (by decide)]
      obtain ⟨hT, hO⟩ := hT1
      have hg : (ev (.tmp 41) = .pointer (some ⟨g, 0, none⟩)) ∧ True := hG
      obtain ⟨g2, _⟩ := hg
      clear hG hfr
      refine OpSays.value (v := .pointer (some ⟨g, 0, none⟩)) (w' := w1) ?_ ⟨⟨hT, hO⟩, Only.refl _ _, rfl⟩
      go_simp
    case op4 =>
      intro ev w1 hT1 hc hf hfr hG
      rw [if_pos (by decide)]
      obtain ⟨hT, hO⟩ := hT1
      have hg : (ev (.tmp 42) = .pointer (some ⟨g, 0, none⟩)) ∧ True := hG
      obtain ⟨g3, _⟩ := hg
      clear hG hfr
      refine OpSays.value (v := .pointer (some ⟨g, 0, none⟩)) (w' := w1) ?_ ⟨⟨hT, hO⟩, Only.refl _ _, rfl⟩
      go_simp
    case op5 =>
      intro ev w1 hT1 hc hf hfr hG
      rw [if_pos (by decide)]
      obtain ⟨hT, hO⟩ := hT1
      have hg : (ev (.tmp 43) = .pointer (some ⟨g, 0, none⟩)) ∧ True := hG
      obtain ⟨g4, _⟩ := hg
      clear hG hfr
      refine OpSays.value (v := .pointer (some ⟨g, 4, none⟩)) (w' := w1) ?_ ⟨⟨hT, hO⟩, Only.refl _ _, rfl⟩
      go_simp
    case op6 =>
      intro ev w1 hT1 hc hf hfr hG
      rw [if_pos (by decide)]
      obtain ⟨hT, hO⟩ := hT1
      have hg : (ev (.tmp 44) = .pointer (some ⟨g, 4, none⟩)) ∧ True := hG
      obtain ⟨g5, _⟩ := hg
      clear hG hfr
      have c := blk_cell hT.cell 4
      simp only [NS.cells, List.getElem?_toArray, List.getElem?_cons_zero, List.getElem?_cons_succ] at c
      refine OpSays.value (v := .int .i64 s.waits) (w' := w1) ?_ ⟨⟨hT, hO⟩, Only.refl _ _, rfl⟩
      go_simp
    case op7 =>
      intro ev w1 hT1 hc hf hfr hG
      rw [if_pos (by decide)]
      obtain ⟨hT, hO⟩ := hT1
      have hg : (ev (.tmp 40) = .int .i64 (s.waiting : Nat)) ∧ (ev (.tmp 45) = .int .i64 s.waits) ∧ True := hG
      obtain ⟨g1, g6, _⟩ := hg
      clear hG hfr
      have hd := HD.out
      refine OpSays.value (v := .bool false) (w' := w1) ?_ ⟨⟨hT, hO⟩, Only.refl _ _, rfl⟩
      go_simp
  rintro ⟨tm, df⟩ w4 ⟨hT, hO⟩ hsz hdf hfr hG
  have k0 : tm.getD 0 undef = .pointer (some ⟨g, 0, none⟩) := hfr 0 (by decide)
  have k2 : tm.getD 2 undef = .int .i64 to := hfr 2 (by decide)
  have k3 : tm.getD 3 undef = .int .i64 now := hfr 3 (by decide)
  have k5 : tm.getD 5 undef = .pointer (some ⟨p, 0, none⟩) := hfr 5 (by decide)
  have k9 : tm.getD 9 undef = .pointer (some ⟨p + 1, 0, none⟩) := hfr 9 (by decide)
  have k46 : tm.getD 46 undef = .bool false := AllG.get hG 7 (by decide)
  have he : tm = #[tm.getD 0 undef, tm.getD 1 undef, tm.getD 2 undef, tm.getD 3 undef, tm.getD 4 undef, tm.getD 5 undef, tm.getD 6 undef, tm.getD 7 undef, tm.getD 8 undef, tm.getD 9 undef, tm.getD 10 undef, tm.getD 11 undef, tm.getD 12 undef, tm.getD 13 undef, tm.getD 14 undef, tm.getD 15 undef, tm.getD 16 undef, tm.getD 17 undef, tm.getD 18 undef, tm.getD 19 undef, tm.getD 20 undef, tm.getD 21 undef, tm.getD 22 undef, tm.getD 23 undef, tm.getD 24 undef, tm.getD 25 undef, tm.getD 26 undef, tm.getD 27 undef, tm.getD 28 undef, tm.getD 29 undef, tm.getD 30 undef, tm.getD 31 undef, tm.getD 32 undef, tm.getD 33 undef, tm.getD 34 undef, tm.getD 35 undef, tm.getD 36 undef, tm.getD 37 undef, tm.getD 38 undef, tm.getD 39 undef, tm.getD 40 undef, tm.getD 41 undef, tm.getD 42 undef, tm.getD 43 undef, tm.getD 44 undef, tm.getD 45 undef, tm.getD 46 undef, tm.getD 47 undef, tm.getD 48 undef, tm.getD 49 undef, tm.getD 50 undef, tm.getD 51 undef, tm.getD 52 undef, tm.getD 53 undef, tm.getD 54 undef, tm.getD 55 undef, tm.getD 56 undef, tm.getD 57 undef, tm.getD 58 undef, tm.getD 59 undef, tm.getD 60 undef, tm.getD 61 undef, tm.getD 62 undef, tm.getD 63 undef, tm.getD 64 undef, tm.getD 65 undef, tm.getD 66 undef, tm.getD 67 undef, tm.getD 68 undef, tm.getD 69 undef, tm.getD 70 undef, tm.getD 71 undef, tm.getD 72 undef, tm.getD 73 undef, tm.getD 74 undef, tm.getD 75 undef, tm.getD 76 undef, tm.getD 77 undef, tm.getD 78 undef] := arr_eta (n := 79) hsz
  replace hdf : df = [] := hdf
  subst hdf
  clear hsz hfr hG
  rw [he, k0, k2, k3, k5, k9, k46]
  clear he k0 k2 k3 k5 k9 k46
  generalize tm.getD 1 undef = x1
  generalize tm.getD 4 undef = x4
  generalize tm.getD 6 undef = x6
  generalize tm.getD 7 undef = x7
  generalize tm.getD 8 undef = x8
  generalize tm.getD 10 undef = x10
  generalize tm.getD 11 undef = x11
  generalize tm.getD 12 undef = x12
  generalize tm.getD 13 undef = x13
  generalize tm.getD 14 undef = x14
  generalize tm.getD 15 undef = x15
  generalize tm.getD 16 undef = x16
  generalize tm.getD 17 undef = x17
  generalize tm.getD 18 undef = x18
  generalize tm.getD 19 undef = x19
  generalize tm.getD 20 undef = x20
  generalize tm.getD 21 undef = x21
  generalize tm.getD 22 undef = x22
  generalize tm.getD 23 undef = x23
  generalize tm.getD 24 undef = x24
  generalize tm.getD 25 undef = x25
  generalize tm.getD 26 undef = x26
  generalize tm.getD 27 undef = x27
  generalize tm.getD 28 undef = x28
  generalize tm.getD 29 undef = x29
  generalize tm.getD 30 undef = x30
  generalize tm.getD 31 undef = x31
  generalize tm.getD 32 undef = x32
  generalize tm.getD 33 undef = x33
  generalize tm.getD 34 undef = x34
  generalize tm.getD 35 undef = x35
  generalize tm.getD 36 undef = x36
  generalize tm.getD 37 undef = x37
  generalize tm.getD 38 undef = x38
  generalize tm.getD 39 undef = x39
  generalize tm.getD 40 undef = x40
  generalize tm.getD 41 undef = x41
  generalize tm.getD 42 undef = x42
  generalize tm.getD 43 undef = x43
  generalize tm.getD 44 undef = x44
  generalize tm.getD 45 undef = x45
  generalize tm.getD 47 undef = x47
  generalize tm.getD 48 undef = x48
  generalize tm.getD 49 undef = x49
  generalize tm.getD 50 undef = x50
  generalize tm.getD 51 undef = x51
  generalize tm.getD 52 undef = x52
  generalize tm.getD 53 undef = x53
  generalize tm.getD 54 undef = x54
  generalize tm.getD 55 undef = x55
  generalize tm.getD 56 undef = x56
  generalize tm.getD 57 undef = x57
  generalize tm.getD 58 undef = x58
  generalize tm.getD 59 undef = x59
  generalize tm.getD 60 undef = x60
  generalize tm.getD 61 undef = x61
  generalize tm.getD 62 undef = x62
  generalize tm.getD 63 undef = x63
  generalize tm.getD 64 undef = x64
  generalize tm.getD 65 undef = x65
  generalize tm.getD 66 undef = x66
  generalize tm.getD 67 undef = x67
  generalize tm.getD 68 undef = x68
  generalize tm.getD 69 undef = x69
  generalize tm.getD 70 undef = x70
  generalize tm.getD 71 undef = x71
  generalize tm.getD 72 undef = x72
  generalize tm.getD 73 undef = x73
  generalize tm.getD 74 undef = x74
  generalize tm.getD 75 undef = x75
  generalize tm.getD 76 undef = x76
  generalize tm.getD 77 undef = x77
  generalize tm.getD 78 undef = x78
  have HN4 := Lib.hid hT
  have HO4 := Lib.hid hO
  have x8 := blk_cell hT.cell 8
  simp only [NS.cells, List.getElem?_toArray, List.getElem?_cons_zero, List.getElem?_cons_succ] at x8
  have hm4 := hT.amap
  have hg4 : getI (encW s.A) to = none := by rw [getI_encW, HA.out]; rfl
  clear hT hO
  have hk5 := (Only.refl (fun _ => False) w4).alloc (.cells #[.int .i64 now, .bool false, .slice none 0 0] 71)
  have y8 := cell_only hk5 (fun h => h) x8
  have hm5 := hm4.only hk5 (fun h => h)
  have HK5 := Lib.hid hk5
  clear hk5
  go_wp2_with (first
    | (at_lookup; refine wpList_look_I _ rfl _ _ 61 false rfl 3 69 und_amap und_int _ (zero_pasked _) d _ rfl hm4 _ rfl ?_; rw [hg4]; simp only [Option.getD_none, Bool.false_eq_true, if_false])
    | (at_mapUpdate; refine wpList_put_I _ rfl _ _ _ 61 rfl 3 69 und_amap und_int d _ rfl hm5 _ (.pointer (some ⟨w4.heap.size, 0, none⟩)) rfl rfl ?_; intro w5 hmp hkp hzp))
  have hput : putI (encW s.A) to (.pointer (some ⟨w4.heap.size, 0, none⟩)) = encW (s.A ++ [(to, ⟨w4.heap.size, now, false, .slice none 0 0, []⟩)]) := by
    unfold putI
    rw [hg4]
    simp [encW]
  rw [hput] at hmp
  have hab : (w4.alloc (.cells #[.int .i64 now, .bool false, .slice none 0 0] 71)).heap[w4.heap.size]? = some (.cells #[.int .i64 now, .bool false, .slice none 0 0] 71 (0, 0)) := blk_new w4 _
  have hn5 : NAt w5 g c d { s with A := s.A ++ [(to, ⟨w4.heap.size, now, false, .slice none 0 0, []⟩)] } :=
    (HN4.out.keep HK5.out).more hkp hmp hab (fun q hq e => by
      have := heap_lt (HN4.out.ask q hq)
      rw [e] at this
      exact Nat.lt_irrefl _ this) rfl rfl
  have hO5 : Only (fun k => k = d) W w5 := ((HO4.out.trans HK5.out).mono (fun _ _ h => h.elim)).trans hkp
  have hab5 := hkp.at hab (by have := hm4.lt; omega)
  have hsz5 : W.heap.size ≤ w4.heap.size ∧ w4.heap.size < w5.heap.size := ⟨HO4.out.size, by rw [hzp, World.size_alloc]; omega⟩
  generalize w4.heap.size = ab at *
  have HN5 := Lib.hid hn5
  have HO5 := Lib.hid hO5
  have HAB := Lib.hid hab5
  have HZ5 := Lib.hid hsz5
  clear hn5 hO5 hab5 hab hput hmp hkp hzp hm4 hm5 hg4 x8 y8 HK5 HO4 HN4 hsz5
  go_wp2_with fail
  refine (nask_any w5 g c d _ to HN5.out HM.out).mono ?_
  rintro e w6 ⟨rfl, hk6⟩
  have HN6 := Lib.hid (HN5.out.keep hk6)
  have HO6 := Lib.hid (HO5.out.then hk6 (fun _ _ h => h.elim))
  have HAB6 := Lib.hid (hk6.at HAB.out (fun h => h))
  have HZ6 := Lib.hid (show W.heap.size ≤ ab ∧ ab < w6.heap.size by have := HZ5.out; have := hk6.size; omega)
  have hp6 := HO6.out.at HP3.out (by have := HB.out; omega)
  have HK6 := Lib.hid (HO6.out.at HK3.out (by have := HB.out; omega))
  clear HN5 HO5 HAB HZ5 hk6
  obtain ⟨z0, z1, z2, z3, z4, q0, q1, q2, q3, q4⟩ := arp_cells (a := ⟨0, 0, 0, 0, 0⟩) hp6
  simp only [arpCells]
  have hmac : s.mac = s0.mac := by have := HSE.out; rw [← this]
  generalize hr : amade 1 s.mac 10 0 to = r
  go_wp2_with fail
  have hs6 := arp_set (x := ⟨0, 0, 0, 0, 0⟩) hp6 r
  have hk7 := arp_set_only w6 (p + 1) r
  have hn6 := HN6.out
  have hn7 := hn6.arp hp6 hk7
  have hO7 := ((HO3.out.trans (HO6.out.mono (fun _ _ h => .inr h))).mono (S' := NFoot g c d s0) (fun k _ h => h.elim (fun e => .inl e) (fun e => .inr (.inr (.inl e))))).then hk7 (fun b hb e => by have := HB.out; omega)
  have hab7 := hk7.at HAB6.out (by have := HZ6.out; have := HZ3.out; omega)
  have hpk7 := hk7.at HK6.out (by omega)
  have hsz7 := hk7.size
  generalize (World.setCell (World.setCell (World.setCell (World.setCell (World.setCell w6 ⟨p + 1, 0, none⟩ (.int .i64 r.op)) ⟨p + 1, 1, none⟩ (.int .i64 r.fm)) ⟨p + 1, 2, none⟩ (.int .i64 r.fi)) ⟨p + 1, 3, none⟩ (.int .i64 r.tm)) ⟨p + 1, 4, none⟩ (.int .i64 r.ti)) = W1 at hs6 hn7 hO7 hab7 hpk7 hsz7 ⊢
  obtain ⟨x, hx⟩ : ∃ x : Asked, (⟨ab, now, false, .slice none 0 0, []⟩ : Asked) = x := ⟨_, rfl⟩
  obtain ⟨sx, hsx⟩ : ∃ sx : NS, ({ s with A := s.A ++ [(to, ⟨ab, now, false, .slice none 0 0, []⟩)] } : NS) = sx := ⟨_, rfl⟩
  rw [hsx] at hn7
  have HSX := Lib.hid hsx
  have HXX := Lib.hid hx
  obtain ⟨ws, hws⟩ : ∃ ws, x.ws = ws := ⟨_, rfl⟩
  obtain ⟨n, hn⟩ : ∃ n, x.L.length = n := ⟨_, rfl⟩
  obtain ⟨xs, hxs⟩ : ∃ xs, pks to x.L = xs := ⟨_, rfl⟩
  obtain ⟨at_, hat⟩ : ∃ a, x.at_ = a := ⟨_, rfl⟩
  obtain ⟨tw, htw⟩ : ∃ a, x.twice = a := ⟨_, rfl⟩
  have hxb : x.blk = ab := by rw [← hx]
  have hX : (to, x) ∈ sx.A := by rw [← hsx, ← hx]; simp
  have HN := Lib.hid hn7
  have HX := Lib.hid hX
  have HAB : Hid (W1.heap[ab]? = some (.cells #[.int .i64 at_, .bool tw, ws] 71 (0, 0))) := Lib.hid (by have := hn7.ask _ hX; rw [← hat, ← htw, ← hws, ← hxb]; exact this)
  have HROW : Hid (W1.ownsRow 0 47 10 ws n xs) := Lib.hid (by have := hn7.row _ hX; rw [← hws, ← hn, ← hxs]; exact this)
  have HP := Lib.hid hs6
  have HPK := Lib.hid hpk7
  have HO7 := Lib.hid hO7
  have HSZ := Lib.hid hsz7
  have HLN : Hid (n + 1 ≤ 1000000) := Lib.hid (by rw [← hn, ← hx]; show 0 + 1 ≤ 1000000; decide)
  have HE := Lib.hid (show x.ws = ws ∧ x.L.length = n ∧ pks to x.L = xs ∧ x.at_ = at_ ∧ x.twice = tw ∧ x.blk = ab from ⟨hws, hn, hxs, hat, htw, hxb⟩)
  have HFT : Hid (∀ b, b < w.heap.size → (b = ab ∨ some b = ws.ownBlock) → NFoot g c d s0 b) := Lib.hid (fun b hb e => by
    rcases e with e | e
    · have := HZ6.out; have := HZ3.out; have := HB.out; omega
    · rw [← hws, ← hx] at e; cases e)
  clear hn6 hn7 hO7 hab7 hpk7 hs6 hk7 hx hsx hws hn hxs hat htw hxb hX hp6 z0 z1 z2 z3 z4 q0 q1 q2 q3 q4 HAB6 HK6 HN6 HO6 HP3 HK3 HN3
  have HNE := Lib.hid (show ∀ b, ws.ownBlock = some b → b ≠ p + 1 ∧ b ≠ ab from fun b hb => by
    obtain ⟨cur, h3⟩ := row_blk HROW.out hb
    exact ⟨cells_ne h3 HP.out (by decide), cells_ne h3 HAB.out (by decide)⟩)
  have HT18 := Lib.hid (show ssPh W1 ws false W1.drew from ⟨fun _ => (Only.refl _ _).drew, (Only.refl _ _).drew⟩)
  refine wp_region_phasedk_tail 10 saDs saNeed saGs saLate saEarly (fun L w' => ssPh W1 ws (L 7) w') (fun i w w' => Only (ssSt ws i) w w') (saG W1 ab p n ws xs to i) rfl rfl (by kernel_rfl) (by kernel_rfl) (by kernel_rfl) (by kernel_rfl) (by kernel_rfl) (by kernel_rfl) HT18.out saG.keep saG.guard (fun _ _ => Only.refl _ _) ?_ ?_
  · refine And.intro ?op0 (And.intro ?op1 (And.intro ?op2 (And.intro ?op3 (And.intro ?op4 (And.intro ?op5 (And.intro ?op6 (And.intro ?op7 (And.intro ?op8 (And.intro ?op9 trivial)))))))))
    case op0 =>
      intro L ev w1 hLi hlate hearly hT1 hc hf hfr hG
      rw [if_pos (by decide)]
      have hP : ssPh W1 ws (L 7) w1 := hT1
      have h13 : ev (.tmp 13) = .pointer (some ⟨ab, 0, none⟩) := hfr 13 (by decide)
      clear hG hfr
      refine OpSays.value (v := .pointer (some ⟨ab, 0, none⟩)) (w' := w1) ?_ ⟨hT1, Only.refl _ _, rfl⟩
      go_simp
    case op1 =>
      intro L ev w1 hLi hlate hearly hT1 hc hf hfr hG
      rw [if_pos (by decide)]
      have hP : ssPh W1 ws (L 7) w1 := hT1
      obtain ⟨hl7, _⟩ := hlate
      rw [hl7] at hP
      have h13 : ev (.tmp 13) = .pointer (some ⟨ab, 0, none⟩) := hfr 13 (by decide)
      clear hG hfr
      refine OpSays.value (v := .pointer (some ⟨ab, 0, none⟩)) (w' := w1) ?_ ⟨hT1, Only.refl _ _, rfl⟩
      go_simp
    case op2 =>
      intro L ev w1 hLi hlate hearly hT1 hc hf hfr hG
      rw [if_pos (by decide)]
      have hP : ssPh W1 ws (L 7) w1 := hT1
      obtain ⟨hl7, _⟩ := hlate
      rw [hl7] at hP
      have hg : (ev (.tmp 69) = .pointer (some ⟨ab, 0, none⟩)) ∧ True := hG
      obtain ⟨g1, _⟩ := hg
      clear hG hfr
      refine OpSays.value (v := .pointer (some ⟨ab, 0, none⟩)) (w' := w1) ?_ ⟨hT1, Only.refl _ _, rfl⟩
      go_simp
    case op3 =>
      intro L ev w1 hLi hlate hearly hT1 hc hf hfr hG
      rw [if_pos (by decide)]
      have hP : ssPh W1 ws (L 7) w1 := hT1
      obtain ⟨hl7, _⟩ := hlate
      rw [hl7] at hP
      have hg : (ev (.tmp 70) = .pointer (some ⟨ab, 0, none⟩)) ∧ True := hG
      obtain ⟨g2, _⟩ := hg
      clear hG hfr
      refine OpSays.value (v := .pointer (some ⟨ab, 2, none⟩)) (w' := w1) ?_ ⟨hT1, Only.refl _ _, rfl⟩
      go_simp
    case op4 =>
      intro L ev w1 hLi hlate hearly hT1 hc hf hfr hG
      rw [if_pos (by decide)]
      have hP : ssPh W1 ws (L 7) w1 := hT1
      obtain ⟨hl7, _⟩ := hlate
      rw [hl7] at hP
      have hg : (ev (.tmp 71) = .pointer (some ⟨ab, 2, none⟩)) ∧ True := hG
      obtain ⟨g3, _⟩ := hg
      clear hG hfr
      have c : w1.cell? ⟨ab, 2, none⟩ = some ws := (blk_cell ((hP.1 rfl).at HAB.out (fun h => h)) 2).trans rfl
      refine OpSays.value (v := ws) (w' := w1) ?_ ⟨hT1, Only.refl _ _, rfl⟩
      go_simp
    case op5 =>
      intro L ev w1 hLi hlate hearly hT1 hc hf hfr hG
      rw [if_pos (by decide)]
      have hP : ssPh W1 ws (L 7) w1 := hT1
      obtain ⟨hl7, _⟩ := hlate
      rw [hl7] at hP
      have h5 : ev (.tmp 5) = .pointer (some ⟨p, 0, none⟩) := hfr 5 (by decide)
      clear hG hfr
      have hpb := (hP.1 rfl).at HPK.out (fun h => h)
      have c0 := blk_cell hpb 0
      have c1 := blk_cell hpb 1
      have c2 := blk_cell hpb 2
      have c3 := blk_cell hpb 3
      have c4 := blk_cell hpb 4
      have c5 := blk_cell hpb 5
      have c6 := blk_cell hpb 6
      have c7 := blk_cell hpb 7
      have c8 := blk_cell hpb 8
      have c9 := blk_cell hpb 9
      simp only [List.getElem?_toArray, List.getElem?_cons_zero, List.getElem?_cons_succ] at c0 c1 c2 c3 c4 c5 c6 c7 c8 c9
      refine OpSays.value (v := .agg #[.int .i64 10, .int .i64 to, .int .i64 9, .int .i64 0, .int .i64 i, .int .i64 0, .bool false, .bool false, .string ⟨#[]⟩, .string ⟨#[]⟩]) (w' := w1) ?_ ⟨hT1, Only.refl _ _, rfl⟩
      go_simp
    case op6 =>
      intro L ev w1 hLi hlate hearly hT1 hc hf hfr hG
      rw [if_pos (by decide)]
      have hP : ssPh W1 ws (L 7) w1 := hT1
      obtain ⟨hl7, _⟩ := hlate
      rw [hl7] at hP
      change OpSays _ _ _ _ (fun v w' => ssPh W1 ws (L 7) w' ∧ _ ∧ _)
      rw [hl7]
      have hg : (ev (.tmp 73) = .agg #[.int .i64 10, .int .i64 to, .int .i64 9, .int .i64 0, .int .i64 i, .int .i64 0, .bool false, .bool false, .string ⟨#[]⟩, .string ⟨#[]⟩]) ∧ True := hG
      obtain ⟨g5, _⟩ := hg
      clear hG hfr
      have hk := (Only.refl (fun _ => False) w1).alloc (.cells #[.int .i64 10, .int .i64 to, .int .i64 9, .int .i64 0, .int .i64 i, .int .i64 0, .bool false, .bool false, .string ⟨#[]⟩, .string ⟨#[]⟩] 47)
      refine OpSays.value (v := .slice (some ⟨w1.heap.size, 0, none⟩) 1 1) (w' := w1.alloc (.cells #[.int .i64 10, .int .i64 to, .int .i64 9, .int .i64 0, .int .i64 i, .int .i64 0, .bool false, .bool false, .string ⟨#[]⟩, .string ⟨#[]⟩] 47)) ?_ ⟨⟨fun _ => (hP.1 rfl).trans hk, hP.2.then hk (fun _ _ h => h.elim)⟩, hk.mono (fun _ _ h => h.elim), w1.heap.size, rfl, fun _ => blk_new w1 _⟩
      go_simp
    case op7 =>
      intro L ev w1 hLi hlate hearly hT1 hc hf hfr hG
      rw [if_pos (by decide)]
      have hP : ssPh W1 ws (L 7) w1 := hT1
      rw [hLi] at hP
      change OpSays _ _ _ _ (fun v w' => ssPh W1 ws (true) w' ∧ _ ∧ _)
      have hg : (ev (.tmp 72) = ws) ∧ (∃ z, ev (.tmp 74) = .slice (some ⟨z, 0, none⟩) 1 1 ∧ (L 7 = false → w1.heap[z]? = some (.cells #[.int .i64 10, .int .i64 to, .int .i64 9, .int .i64 0, .int .i64 i, .int .i64 0, .bool false, .bool false, .string ⟨#[]⟩, .string ⟨#[]⟩] 47 (0, 0)))) ∧ True := hG
      obtain ⟨g4, g6, _⟩ := hg
      clear hG hfr
      obtain ⟨z, g6, hz⟩ := g6
      have hzz := hz hLi
      have hrow := row_only HROW.out (hP.1 rfl) (fun _ _ h => h)
      obtain ⟨v2, w2, hr, h1, h2, h3⟩ := append_pk w1 32 0 ws n xs hrow ⟨z, 0, none⟩ 1 1 (pk to i) rfl (pk_cells hzz) (pk_one to i) (Nat.zero_le _) (by have := HLN.out; omega)
      refine OpSays.value (v := v2) (w' := w2) ?_ ⟨⟨fun e => (by cases e), hP.2.trans (Only.of_grown h2)⟩, (Only.of_grown h2).mono (fun _ _ e => ⟨rfl, e⟩), h1, fun b hb => (h3 b hb).imp id (fun h => by have := (hP.1 rfl).size; omega)⟩
      unfold execOp
      simp only [resolve, invoke, builtin, Sem.run_bind, Sem.run_pure, Result.andThen_ok, List.map_toArray, List.map_cons, List.map_nil, g4, g6, hr]
    case op8 =>
      intro L ev w1 hLi hlate hearly hT1 hc hf hfr hG
      rw [if_pos (by decide)]
      have hP : ssPh W1 ws (L 7) w1 := hT1
      have hg : (ev (.tmp 68) = .pointer (some ⟨ab, 0, none⟩)) ∧ True := hG
      obtain ⟨g0, _⟩ := hg
      clear hG hfr
      refine OpSays.value (v := .pointer (some ⟨ab, 0, none⟩)) (w' := w1) ?_ ⟨hT1, Only.refl _ _, rfl⟩
      go_simp
    case op9 =>
      intro L ev w1 hLi hlate hearly hT1 hc hf hfr hG
      rw [if_pos (by decide)]
      have hP : ssPh W1 ws (L 7) w1 := hT1
      have hg : (ev (.tmp 76) = .pointer (some ⟨ab, 0, none⟩)) ∧ True := hG
      obtain ⟨g8, _⟩ := hg
      clear hG hfr
      refine OpSays.value (v := .pointer (some ⟨ab, 2, none⟩)) (w' := w1) ?_ ⟨hT1, Only.refl _ _, rfl⟩
      go_simp
  rintro L ⟨tm, df⟩ we hL hT1 hsz hdf hfr hG
  have hPE : ssPh W1 ws (true) we := by
    have hP : ssPh W1 ws (L 7) we := hT1
    have hm := fun k (hk : k ∈ List.range 10) => AllB.get hL k hk
    rw [hm 7 (by decide)] at hP
    exact hP
  clear hT1 hL
  have k5 : tm.getD 5 undef = .pointer (some ⟨p, 0, none⟩) := hfr 5 (by decide)
  have k9 : tm.getD 9 undef = .pointer (some ⟨p + 1, 0, none⟩) := hfr 9 (by decide)
  have k77 : tm.getD 77 undef = .pointer (some ⟨ab, 2, none⟩) := AllG.get hG 9 (by decide)
  obtain ⟨hrow5, hob⟩ : we.ownsRow 0 47 10 (tm.getD 75 undef) (n + 1) (xs ++ pk to i) ∧ (∀ b, (tm.getD 75 undef).ownBlock = some b → ws.ownBlock = some b ∨ W1.heap.size ≤ b) := AllG.get hG 7 (by decide)
  have he : tm = #[tm.getD 0 undef, tm.getD 1 undef, tm.getD 2 undef, tm.getD 3 undef, tm.getD 4 undef, tm.getD 5 undef, tm.getD 6 undef, tm.getD 7 undef, tm.getD 8 undef, tm.getD 9 undef, tm.getD 10 undef, tm.getD 11 undef, tm.getD 12 undef, tm.getD 13 undef, tm.getD 14 undef, tm.getD 15 undef, tm.getD 16 undef, tm.getD 17 undef, tm.getD 18 undef, tm.getD 19 undef, tm.getD 20 undef, tm.getD 21 undef, tm.getD 22 undef, tm.getD 23 undef, tm.getD 24 undef, tm.getD 25 undef, tm.getD 26 undef, tm.getD 27 undef, tm.getD 28 undef, tm.getD 29 undef, tm.getD 30 undef, tm.getD 31 undef, tm.getD 32 undef, tm.getD 33 undef, tm.getD 34 undef, tm.getD 35 undef, tm.getD 36 undef, tm.getD 37 undef, tm.getD 38 undef, tm.getD 39 undef, tm.getD 40 undef, tm.getD 41 undef, tm.getD 42 undef, tm.getD 43 undef, tm.getD 44 undef, tm.getD 45 undef, tm.getD 46 undef, tm.getD 47 undef, tm.getD 48 undef, tm.getD 49 undef, tm.getD 50 undef, tm.getD 51 undef, tm.getD 52 undef, tm.getD 53 undef, tm.getD 54 undef, tm.getD 55 undef, tm.getD 56 undef, tm.getD 57 undef, tm.getD 58 undef, tm.getD 59 undef, tm.getD 60 undef, tm.getD 61 undef, tm.getD 62 undef, tm.getD 63 undef, tm.getD 64 undef, tm.getD 65 undef, tm.getD 66 undef, tm.getD 67 undef, tm.getD 68 undef, tm.getD 69 undef, tm.getD 70 undef, tm.getD 71 undef, tm.getD 72 undef, tm.getD 73 undef, tm.getD 74 undef, tm.getD 75 undef, tm.getD 76 undef, tm.getD 77 undef, tm.getD 78 undef] := arr_eta (n := 79) hsz
  replace hdf : df = [] := hdf
  subst hdf
  clear hsz hfr hG
  rw [he, k5, k9, k77]
  clear he k5 k9 k77
  generalize tm.getD 0 undef = x0
  generalize tm.getD 1 undef = x1
  generalize tm.getD 2 undef = x2
  generalize tm.getD 3 undef = x3
  generalize tm.getD 4 undef = x4
  generalize tm.getD 6 undef = x6
  generalize tm.getD 7 undef = x7
  generalize tm.getD 8 undef = x8
  generalize tm.getD 10 undef = x10
  generalize tm.getD 11 undef = x11
  generalize tm.getD 12 undef = x12
  generalize tm.getD 13 undef = x13
  generalize tm.getD 14 undef = x14
  generalize tm.getD 15 undef = x15
  generalize tm.getD 16 undef = x16
  generalize tm.getD 17 undef = x17
  generalize tm.getD 18 undef = x18
  generalize tm.getD 19 undef = x19
  generalize tm.getD 20 undef = x20
  generalize tm.getD 21 undef = x21
  generalize tm.getD 22 undef = x22
  generalize tm.getD 23 undef = x23
  generalize tm.getD 24 undef = x24
  generalize tm.getD 25 undef = x25
  generalize tm.getD 26 undef = x26
  generalize tm.getD 27 undef = x27
  generalize tm.getD 28 undef = x28
  generalize tm.getD 29 undef = x29
  generalize tm.getD 30 undef = x30
  generalize tm.getD 31 undef = x31
  generalize tm.getD 32 undef = x32
  generalize tm.getD 33 undef = x33
  generalize tm.getD 34 undef = x34
  generalize tm.getD 35 undef = x35
  generalize tm.getD 36 undef = x36
  generalize tm.getD 37 undef = x37
  generalize tm.getD 38 undef = x38
  generalize tm.getD 39 undef = x39
  generalize tm.getD 40 undef = x40
  generalize tm.getD 41 undef = x41
  generalize tm.getD 42 undef = x42
  generalize tm.getD 43 undef = x43
  generalize tm.getD 44 undef = x44
  generalize tm.getD 45 undef = x45
  generalize tm.getD 46 undef = x46
  generalize tm.getD 47 undef = x47
  generalize tm.getD 48 undef = x48
  generalize tm.getD 49 undef = x49
  generalize tm.getD 50 undef = x50
  generalize tm.getD 51 undef = x51
  generalize tm.getD 52 undef = x52
  generalize tm.getD 53 undef = x53
  generalize tm.getD 54 undef = x54
  generalize tm.getD 55 undef = x55
  generalize tm.getD 56 undef = x56
  generalize tm.getD 57 undef = x57
  generalize tm.getD 58 undef = x58
  generalize tm.getD 59 undef = x59
  generalize tm.getD 60 undef = x60
  generalize tm.getD 61 undef = x61
  generalize tm.getD 62 undef = x62
  generalize tm.getD 63 undef = x63
  generalize tm.getD 64 undef = x64
  generalize tm.getD 65 undef = x65
  generalize tm.getD 66 undef = x66
  generalize tm.getD 67 undef = x67
  generalize tm.getD 68 undef = x68
  generalize tm.getD 69 undef = x69
  generalize tm.getD 70 undef = x70
  generalize tm.getD 71 undef = x71
  generalize tm.getD 72 undef = x72
  generalize tm.getD 73 undef = x73
  generalize tm.getD 74 undef = x74
  generalize tm.getD 75 undef = wv at hrow5 hob ⊢
  generalize tm.getD 76 undef = x76
  generalize tm.getD 78 undef = x78
  simp only [List.drop_succ_cons, List.drop_zero]
  obtain ⟨gb, cap, rfl⟩ : ∃ gb cap, wv = .slice (some ⟨gb, 0, none⟩) (n + 1) cap := by
    obtain ⟨_, ⟨_, h0⟩ | ⟨gb, cap, cur, h, _⟩⟩ := hrow5
    · omega
    · exact ⟨gb, cap, h⟩
  have hk5 := hPE.2
  have hab5 := hk5.at HAB.out (fun e => (HNE.out ab e.symm).2 rfl)
  have hp5 := hk5.at HP.out (fun e => (HNE.out (p + 1) e.symm).1 rfl)
  have y2 := blk_cell hab5 2
  have f2 := blk_free hab5 2
  simp only [List.getElem?_toArray, List.getElem?_cons_zero, List.getElem?_cons_succ] at y2
  have hk8 : Only (fun k => k = ab ∨ some k = ws.ownBlock) W1 (we.setCell ⟨ab, 2, none⟩ (.slice (some ⟨gb, 0, none⟩) (n + 1) cap)) := (hk5.mono (fun _ _ e => .inr e)).setCell ⟨ab, 2, none⟩ (.slice (some ⟨gb, 0, none⟩) (n + 1) cap) (fun _ => .inl rfl)
  have hc8 : (we.setCell ⟨ab, 2, none⟩ (.slice (some ⟨gb, 0, none⟩) (n + 1) cap)).heap[ab]? = some (.cells #[.int .i64 at_, .bool tw, .slice (some ⟨gb, 0, none⟩) (n + 1) cap] 71 (0, 0)) := (blk_set hab5 2 (.slice (some ⟨gb, 0, none⟩) (n + 1) cap)).trans rfl
  have hr8 : (we.setCell ⟨ab, 2, none⟩ (.slice (some ⟨gb, 0, none⟩) (n + 1) cap)).ownsRow 0 47 10 (.slice (some ⟨gb, 0, none⟩) (n + 1) cap) (n + 1) (xs ++ pk to i) := row_only hrow5 ((Only.refl (fun k => k = ab) we).setCell ⟨ab, 2, none⟩ (.slice (some ⟨gb, 0, none⟩) (n + 1) cap) (fun _ => rfl)) (fun b hb => by
    obtain ⟨cur, h3⟩ := row_blk hrow5 hb
    exact cells_ne h3 hab5 (by decide))
  have hp8 : (we.setCell ⟨ab, 2, none⟩ (.slice (some ⟨gb, 0, none⟩) (n + 1) cap)).heap[p + 1]? = some (.cells (arpCells r) 31 (0, 0)) := blk_set_other hp5 ⟨ab, 2, none⟩ (.slice (some ⟨gb, 0, none⟩) (n + 1) cap) (cells_ne hab5 hp5 (by decide))
  have HK8 := Lib.hid hk8
  have HC8 := Lib.hid hc8
  have HR8 := Lib.hid hr8
  have HP8 := Lib.hid hp8
  have HOB := Lib.hid hob
  clear hk5 hab5 hp5 hk8 hc8 hr8 hrow5 hob hPE HT18
  go_wp2_with fail
  generalize we.setCell ⟨ab, 2, none⟩ (.slice (some ⟨gb, 0, none⟩) (n + 1) cap) = W2 at hp8 HK8 HC8 HR8 HP8 ⊢
  obtain ⟨z0, z1, z2, z3, z4, q0, q1, q2, q3, q4⟩ := arp_cells hp8
  go_region
  have hs9 := arp_set hp8 r
  have hk9 := arp_set_only W2 (p + 1) r
  have hn8 : NAt W2 g c d { sx with A := setA sx.A to ⟨ab, at_, tw, .slice (some ⟨gb, 0, none⟩) (n + 1) cap, x.L ++ [i]⟩ } := by
    obtain ⟨e1, e2, e3, e4, e5, e6⟩ := HE.out
    refine HN.out.turn HX.out (x' := ⟨ab, at_, tw, .slice (some ⟨gb, 0, none⟩) (n + 1) cap, x.L ++ [i]⟩) e6.symm ?_ ?_ ?_ ?_
    · rw [e6, e1]; exact HK8.out
    · rw [e6]; exact HC8.out
    · rw [pks_more, e3]
      simp only [List.length_append, e2, List.length_singleton]
      exact HR8.out
    · rw [e1]; exact HOB.out
  have hO8 : Only (NFoot g c d s0) w W2 := HO7.out.then HK8.out (fun b hb e => HFT.out b hb e)
  have hn9 := hn8.arp hp8 hk9
  have hO9 := (hO8.then hk9 (fun b hb e => by have := HB.out; omega)).drew
  replace hn9 := hn9.keep ((Only.refl _ _).drew)
  generalize (World.setCell (World.setCell (World.setCell (World.setCell (World.setCell W2 ⟨p + 1, 0, none⟩ (.int .i64 r.op)) ⟨p + 1, 1, none⟩ (.int .i64 r.fm)) ⟨p + 1, 2, none⟩ (.int .i64 r.fi)) ⟨p + 1, 3, none⟩ (.int .i64 r.tm)) ⟨p + 1, 4, none⟩ (.int .i64 r.ti)) = W3 at hs9 hn9 hO9 ⊢
  clear z0 z1 z2 z3 z4 q0 q1 q2 q3 q4 hp8 hn8 hO8 hk9 f2 y2
  obtain ⟨v0, v1, v2, v3, v4, _⟩ := arp_cells (w := W3.drew) (b := p + 1) (a := r) hs9
  clear hs9
  go_wp2_with fail
  have hA : setA sx.A to ⟨ab, at_, tw, .slice (some ⟨gb, 0, none⟩) (n + 1) cap, x.L ++ [i]⟩ = s0.A ++ [(to, ⟨ab, now, false, .slice (some ⟨gb, 0, none⟩) (n + 1) cap, [i]⟩)] := by
    have h1 := HSX.out
    have h2 := HSE.out
    have h3 := HXX.out
    obtain ⟨e1, e2, e3, e4, e5, e6⟩ := HE.out
    subst h1 h2
    rw [setA_new _ _ HA.out, ← e4, ← e5, ← h3]
    rfl
  rw [hA] at hn9
  have hst : ({ sx with A := s0.A ++ [(to, ⟨ab, now, false, .slice (some ⟨gb, 0, none⟩) (n + 1) cap, [i]⟩)] } : NS) = { s0 with now := now, A := s0.A ++ [(to, ⟨ab, now, false, .slice (some ⟨gb, 0, none⟩) (n + 1) cap, [i]⟩)] } := by
    have h1 := HSX.out
    have h2 := HSE.out
    subst h1 h2
    rfl
  rw [hst] at hn9
  refine bodyPost_ret (v := .tuple #[.int .i64 0, .agg (arpCells r), .int .i64 110]) (by simp [results, Try.results15, go_sem, v0, v1, v2, v3, v4, arpCells]) rfl ⟨ab, _, by rw [← hr, hmac], hn9, ?_, ?_, hO9⟩
  · have := HZ6.out; have := HZ3.out; have := HB.out; omega
  · intro b hb
    rcases HOB.out b hb with h | h
    · have h3 := HXX.out
      obtain ⟨e1, _⟩ := HE.out
      rw [← e1, ← h3] at h
      cases h
    · have := HSZ.out; have := HZ6.out; have := HZ3.out; have := HB.out; omega

end Go.Proofs.Ythgkdfllddljcaa

/-
  The walk of the law NeighOnce: what waits comes out once, in the order in which it was sent, or is lost.
  Conditions: numbers are of the kind int; strings within the form's reach.
-/
import Derived.Test.YthgkdfllddljcaaOncePk
import Derived.Test.YthgkdfllddljcaaNeiWorks
import Derived.Test.YthgkdfllddljcaaNeiSend2
import Derived.Test.YthgkdfllddljcaaNeiTakeK
import Derived.Test.YthgkdfllddljcaaNeiTakeN
import Derived.Test.YthgkdfllddljcaaAmong
import Derived.Test.YthgkdfllddljcaaOpen
set_option linter.unusedVariables false
set_option linter.unusedSimpArgs false
set_option maxRecDepth 100000
namespace Go.Proofs.Ythgkdfllddljcaa
open Go.RowKit

/-- All that is known at the head of the law's loop. -/
structure OInv (W : World) (B g c d m1 m2 : Nat) (k : Nat) (nw many gone : Int) (wr : World) (s : NS) (T Wl : List (Int × Value)) : Prop where
  now : s.now = nw
  cache : NAt wr g c d s
  state : SInv s T k many gone
  law : LInv wr B m1 m2 T Wl (LA s.A)
  foot : ∀ b, NFoot g c d s b → W.heap.size ≤ b
  own : ∀ b, s.own.ownBlock = some b → b < B
  only : Only (fun _ => False) W wr
  big : B ≤ wr.heap.size

def ocG (pb m2 rb ro N rc j : Nat) (qt xi : Int) : Nat → Value → World → Prop
  | 0, v, w' => v = .pointer (some ⟨pb, 4, none⟩)
  | 1, v, w' => v = .int .i64 xi
  | 2, v, w' => v = .map (some m2)
  | 3, v, w' => v = .int .i64 qt
  | 4, v, w' => v = .slice (some ⟨rb, ro, none⟩) N rc
  | 5, v, w' => v = .int .i64 (j : Int)
  | 6, v, w' => v = .pointer (some ⟨rb, ro + j, none⟩)
  | 7, v, w' => v = .int .i64 xi
  | 8, v, w' => v = .bool false
  | 9, v, w' => v = .bool false
  | 10, v, w' => v = .agg #[.int .i64 10, .int .i64 qt, .int .i64 9, .int .i64 0, .int .i64 xi, .int .i64 0, .bool false, .bool false, .string ⟨#[]⟩, .string ⟨#[]⟩]
  | 11, v, w' => v = .int .i64 0
  | 12, v, w' => v = .bool false
  | 13, v, w' => v = .bool false
  | _, _, _ => True
def ocDs : List Nat := [213, 214, 215, 216, 217, 218, 219, 220, 221, 222, 223, 224, 225, 226]
def ocNeed : List (List Nat) := [[], [0], [], [], [2, 3], [], [4, 5], [6], [1, 7], [8], [], [10], [11], [9, 12]]
def ocGs : List (Option Bool) := [none, none, none, none, none, none, none, none, none, some false]
theorem ocG.keep {pb m2 rb ro N rc j : Nat} {qt xi : Int} : ∀ jx v w w', ocG pb m2 rb ro N rc j qt xi jx v w → Only (fun _ => False) w w' → ocG pb m2 rb ro N rc j qt xi jx v w' := by
  intro jx v w w' h hO
  match jx with
  | 0 => exact h
  | 1 => exact h
  | 2 => exact h
  | 3 => exact h
  | 4 => exact h
  | 5 => exact h
  | 6 => exact h
  | 7 => exact h
  | 8 => exact h
  | 9 => exact h
  | 10 => exact h
  | 11 => exact h
  | 12 => exact h
  | 13 => exact h
  | n + 14 => trivial
theorem ocG.guard {pb m2 rb ro N rc j : Nat} {qt xi : Int} : ∀ g' b', ocGs.getD g' none = some b' → ∀ v w, ocG pb m2 rb ro N rc j qt xi g' v w → v = .bool b' := by
  intro g' b' hbb v w hgg
  match g', hbb, hgg with
  | 0, hbb, hgg => cases hbb
  | 1, hbb, hgg => cases hbb
  | 2, hbb, hgg => cases hbb
  | 3, hbb, hgg => cases hbb
  | 4, hbb, hgg => cases hbb
  | 5, hbb, hgg => cases hbb
  | 6, hbb, hgg => cases hbb
  | 7, hbb, hgg => cases hbb
  | 8, hbb, hgg => cases hbb
  | 9, hbb, hgg => cases hbb; exact hgg
  | n' + 10, hbb, hgg => exact absurd hbb (by simp [ocGs])

def oqG (pb m2 rb ro N1 rc : Nat) (qa qi : Int) : Nat → Value → World → Prop
  | 0, v, w' => v = .map (some m2)
  | 1, v, w' => v = .pointer (some ⟨pb, 1, none⟩)
  | 2, v, w' => v = .int .i64 qa
  | 3, v, w' => v = .slice (some ⟨rb, ro, none⟩) N1 rc
  | 4, v, w' => v = .int .i64 (N1 : Int)
  | 5, v, w' => v = .bool false
  | 6, v, w' => v = .bool false
  | 7, v, w' => v = .map (some m2)
  | 8, v, w' => v = .pointer (some ⟨pb, 1, none⟩)
  | 9, v, w' => v = .int .i64 qa
  | 10, v, w' => v = .slice (some ⟨rb, ro, none⟩) N1 rc
  | 11, v, w' => v = .pointer (some ⟨rb, ro, none⟩)
  | 12, v, w' => v = .int .i64 qi
  | 13, v, w' => v = .pointer (some ⟨pb, 4, none⟩)
  | 14, v, w' => v = .int .i64 qi
  | 15, v, w' => v = .bool false
  | 16, v, w' => v = .bool false
  | _, _, _ => True
def oqDs : List Nat := [81, 82, 83, 84, 85, 86, 87, 88, 89, 90, 91, 92, 93, 94, 95, 96, 97]
def oqNeed : List (List Nat) := [[], [], [1], [0, 2], [3], [4], [5], [], [], [8], [7, 9], [10], [11], [], [13], [12, 14], [6, 15]]
def oqGs : List (Option Bool) := [none, none, none, none, none, none, some false]
theorem oqG.keep {pb m2 rb ro N1 rc : Nat} {qa qi : Int} : ∀ jx v w w', oqG pb m2 rb ro N1 rc qa qi jx v w → Only (fun _ => False) w w' → oqG pb m2 rb ro N1 rc qa qi jx v w' := by
  intro jx v w w' h hO
  match jx with
  | 0 => exact h
  | 1 => exact h
  | 2 => exact h
  | 3 => exact h
  | 4 => exact h
  | 5 => exact h
  | 6 => exact h
  | 7 => exact h
  | 8 => exact h
  | 9 => exact h
  | 10 => exact h
  | 11 => exact h
  | 12 => exact h
  | 13 => exact h
  | 14 => exact h
  | 15 => exact h
  | 16 => exact h
  | n + 17 => trivial
theorem oqG.guard {pb m2 rb ro N1 rc : Nat} {qa qi : Int} : ∀ g' b', oqGs.getD g' none = some b' → ∀ v w, oqG pb m2 rb ro N1 rc qa qi g' v w → v = .bool b' := by
  intro g' b' hbb v w hgg
  match g', hbb, hgg with
  | 0, hbb, hgg => cases hbb
  | 1, hbb, hgg => cases hbb
  | 2, hbb, hgg => cases hbb
  | 3, hbb, hgg => cases hbb
  | 4, hbb, hgg => cases hbb
  | 5, hbb, hgg => cases hbb
  | 6, hbb, hgg => cases hbb; exact hgg
  | n' + 7, hbb, hgg => exact absurd hbb (by simp [oqGs])
def osG (pb m2 rb ro N1 rc : Nat) (qa qi : Int) (ta : Option Addr) (N2 rc1 : Nat) : Nat → Value → World → Prop
  | 0, v, w' => v = .map (some m2)
  | 1, v, w' => v = .pointer (some ⟨pb, 1, none⟩)
  | 2, v, w' => v = .int .i64 qa
  | 3, v, w' => v = .map (some m2)
  | 4, v, w' => v = .pointer (some ⟨pb, 1, none⟩)
  | 5, v, w' => v = .int .i64 qa
  | 6, v, w' => v = .slice (some ⟨rb, ro, none⟩) N1 rc
  | 7, v, w' => v = .slice ta N2 rc1
  | _, _, _ => True
def osDs : List Nat := [98, 99, 100, 101, 102, 103, 104, 105]
def osNeed : List (List Nat) := [[], [], [1], [], [], [4], [3, 5], [6]]
def osGs : List (Option Bool) := []
theorem osG.keep {pb m2 rb ro N1 rc : Nat} {qa qi : Int} {ta : Option Addr} {N2 rc1 : Nat} : ∀ jx v w w', osG pb m2 rb ro N1 rc qa qi ta N2 rc1 jx v w → Only (fun _ => False) w w' → osG pb m2 rb ro N1 rc qa qi ta N2 rc1 jx v w' := by
  intro jx v w w' h hO
  match jx with
  | 0 => exact h
  | 1 => exact h
  | 2 => exact h
  | 3 => exact h
  | 4 => exact h
  | 5 => exact h
  | 6 => exact h
  | 7 => exact h
  | n + 8 => trivial
theorem osG.guard {pb m2 rb ro N1 rc : Nat} {qa qi : Int} {ta : Option Addr} {N2 rc1 : Nat} : ∀ g' b', osGs.getD g' none = some b' → ∀ v w, osG pb m2 rb ro N1 rc qa qi ta N2 rc1 g' v w → v = .bool b' := by
  intro g' b' hbb v w hgg
  match g', hbb, hgg with
  | n' + 0, hbb, hgg => exact absurd hbb (by simp [osGs])

set_option maxHeartbeats 64000000 in
theorem neighOnce_walk (W : World) (v : Value) (n : Nat) (f : Nat → List Value) (h : SlIs W [.i, .i, .i, .i, .i, .i, .i, .i, .i, .b, .b, .s, .s, .i, .i, .i, .i, .i, .b] v n f) :
    Calls Try.prog 5 #[v] W fun e W' => e = .returned (.bool true) ∧ Below W.heap.size W W' := by
  obtain ⟨⟨a, cap, rfl, hle, hat⟩, hcells, hsmall⟩ := h
  obtain ⟨acts, hacts⟩ := Deep.choose_lt (fun i hi => act_is (hcells i hi))
  replace hacts := Lib.hid hacts
  replace hat := Lib.hid hat
  clear hcells
  simp only [List.length_cons, List.length_nil, reachB] at hsmall
  have hmm := @run_makeMap Try.prog
  go_enter Try.func5, Try.ntmps5
  go_wp2_with fail
  refine (cache_any W).mono ?_
  rintro e w1 ⟨g, c, d, vo, rfl, hn1, hf1, hk1⟩
  have HN := Lib.hid hn1
  have HF := Lib.hid hf1
  have HO := Lib.hid hk1
  clear hn1 hf1 hk1
  go_wp2_with fail
  refine (works_any w1).mono ?_
  rintro e w2 ⟨rfl, hk2⟩
  replace HN := Lib.hid (HN.out.keep hk2)
  replace HO := Lib.hid (HO.out.then hk2 (fun _ _ h => h))
  clear hk2
  go_wp2_with fail
  have hm1 : MapI ((w2.alloc (.map #[] 0)).alloc (.map #[] 0)) w2.heap.size [] := (MapI.made w2).at (Below.heap_alloc _ _ _ (by simp))
  have hm2 : MapI ((w2.alloc (.map #[] 0)).alloc (.map #[] 0)) (w2.heap.size + 1) [] := by
    have := MapI.made (w2.alloc (.map #[] 0))
    rwa [World.size_alloc] at this
  have hka := ((Only.refl (fun _ => False) w2).alloc (.map #[] 0)).alloc (.map #[] 0)
  have hsz3 : ((w2.alloc (.map #[] 0)).alloc (.map #[] 0)).heap.size = w2.heap.size + 1 + 1 := by rw [World.size_alloc, World.size_alloc]
  have hlt2 := HN.out.foot_lt rfl
  replace HN := Lib.hid (HN.out.keep hka)
  have hWs := HO.out.size
  replace HO := Lib.hid (HO.out.then hka (fun _ _ h => h))
  generalize (w2.alloc (.map #[] 0)).alloc (.map #[] 0) = w3 at *
  generalize hm1e : w2.heap.size = m1 at *
  generalize hm2e : m1 + 1 = m2 at *
  have HC := Lib.hid (show (c ≠ m1 ∧ d ≠ m1 ∧ c ≠ m2 ∧ d ≠ m2) ∧ m1 ≠ m2 ∧ W.heap.size ≤ m1 ∧ W.heap.size ≤ m2 ∧ m2 < w3.heap.size ∧ g < m1 from by
    have h1 := hlt2 g (.inl rfl)
    have h2 := hlt2 c (.inr (.inl rfl))
    have h3 := hlt2 d (.inr (.inr (.inl rfl)))
    refine ⟨⟨?_, ?_, ?_, ?_⟩, ?_, ?_, ?_, ?_, ?_⟩ <;> omega)
  have hInv : OInv W w3.heap.size g c d m1 m2 0 0 0 0 w3 ⟨2, 50, 4, 9, 30, 0, true, vo, [], []⟩ [] [] :=
    ⟨rfl, HN.out, ⟨rfl, rfl, rfl, rfl, rfl, rfl, Int.le_refl _, by show (0 : Int) ≤ 3 * (0 : Nat); decide, fun p hp => (by cases hp), fun p hp => (by cases hp), fun p hp => (by cases hp), rfl, by show 0 ≤ 30; decide, by decide, by decide⟩,
      ⟨hm1, hm2, HC.out.2.1, fun a => .inl ⟨rfl, rfl⟩, fun a b hb => (by cases hb), fun a b k hb => (by cases hb)⟩, HF.out, fun b hb => by have h1 := hlt2 b (.inr (.inr (.inr (.inl hb)))); have := HC.out.2.2.2.2.1; omega, HO.out, Nat.le_refl _⟩
  have HINV := Lib.hid hInv
  have HBW := Lib.hid (show W.heap.size ≤ w3.heap.size from HO.out.size)
  clear hm1 hm2 hka hlt2 hWs HN HO HF hInv hsz3
  generalize hBd : w3.heap.size = B at *
  clear hBd
  have hCC := HC.out
  clear hCC hm1e hm2e
  go_wp2_with fail
  go_loopw [6, 7, 8, 9] (fun nwv mv gv iv wr => ∃ (k : Nat) (nw many gone : Int) (s : NS) (T Wl : List (Int × Value)), nwv = .int .i64 nw ∧ mv = .int .i64 many ∧ gv = .int .i64 gone ∧ iv = .int .i64 k ∧ k ≤ n ∧ k ≤ 60 ∧ OInv W B g c d m1 m2 k nw many gone wr s T Wl) (fun _ _ _ iv _ => n - (intOf iv).toNat)
  case atStart => exact ⟨0, 0, 0, 0, _, _, _, rfl, rfl, rfl, rfl, by omega, by omega, HINV.out⟩
  case round =>
    obtain ⟨k, nw, many, gone, s, T, Wl, rfl, rfl, rfl, rfl, hkn, hk60, hI⟩ := hrel
    have HI := Lib.hid hI
    clear hI HINV
    by_cases hin : k < n ∧ k < 60
    · obtain ⟨hin, hi60⟩ := hin
      obtain ⟨b, off, rfl, hbW, hat⟩ := hat.out (by omega)
      have hact := hacts.out k hin
      have hbl := HI.out.only.block b hbW (fun h => h)
      obtain ⟨⟨a0, a1, a2, a10⟩, hx⟩ : ∃ x, acts k = x := ⟨_, rfl⟩
      rw [hx] at hact
      have hcl : ∀ j v, (f k)[j]? = some v → wr.cell? ⟨b, off + k * 19 + j, none⟩ = some v := by
        intro j v hj
        have hj2 : j < 19 := by have := (List.getElem?_eq_some_iff.1 hj).1; rw [hact.len] at this; exact this
        rw [World.cell?_of_block (w := W) (w' := wr) (a := ⟨b, off + k * 19 + j, none⟩) hbl]
        exact (hat k hin j hj2).trans hj
      generalize f k = cs at hact hcl
      obtain ⟨q0, q1, q2, q14, hwk, hwt, hwn, hwf, hlen, hone⟩ := hact
      clear hat hbl hbW hacts hx
      have hka1 := (Only.refl (fun _ => False) wr).alloc (.cells actZero 49)
      have hz := blk_new wr (.cells actZero 49)
      have hp := setRow_heap (wr.alloc (.cells actZero 49)) wr.heap.size actZero cs.toArray 49 (0, 0) hz
      have hka := only_setRow hka1 wr.heap.size cs.toArray (fun h => absurd h (Nat.lt_irrefl _))
      have p0 := blk_cell hp 0
      have p1 := blk_cell hp 1
      have p2 := blk_cell hp 2
      have p14 := blk_cell hp 14
      rw [List.getElem?_toArray] at p0 p1 p2 p14
      rw [q0] at p0
      rw [q1] at p1
      rw [q2] at p2
      rw [q14] at p14
      have hnw0 : 0 ≤ nw := by have := HI.out.now; have := HI.out.state.now0; omega
      have hnw1 : nw ≤ 3 * (k : Int) := by have := HI.out.now; have := HI.out.state.now1; omega
      clear q0 q1 q2 q14
      go_wp2_with (first
        | (refine wpList_load_act _ rfl _ rfl b (off + k * 19) rfl cs hlen hcl ?_)
        | (refine wpList_alloc_act _ rfl rfl ?_)
        | (refine wpList_store_act _ rfl _ _ rfl wr.heap.size cs rfl rfl hlen hone hz ?_))
      refine (among_any a2 3 _ hwn (by decide) (by decide)).mono ?_
      rintro e _ ⟨rfl, rfl⟩
      obtain ⟨nw2, hnw2⟩ : ∃ nw2, nw + a2 % 3 = nw2 := ⟨_, rfl⟩
      have hb1 : nw ≤ nw2 ∧ nw2 ≤ nw + 2 := by omega
      have hw1 : IntKind.i64.wrap (nw + a2 % 3) = nw2 := by rw [IntKind.wrap_i64]; omega
      have HNW := Lib.hid (show nw ≤ nw2 ∧ nw2 ≤ nw + 3 ∧ 0 ≤ nw2 ∧ nw2 ≤ 3 * (k : Int) + 3 from ⟨hb1.1, by omega, by omega, by omega⟩)
      clear hnw2 hb1
      have hpl := heap_lt hp
      have HP := Lib.hid hp
      have HKA := Lib.hid hka
      clear hp hka hka1 hz hcl hone hlen hnw0 hnw1 p2
      generalize hpe : wr.heap.size = p at *
      generalize (wr.alloc (.cells actZero 49)).setRow p cs.toArray = wa at *
      go_wp2_with fail
      refine (among_any a1 4 _ hwt (by decide) (by decide)).mono ?_
      rintro e _ ⟨rfl, rfl⟩
      obtain ⟨to, hto⟩ : ∃ to, a1 % 4 + 11 = to := ⟨_, rfl⟩
      have HTO := Lib.hid (show 11 ≤ to ∧ to < 15 by omega)
      have hw2 : IntKind.i64.wrap (11 + a1 % 4) = to := by rw [IntKind.wrap_i64]; omega
      clear hto
      go_wp2_with fail
      refine (among_any a0 3 _ hwk (by decide) (by decide)).mono ?_
      rintro e _ ⟨rfl, rfl⟩
      clear p0 p1 hw1 hw2 hwk hwt hwn
      generalize hkd : a0 % 3 = kd
      clear hkd
      have HK60 := Lib.hid (show k < 60 from hi60)
      by_cases hk0 : kd = 0
      · subst hk0
        have hI := HI.out
        have hS := hI.state.later nw2 (by have := hI.now; have := HNW.out; omega) (by have := hI.now; have := HNW.out; omega)
        have hcache := hI.cache.keep HKA.out
        have hlawA := hI.law.keep HKA.out
        have HS := Lib.hid hS
        have HCA := Lib.hid hcache
        have HLA := Lib.hid hlawA
        have HOA := Lib.hid (hI.only.then HKA.out (fun _ _ h => h))
        have HFO := Lib.hid hI.foot
        have HOW := Lib.hid hI.own
        have HS0 := Lib.hid hI.state
        have HNO := Lib.hid hI.now
        have HBQ := Lib.hid (show B ≤ wa.heap.size from Nat.le_trans hI.big HKA.out.size)
        clear hI hS hcache hlawA p14 hpl hpe HP HKA HI
        go_wp2_with (refine wpList_build_pk _ rfl _ _ rfl to (k : Int) rfl rfl ?_)
        have hq := blk_new wa (.cells #[.int .i64 10, .int .i64 to, .int .i64 9, .int .i64 0, .int .i64 k, .int .i64 0, .bool false, .bool false, .string ⟨#[]⟩, .string ⟨#[]⟩] 47)
        have hkq := (Only.refl (fun _ => False) wa).alloc (.cells #[.int .i64 10, .int .i64 to, .int .i64 9, .int .i64 0, .int .i64 k, .int .i64 0, .bool false, .bool false, .string ⟨#[]⟩, .string ⟨#[]⟩] 47)
        have HCQ := Lib.hid (HCA.out.keep hkq)
        have HLQ := Lib.hid (HLA.out.keep hkq)
        have HOQ := Lib.hid (HOA.out.then hkq (fun _ _ h => h))
        replace HBQ := Lib.hid (show B ≤ (wa.alloc (.cells #[.int .i64 10, .int .i64 to, .int .i64 9, .int .i64 0, .int .i64 k, .int .i64 0, .bool false, .bool false, .string ⟨#[]⟩, .string ⟨#[]⟩] 47)).heap.size from Nat.le_trans HBQ.out hkq.size)
        have hBq : w3.heap.size ≤ wa.heap.size ∨ True := .inr trivial
        clear hq hkq HCA HLA HOA hBq
        generalize wa.alloc (.cells #[.int .i64 10, .int .i64 to, .int .i64 9, .int .i64 0, .int .i64 k, .int .i64 0, .bool false, .bool false, .string ⟨#[]⟩, .string ⟨#[]⟩] 47) = wq at *
        have hargs : (0 : Int) ≤ to ∧ to < 4294967296 := by have := HTO.out; omega
        have hid : (0 : Int) ≤ (k : Int) ∧ (k : Int) ≤ 65535 := by have := HK60.out; omega
        have hnl : s.now ≤ nw2 := by have := HNO.out; have := HNW.out; omega
        have hnu : nw2 ≤ 1099511627776 := by have := HNW.out; have := HK60.out; omega
        have hok := HS.out.ok (by have := HK60.out; omega)
        have hmine := HS0.out.mine
        have hno : NOk { s with now := nw2 } := hok
        have HSV := Lib.hid (show _ ∧ _ ∧ _ ∧ _ ∧ _ ∧ _ from ⟨hargs, hid, hnl, hnu, hno, hmine⟩)
        clear hargs hid hnl hnu hok hmine hno
        cases hf : ({ s with now := nw2 } : NS).find to nw2 with
        | some mc =>
          as_aux_lemma =>
            obtain ⟨hargs, hid, hnl, hnu, hno, hmine⟩ := HSV.out
            refine (send_goes wq g c d s to k nw2 HCQ.out hno hmine hargs hid hnl hnu mc hf).mono ?_
            rintro e wz ⟨rfl, hnz, hkz⟩
            have hT := HS.out.find hf
            have hlz := HLQ.out.cache HCQ.out hmine HOW.out HC.out.1 hkz
            have hoz := HOQ.out.then hkz (fun b _ hb => by have := HFO.out b hb; omega)
            simp only [arpCells]
            have hke := (Only.refl (fun _ => False) wz).alloc (.cells #[.int .i64 0, .int .i64 0, .int .i64 0, .int .i64 0, .int .i64 0] 31)
            have hnE := hnz.keep hke
            have hlE := hlz.keep hke
            have hoE := hoz.then hke (fun _ _ h => h)
            have hlk := hlE.told.look (P := Try.prog) und_mapii und_int (zero_int _) to false
            rw [hT] at hlk
            simp only [Option.getD_some, Bool.false_eq_true, if_false] at hlk
            have HE := Lib.hid (show _ ∧ _ ∧ _ ∧ B ≤ _ from ⟨hnE, hlE, hoE, Nat.le_trans HBQ.out (Nat.le_trans hkz.size hke.size)⟩)
            clear hargs hid hnl hnu hno hmine hf hT hlz hoz hnE hlE hoE hke hnz hkz
            go_wp2_with fail
            obtain ⟨hnE, hlE, hoE, hbE⟩ := HE.out
            go_roundw
            case rel => exact ⟨k + 1, nw2, many, gone, { s with now := nw2 }, T, Wl, rfl, rfl, rfl, by go_num, by omega, by omega, ⟨rfl, hnE, HS.out, hlE, HFO.out, HOW.out, hoE, hbE⟩⟩
            case measure => simp [intOf]; omega
        | none =>
          by_cases hfull : s.waiting < 30
          · cases ha : s.A.find? (fun q => q.1 == to) with
            | none =>
              as_aux_lemma =>
                obtain ⟨hargs, hid, hnl, hnu, hno, hmine⟩ := HSV.out
                have hfw := HS0.out.few
                have hww := HS0.out.waits
                refine (send_first wq g c d s to k nw2 HCQ.out hno hmine hargs hid hnl hnu hf (by omega) (by omega) ha).mono ?_
                rintro e wz ⟨blk, ws, rfl, hnz, hbz1, hbz2, hkz⟩
                have hlz := HLQ.out.cache HCQ.out hmine HOW.out HC.out.1 hkz
                have hoz := HOQ.out.then hkz (fun b _ hb => by have := HFO.out b hb; omega)
                have hA1 : ArpOk 1 2 10 0 to := arp_small (.inl rfl) (by decide) (by decide) (by decide) (by have := HTO.out; omega)
                rw [HS0.out.mac, amade_is hA1]
                simp only [arpCells]
                have hL0 := LA_none ha
                have hke := (Only.refl (fun _ => False) wz).alloc (.cells #[.int .i64 1, .int .i64 2, .int .i64 10, .int .i64 0, .int .i64 to] 31)
                have hnE := hnz.keep hke
                have hlE := hlz.keep hke
                have hoE := hoz.then hke (fun _ _ h => h)
                have hrE := hlE.rows to
                rw [hL0] at hrE
                obtain ⟨ra, rcap, hrv⟩ := hrE.len
                obtain ⟨N, hN⟩ : ∃ N, ([] : List Int).length = N := ⟨_, rfl⟩
                rw [hN] at hrv
                have hN0 : N = 0 := by rw [← hN]; rfl
                subst hN0
                clear hN
                have hlk := hlE.waits.look (P := Try.prog) und_mapis und_int (zero_ints _) to false
                simp only [Bool.false_eq_true, if_false] at hlk
                rw [show (getI Wl to).getD (.slice none 0 0) = .slice ra 0 rcap from hrv] at hlk
                have hz := blk_new2 wz (.cells #[.int .i64 1, .int .i64 2, .int .i64 10, .int .i64 0, .int .i64 to] 31) (.cells #[.int .i64 k] 3)
                have hkz2 := (Only.refl (fun _ => False) (wz.alloc (.cells #[.int .i64 1, .int .i64 2, .int .i64 10, .int .i64 0, .int .i64 to] 31))).alloc (.cells #[.int .i64 k] 3)
                have hlY := hlE.keep hkz2
                have hnY := hnE.keep hkz2
                have hoY := hoE.then hkz2 (fun _ _ h => h)
                obtain ⟨v2, w2a, hr, hrow, hv2, hk2⟩ := append_off ((wz.alloc (.cells #[.int .i64 1, .int .i64 2, .int .i64 10, .int .i64 0, .int .i64 to] 31)).alloc (.cells #[.int .i64 k] 3)) 52 (rowOf Wl to) [] (hrE.only hkz2 (fun _ _ h => h)) (wz.heap.size + 1) k hz (by decide)
                rw [hrv] at hr
                have hmw : MapI w2a m2 Wl := hlY.waits.only hk2 (fun e => by
                  obtain ⟨cur, hcur⟩ := (hlY.rows to).blk e.symm
                  exact map_ne hcur hlY.waits rfl)
                have hme : MapI (wz.alloc (.cells #[.int .i64 1, .int .i64 2, .int .i64 10, .int .i64 0, .int .i64 to] 31)) m2 Wl := hlE.waits
                have HE := Lib.hid (show _ ∧ _ ∧ _ ∧ _ ∧ _ ∧ _ from ⟨hnY, hlY, hoY, hrow, hv2, hk2⟩)
                have HBY := Lib.hid (show B ≤ ((wz.alloc (.cells #[.int .i64 1, .int .i64 2, .int .i64 10, .int .i64 0, .int .i64 to] 31)).alloc (.cells #[.int .i64 k] 3)).heap.size from Nat.le_trans HBQ.out (Nat.le_trans hkz.size (Nat.le_trans hke.size hkz2.size)))
                have hmany := HS0.out.many1
                have hcnt := HS0.out.cnt
                have hgon := HS0.out.gone0
                have hm0 : 0 ≤ many := by omega
                have hm1' : many ≤ 60 := by have := HK60.out; omega
                clear hargs hid hnl hnu hno hmine hf hlz hoz hke hnE hlE hoE hrE hz hkz2 hlY hnY hoY hrow hv2 hk2 hnz hkz hfw hww hcnt hgon hmany
                go_wp2_with (first
                  | (at_lookup; refine wpList_look_I _ rfl _ _ 45 false rfl 3 52 und_mapis und_int _ (zero_ints _) m2 _ rfl hme _ rfl ?_; rw [show (getI Wl to).getD (.slice none 0 0) = .slice ra 0 rcap from hrv]; simp only [Bool.false_eq_true, if_false])
                  | (at_builtin; refine wpList_append_run _ rfl _ _ 52 rfl _ _ v2 w2a rfl rfl hr ?_)
                  | (at_mapUpdate; refine wpList_put_I _ rfl _ _ _ 45 rfl 3 52 und_mapis und_int m2 _ rfl hmw _ v2 rfl rfl ?_; intro wf hmf hkf hzf))
                obtain ⟨hnY, hlY, hoY, hrow, hv2, hk2⟩ := HE.out
                clear HE hlk hr hme
                have hS2 := HS0.out.first nw2 (by have := HNO.out; have := HNW.out; omega) (by have := HNO.out; have := HNW.out; omega) (to := to) (i := (k : Int)) HTO.out (by have := HK60.out; omega) hfull blk ws
                have hLA := fun b => LA_more s.A to ⟨blk, nw2, false, ws, [(k : Int)]⟩ ha b
                have hfoot : ∀ b, NFoot g c d { s with now := nw2, A := s.A ++ [(to, ⟨blk, nw2, false, ws, [(k : Int)]⟩)] } b → W.heap.size ≤ b := by
                  have hWq := HOQ.out.size
                  rintro b (h | h | h | h | ⟨p, hp, h⟩)
                  · exact HFO.out b (.inl h)
                  · exact HFO.out b (.inr (.inl h))
                  · exact HFO.out b (.inr (.inr (.inl h)))
                  · exact HFO.out b (.inr (.inr (.inr (.inl h))))
                  · rcases List.mem_append.1 hp with hp | hp
                    · exact HFO.out b (.inr (.inr (.inr (.inr ⟨p, hp, h⟩))))
                    · rw [List.mem_singleton.1 hp] at h
                      rcases h with h | h
                      · have h' : b = blk := h
                        omega
                      · have := hbz2 b h; omega
                have hlF : LInv wf B m1 m2 T (putI Wl to v2) (LA ({ s with now := nw2, A := s.A ++ [(to, ⟨blk, nw2, false, ws, [(k : Int)]⟩)] } : NS).A) := by
                  refine hlY.row ?_ to v2 hk2 ?_ (fun b hb => ?_) hv2 hkf hmf
                  · exact HBY.out
                  · rw [hLA to, if_pos rfl]; simpa using hrow
                  · rw [hLA b, if_neg hb]
                have hnF : NAt wf g c d { s with now := nw2, A := s.A ++ [(to, ⟨blk, nw2, false, ws, [(k : Int)]⟩)] } := by
                  refine (hnY.beside HS0.out.mine HOW.out hk2 (fun b hb => ?_)).beside HS0.out.mine HOW.out hkf (fun b hb => ?_)
                  · obtain ⟨cur, hcur⟩ := (hlY.rows to).blk hb.symm
                    exact .inr ⟨hlY.base to b hb.symm, cur, hcur⟩
                  · rw [hb]; exact .inl ⟨_, hmw, fun e => HC.out.1.2.2.1 e.symm, fun e => HC.out.1.2.2.2 e.symm⟩
                have hoF : Only (fun _ => False) W wf := (hoY.then hk2 (fun b hb e => by
                  have := hlY.base to b e.symm
                  have := HBW.out
                  omega)).then hkf (fun b hb e => by have := HC.out.2.2.2.1; omega)
                go_roundw
                case rel => exact ⟨k + 1, nw2, many + 1, gone, { s with now := nw2, A := s.A ++ [(to, ⟨blk, nw2, false, ws, [(k : Int)]⟩)] }, T, putI Wl to v2, rfl, by go_num, rfl, by go_num, by omega, by omega, ⟨rfl, hnF, hS2, hlF, hfoot, HOW.out, hoF, Nat.le_trans HBY.out (Nat.le_trans hk2.size hkf.size)⟩⟩
                case measure => simp [intOf]; omega
            | some q =>
              as_aux_lemma =>
                obtain ⟨hargs, hid, hnl, hnu, hno, hmine⟩ := HSV.out
                have hfw := HS0.out.few
                have hww := HS0.out.waits
                have hq1 : q.1 = to := by simpa using List.find?_some ha
                obtain ⟨qt, x⟩ := q
                simp only at hq1
                subst hq1
                have hxA := List.mem_of_find?_eq_some ha
                have hlenx := le_waiting hxA
                simp only at hlenx
                refine (send_more wq g c d s qt k nw2 HCQ.out hno hmine hargs hid hnl hnu hf (by omega) (by omega) x ha (by omega)).mono ?_
                rintro e wz ⟨ws, rfl, hnz, hbz2, hkz⟩
                have hlz := HLQ.out.cache HCQ.out hmine HOW.out HC.out.1 hkz
                have hoz := HOQ.out.then hkz (fun b _ hb => by have := HFO.out b hb; omega)
                simp only [arpCells]
                have hL0 := LA_some ha
                simp only at hL0
                have hxne := (HS0.out.ask _ hxA).2.2.1
                simp only at hxne
                have hke := (Only.refl (fun _ => False) wz).alloc (.cells #[.int .i64 0, .int .i64 0, .int .i64 0, .int .i64 0, .int .i64 0] 31)
                have hnE := hnz.keep hke
                have hlE := hlz.keep hke
                have hoE := hoz.then hke (fun _ _ h => h)
                have hrE := hlE.rows qt
                rw [hL0] at hrE
                obtain ⟨ra, rcap, hrv⟩ := hrE.len
                obtain ⟨N, hN⟩ : ∃ N, x.L.length = N := ⟨_, rfl⟩
                rw [hN] at hrv
                have hNz : ¬ N = 0 := by rw [← hN]; exact fun e => hxne (List.eq_nil_of_length_eq_zero e)
                have hNb : ((N : Int) == 0) = false := by simpa using hNz
                have HNX := Lib.hid hN
                clear hN
                have hlk := hlE.waits.look (P := Try.prog) und_mapis und_int (zero_ints _) qt false
                simp only [Bool.false_eq_true, if_false] at hlk
                rw [show (getI Wl qt).getD (.slice none 0 0) = .slice ra N rcap from hrv] at hlk
                have hz := blk_new2 wz (.cells #[.int .i64 0, .int .i64 0, .int .i64 0, .int .i64 0, .int .i64 0] 31) (.cells #[.int .i64 k] 3)
                have hkz2 := (Only.refl (fun _ => False) (wz.alloc (.cells #[.int .i64 0, .int .i64 0, .int .i64 0, .int .i64 0, .int .i64 0] 31))).alloc (.cells #[.int .i64 k] 3)
                have hlY := hlE.keep hkz2
                have hnY := hnE.keep hkz2
                have hoY := hoE.then hkz2 (fun _ _ h => h)
                obtain ⟨v2, w2a, hr, hrow, hv2, hk2⟩ := append_off ((wz.alloc (.cells #[.int .i64 0, .int .i64 0, .int .i64 0, .int .i64 0, .int .i64 0] 31)).alloc (.cells #[.int .i64 k] 3)) 52 (rowOf Wl qt) x.L (hrE.only hkz2 (fun _ _ h => h)) (wz.heap.size + 1) k hz (by omega)
                rw [hrv] at hr
                have hmw : MapI w2a m2 Wl := hlY.waits.only hk2 (fun e => by
                  obtain ⟨cur, hcur⟩ := (hlY.rows qt).blk e.symm
                  exact map_ne hcur hlY.waits rfl)
                have hme : MapI (wz.alloc (.cells #[.int .i64 0, .int .i64 0, .int .i64 0, .int .i64 0, .int .i64 0] 31)) m2 Wl := hlE.waits
                have HE := Lib.hid (show _ ∧ _ ∧ _ ∧ _ ∧ _ ∧ _ from ⟨hnY, hlY, hoY, hrow, hv2, hk2⟩)
                have HBY := Lib.hid (show B ≤ ((wz.alloc (.cells #[.int .i64 0, .int .i64 0, .int .i64 0, .int .i64 0, .int .i64 0] 31)).alloc (.cells #[.int .i64 k] 3)).heap.size from Nat.le_trans HBQ.out (Nat.le_trans hkz.size (Nat.le_trans hke.size hkz2.size)))
                have hmany := HS0.out.many1
                have hcnt := HS0.out.cnt
                have hgon := HS0.out.gone0
                have hm0 : 0 ≤ many := by omega
                have hm1' : many ≤ 60 := by have := HK60.out; omega
                clear hargs hid hnl hnu hno hmine hf hlz hoz hke hnE hlE hoE hrE hz hkz2 hlY hnY hoY hrow hv2 hk2 hnz hkz hfw hww hcnt hgon hmany
                go_wp2_with (first
                  | (at_lookup; refine wpList_look_I _ rfl _ _ 45 false rfl 3 52 und_mapis und_int _ (zero_ints _) m2 _ rfl hme _ rfl ?_; rw [show (getI Wl qt).getD (.slice none 0 0) = .slice ra N rcap from hrv]; simp only [Bool.false_eq_true, if_false])
                  | (at_builtin; refine wpList_append_run _ rfl _ _ 52 rfl _ _ v2 w2a rfl rfl hr ?_)
                  | (at_mapUpdate; refine wpList_put_I _ rfl _ _ _ 45 rfl 3 52 und_mapis und_int m2 _ rfl hmw _ v2 rfl rfl ?_; intro wf hmf hkf hzf))
                obtain ⟨hnY, hlY, hoY, hrow, hv2, hk2⟩ := HE.out
                clear HE hlk hr hme
                have hS2 := HS0.out.more HCQ.out.keysA nw2 (by have := HNO.out; have := HNW.out; omega) (by have := HNO.out; have := HNW.out; omega) (i := (k : Int)) hxA (by have := HK60.out; omega) hfull ws
                have hLA := fun b => LA_turn (x' := { x with ws := ws, L := x.L ++ [(k : Int)] }) ha b
                have hfoot : ∀ b, NFoot g c d { s with now := nw2, A := setA s.A qt { x with ws := ws, L := x.L ++ [(k : Int)] } } b → W.heap.size ≤ b := fun b hb => by
                  rcases NFoot.turn (s := { s with now := nw2 }) (g := g) (c := c) (d := d) (x' := { x with ws := ws, L := x.L ++ [(k : Int)] }) hxA rfl (S := fun b => wq.heap.size ≤ b) hbz2 hb with h | h
                  · exact HFO.out b h
                  · have := HOQ.out.size; omega
                have hlF : LInv wf B m1 m2 T (putI Wl qt v2) (LA ({ s with now := nw2, A := setA s.A qt { x with ws := ws, L := x.L ++ [(k : Int)] } } : NS).A) := by
                  refine hlY.row ?_ qt v2 hk2 ?_ (fun b hb => ?_) hv2 hkf hmf
                  · exact HBY.out
                  · rw [hLA qt, if_pos rfl]; exact hrow
                  · rw [hLA b, if_neg hb]
                have hnF : NAt wf g c d { s with now := nw2, A := setA s.A qt { x with ws := ws, L := x.L ++ [(k : Int)] } } := by
                  refine (hnY.beside HS0.out.mine HOW.out hk2 (fun b hb => ?_)).beside HS0.out.mine HOW.out hkf (fun b hb => ?_)
                  · obtain ⟨cur, hcur⟩ := (hlY.rows qt).blk hb.symm
                    exact .inr ⟨hlY.base qt b hb.symm, cur, hcur⟩
                  · rw [hb]; exact .inl ⟨_, hmw, fun e => HC.out.1.2.2.1 e.symm, fun e => HC.out.1.2.2.2 e.symm⟩
                have hoF : Only (fun _ => False) W wf := (hoY.then hk2 (fun b hb e => by
                  have := hlY.base qt b e.symm
                  have := HBW.out
                  omega)).then hkf (fun b hb e => by have := HC.out.2.2.2.1; omega)
                go_roundw
                case rel => exact ⟨k + 1, nw2, many + 1, gone, { s with now := nw2, A := setA s.A qt { x with ws := ws, L := x.L ++ [(k : Int)] } }, T, putI Wl qt v2, rfl, by go_num, rfl, by go_num, by omega, by omega, ⟨rfl, hnF, hS2, hlF, hfoot, HOW.out, hoF, Nat.le_trans HBY.out (Nat.le_trans hk2.size hkf.size)⟩⟩
                case measure => simp [intOf]; omega
          ·
            as_aux_lemma =>
              obtain ⟨hargs, hid, hnl, hnu, hno, hmine⟩ := HSV.out
              have hfw := HS0.out.few
              have hww := HS0.out.waits
              refine (send_full wq g c d s to k nw2 HCQ.out hno hmine hargs hid hnl hnu hf (by omega) (by omega)).mono ?_
              rintro e wz ⟨rfl, hnz, hkz⟩
              have hlz := HLQ.out.cache HCQ.out hmine HOW.out HC.out.1 hkz
              have hoz := HOQ.out.then hkz (fun b _ hb => by have := HFO.out b hb; omega)
              simp only [arpCells]
              have hke := (Only.refl (fun _ => False) wz).alloc (.cells #[.int .i64 0, .int .i64 0, .int .i64 0, .int .i64 0, .int .i64 0] 31)
              have HE := Lib.hid (show _ ∧ _ ∧ _ ∧ B ≤ _ from ⟨hnz.keep hke, hlz.keep hke, hoz.then hke (fun _ _ h => h), Nat.le_trans HBQ.out (Nat.le_trans hkz.size hke.size)⟩)
              clear hargs hid hnl hnu hno hmine hf hlz hoz hke hnz hkz hfw hww hfull
              go_wp2_with fail
              obtain ⟨hnE, hlE, hoE, hbE⟩ := HE.out
              go_roundw
              case rel => exact ⟨k + 1, nw2, many, gone, { s with now := nw2 }, T, Wl, rfl, rfl, rfl, by go_num, by omega, by omega, ⟨rfl, hnE, HS.out, hlE, HFO.out, HOW.out, hoE, hbE⟩⟩
              case measure => simp [intOf]; omega
      · have hk0b : (kd == 0) = false := by simpa using hk0
        by_cases hk1 : kd = 1
        · subst hk1
          clear hk0 hk0b
          have hI := HI.out
          have hS := hI.state.later nw2 (by have := hI.now; have := HNW.out; omega) (by have := hI.now; have := HNW.out; omega)
          have hcache := hI.cache.keep HKA.out
          have hlawA := hI.law.keep HKA.out
          have HS := Lib.hid hS
          have HCA := Lib.hid hcache
          have HLA := Lib.hid hlawA
          have HOA := Lib.hid (hI.only.then HKA.out (fun _ _ h => h))
          have HFO := Lib.hid hI.foot
          have HOW := Lib.hid hI.own
          have HS0 := Lib.hid hI.state
          have HNO := Lib.hid hI.now
          have HBQ := Lib.hid (show B ≤ wa.heap.size from Nat.le_trans hI.big HKA.out.size)
          have hk2 : s.K.length ≤ 4 := by
            have h1 := nodup_few (s.K.map Prod.fst) [11, 12, 13, 14] (by
              have h2 := hcache.kmap.keys
              unfold encH at h2
              rw [List.map_map] at h2
              exact h2) (fun y hy => by
              obtain ⟨q, hq, rfl⟩ := List.mem_map.1 hy
              obtain ⟨e1, e2, _⟩ := hI.state.known q hq
              have : q.1 = 11 ∨ q.1 = 12 ∨ q.1 = 13 ∨ q.1 = 14 := by omega
              simpa using this)
            simpa using h1
          have HK4 := Lib.hid hk2
          clear hI hS hcache hlawA hk2 hpl hpe HP HKA HI
          go_wp2_with fail
          refine (among_any a10 5 _ hwf (by decide) (by decide)).mono ?_
          rintro e _ ⟨rfl, rfl⟩
          obtain ⟨mc, hmc⟩ : ∃ mc, a10 % 5 + 3 = mc := ⟨_, rfl⟩
          have HMC := Lib.hid (show 3 ≤ mc ∧ mc < 8 by omega)
          have hw3 : IntKind.i64.wrap (3 + a10 % 5) = mc := by rw [IntKind.wrap_i64]; omega
          clear hmc hwf p14
          go_wp2_with fail
          clear hw3
          have hnl : s.now ≤ nw2 := by have := HNO.out; have := HNW.out; omega
          have hnu : nw2 ≤ 1099511627776 := by have := HNW.out; have := HK60.out; omega
          have hno : NOk { s with now := nw2 } := HS.out.ok (by have := HK60.out; omega)
          have hmine := HS0.out.mine
          have hAR : ArpOk 2 mc to 2 10 := arp_small (.inr rfl) (by have := HMC.out; omega) (by decide) (by have := HTO.out; omega) (by decide)
          have hto : 0 < to := by have := HTO.out; omega
          have hown : (s.mine && decide (to = 10)) = false := by
            have : decide (to = 10) = false := by have := HTO.out; simp; omega
            rw [this, Bool.and_false]
          have hkl := HK4.out
          have hroom : (((({ s with now := nw2 } : NS).kept to).length : Nat) : Int) < s.room := by
            have hr9 := HS0.out.room
            have h1 : ((({ s with now := nw2 } : NS).kept to).length) ≤ s.K.length := List.length_filter_le _ _
            omega
          have hwfk : ∀ p ∈ s.K, (Lit.int .i64 p.1).wf = true := fun q hq => by
            obtain ⟨e1, e2, _⟩ := HS0.out.known q hq
            simp [Lit.wf, IntKind.min, IntKind.max, IntKind.bits, IntKind.signed]
            omega
          have HSV := Lib.hid (show _ ∧ _ ∧ _ ∧ _ ∧ _ ∧ _ ∧ _ ∧ _ ∧ _ ∧ _ from ⟨hnl, hnu, hno, hmine, hAR, hto, hown, hkl, hroom, hwfk⟩)
          clear hnl hnu hno hmine hAR hto hown hkl hroom hwfk
          cases ha : s.A.find? (fun q => q.1 == to) with
          | none =>
            cases hth : (({ s with now := nw2 } : NS).find to nw2).isSome with
            | true =>
              as_aux_lemma =>
                obtain ⟨hnl, hnu, hno, hmine, hAR, hto, hown, hkl, hroom, hwfk⟩ := HSV.out
                refine (take_known wa g c d s 2 mc to 2 10 nw2 ⟨0, 0, false, .slice none 0 0, []⟩ HCA.out hno hto (arC_is hAR) hnl hnu hown rfl ha hth hroom hwfk (by omega)).mono ?_
                rintro e wz ⟨rfl, hnz, hkz⟩
                have hlz := HLA.out.cache HCA.out hmine HOW.out HC.out.1 hkz
                have hoz := HOA.out.then hkz (fun b _ hb => by have := HFO.out b hb; omega)
                have hS2 : SInv (NS.learn { s with now := nw2 } to mc) (putI T to (.int .i64 mc)) (k + 1) many gone := HS.out.learn HTO.out
                simp only [arpCells]
                have hL0 := LA_none ha
                have hke := (Only.refl (fun _ => False) wz).alloc (.cells #[.int .i64 0, .int .i64 0, .int .i64 0, .int .i64 0, .int .i64 0] 31)
                have hnE := hnz.keep hke
                have hlE := hlz.keep hke
                have hoE := hoz.then hke (fun _ _ h => h)
                have hrE := hlE.rows to
                rw [hL0] at hrE
                obtain ⟨ra, rcap, hrv⟩ := hrE.len
                rw [show ([] : List Int).length = 0 from rfl] at hrv
                have hlk := hlE.waits.look (P := Try.prog) und_mapis und_int (zero_ints _) to false
                simp only [Bool.false_eq_true, if_false] at hlk
                rw [show (getI Wl to).getD (.slice none 0 0) = .slice ra 0 rcap from hrv] at hlk
                have hmt := hlE.told
                have HE := Lib.hid (show _ ∧ _ ∧ _ ∧ B ≤ _ from ⟨hnE, hlE, hoE, Nat.le_trans HBQ.out (Nat.le_trans hkz.size hke.size)⟩)
                have HS2 := Lib.hid hS2
                have HL0 := Lib.hid hL0
                have hgo : gone ≤ 60 ∧ 0 ≤ gone := by have := HS0.out.cnt; have := HS0.out.many1; have := HS0.out.gone0; have := HK60.out; omega
                obtain ⟨hgo1, hgo0⟩ := hgo
                clear hnl hnu hno hmine hAR hto hown hkl hroom hwfk ha hth hlz hoz hnE hlE hoE hrE hke hnz hkz hS2 hL0
                go_wp2_with (at_mapUpdate; refine wpList_put_I _ rfl _ _ _ 44 rfl 3 3 und_mapii und_int m1 _ rfl hmt _ (.int .i64 mc) rfl rfl ?_; intro w5 hm5 hk5 hz5)
                obtain ⟨hnE, hlE, hoE, hbE⟩ := HE.out
                have hl5 := hlE.toldTo hk5 hm5
                have hn5 := hnE.beside (show (NS.learn { s with now := nw2 } to mc).mine = true from HS0.out.mine) (show ∀ b, (NS.learn { s with now := nw2 } to mc).own.ownBlock = some b → b < B from HOW.out) hk5 (fun b hb => by rw [hb]; exact .inl ⟨_, hmt, fun e => HC.out.1.1 e.symm, fun e => HC.out.1.2.1 e.symm⟩)
                have ho5 := hoE.then hk5 (fun b hb e => by have := HC.out.2.2.1; omega)
                have hb5 : B ≤ w5.heap.size := Nat.le_trans hbE hk5.size
                have HE5 := Lib.hid (show _ ∧ _ ∧ _ ∧ _ from ⟨hn5, hl5, ho5, hb5⟩)
                have hmw := hl5.waits
                clear hnE hlE hoE hbE HE hl5 hn5 ho5 hb5 hk5 hm5 hz5 hlk hrv hmt
                go_loopw [208] (fun iv wr => iv = .int .i64 0 ∧ wr = w5) (fun _ _ => 0)
                case atStart => exact ⟨rfl, rfl⟩
                case round =>
                  obtain ⟨rfl, rfl⟩ := hrel
                  go_wp2_with (at_mapUpdate; refine wpList_put_I _ rfl _ _ _ 45 rfl 3 52 und_mapis und_int m2 _ rfl hmw _ (.slice none 0 0) rfl rfl ?_; intro w6 hm6 hk6 hz6)
                  obtain ⟨hn5, hl5, ho5, hb5⟩ := HE5.out
                  have hl6 : LInv w6 B m1 m2 (putI T to (.int .i64 mc)) (putI Wl to (.slice none 0 0)) (LA s.A) :=
                    hl5.row hb5 to (.slice none 0 0) ((Only.refl _ _)) (.inl ⟨rfl, HL0.out⟩) (fun b _ => rfl) (fun b hb => (by cases hb)) hk6 hm6
                  have hn6 := hn5.beside (show (NS.learn { s with now := nw2 } to mc).mine = true from HS0.out.mine) (show ∀ b, (NS.learn { s with now := nw2 } to mc).own.ownBlock = some b → b < B from HOW.out) hk6 (fun b hb => by rw [hb]; exact .inl ⟨_, hmw, fun e => HC.out.1.2.2.1 e.symm, fun e => HC.out.1.2.2.2 e.symm⟩)
                  have ho6 := ho5.then hk6 (fun b hb e => by have := HC.out.2.2.2.1; omega)
                  go_roundw
                  case rel => exact ⟨k + 1, nw2, many, gone, (NS.learn { s with now := nw2 } to mc), putI T to (.int .i64 mc), putI Wl to (.slice none 0 0), rfl, rfl, by go_num, by go_num, by omega, by omega, ⟨rfl, hn6, HS2.out, hl6, HFO.out, HOW.out, ho6, Nat.le_trans hb5 hk6.size⟩⟩
                  case measure => simp [intOf]; omega
            | false =>
              as_aux_lemma =>
                obtain ⟨hnl, hnu, hno, hmine, hAR, hto, hown, hkl, hroom, hwfk⟩ := HSV.out
                refine (take_none wa g c d s 2 mc to 2 10 nw2 ⟨0, 0, false, .slice none 0 0, []⟩ HCA.out hno hto (arC_is hAR) hnl hnu hown rfl ha hth).mono ?_
                rintro e wz ⟨rfl, hnz, hkz⟩
                have hlz := HLA.out.cache HCA.out hmine HOW.out HC.out.1 hkz
                have hoz := HOA.out.then hkz (fun b _ hb => by have := HFO.out b hb; omega)
                have hS2 : SInv ({ s with now := nw2 } : NS) (putI T to (.int .i64 mc)) (k + 1) many gone := HS.out.told (by
                  have h2 := HCA.out.kmap.keys
                  unfold encH at h2
                  rw [List.map_map] at h2
                  exact h2) (by
                  cases hfd : ({ s with now := nw2 } : NS).find to nw2 with
                  | none => rfl
                  | some y => rw [hfd] at hth; cases hth)
                simp only [arpCells]
                have hL0 := LA_none ha
                have hke := (Only.refl (fun _ => False) wz).alloc (.cells #[.int .i64 0, .int .i64 0, .int .i64 0, .int .i64 0, .int .i64 0] 31)
                have hnE := hnz.keep hke
                have hlE := hlz.keep hke
                have hoE := hoz.then hke (fun _ _ h => h)
                have hrE := hlE.rows to
                rw [hL0] at hrE
                obtain ⟨ra, rcap, hrv⟩ := hrE.len
                rw [show ([] : List Int).length = 0 from rfl] at hrv
                have hlk := hlE.waits.look (P := Try.prog) und_mapis und_int (zero_ints _) to false
                simp only [Bool.false_eq_true, if_false] at hlk
                rw [show (getI Wl to).getD (.slice none 0 0) = .slice ra 0 rcap from hrv] at hlk
                have hmt := hlE.told
                have HE := Lib.hid (show _ ∧ _ ∧ _ ∧ B ≤ _ from ⟨hnE, hlE, hoE, Nat.le_trans HBQ.out (Nat.le_trans hkz.size hke.size)⟩)
                have HS2 := Lib.hid hS2
                have HL0 := Lib.hid hL0
                have hgo : gone ≤ 60 ∧ 0 ≤ gone := by have := HS0.out.cnt; have := HS0.out.many1; have := HS0.out.gone0; have := HK60.out; omega
                obtain ⟨hgo1, hgo0⟩ := hgo
                clear hnl hnu hno hmine hAR hto hown hkl hroom hwfk ha hth hlz hoz hnE hlE hoE hrE hke hnz hkz hS2 hL0
                go_wp2_with (at_mapUpdate; refine wpList_put_I _ rfl _ _ _ 44 rfl 3 3 und_mapii und_int m1 _ rfl hmt _ (.int .i64 mc) rfl rfl ?_; intro w5 hm5 hk5 hz5)
                obtain ⟨hnE, hlE, hoE, hbE⟩ := HE.out
                have hl5 := hlE.toldTo hk5 hm5
                have hn5 := hnE.beside (show ({ s with now := nw2 } : NS).mine = true from HS0.out.mine) (show ∀ b, ({ s with now := nw2 } : NS).own.ownBlock = some b → b < B from HOW.out) hk5 (fun b hb => by rw [hb]; exact .inl ⟨_, hmt, fun e => HC.out.1.1 e.symm, fun e => HC.out.1.2.1 e.symm⟩)
                have ho5 := hoE.then hk5 (fun b hb e => by have := HC.out.2.2.1; omega)
                have hb5 : B ≤ w5.heap.size := Nat.le_trans hbE hk5.size
                have HE5 := Lib.hid (show _ ∧ _ ∧ _ ∧ _ from ⟨hn5, hl5, ho5, hb5⟩)
                have hmw := hl5.waits
                clear hnE hlE hoE hbE HE hl5 hn5 ho5 hb5 hk5 hm5 hz5 hlk hrv hmt
                go_loopw [208] (fun iv wr => iv = .int .i64 0 ∧ wr = w5) (fun _ _ => 0)
                case atStart => exact ⟨rfl, rfl⟩
                case round =>
                  obtain ⟨rfl, rfl⟩ := hrel
                  go_wp2_with (at_mapUpdate; refine wpList_put_I _ rfl _ _ _ 45 rfl 3 52 und_mapis und_int m2 _ rfl hmw _ (.slice none 0 0) rfl rfl ?_; intro w6 hm6 hk6 hz6)
                  obtain ⟨hn5, hl5, ho5, hb5⟩ := HE5.out
                  have hl6 : LInv w6 B m1 m2 (putI T to (.int .i64 mc)) (putI Wl to (.slice none 0 0)) (LA s.A) :=
                    hl5.row hb5 to (.slice none 0 0) ((Only.refl _ _)) (.inl ⟨rfl, HL0.out⟩) (fun b _ => rfl) (fun b hb => (by cases hb)) hk6 hm6
                  have hn6 := hn5.beside (show ({ s with now := nw2 } : NS).mine = true from HS0.out.mine) (show ∀ b, ({ s with now := nw2 } : NS).own.ownBlock = some b → b < B from HOW.out) hk6 (fun b hb => by rw [hb]; exact .inl ⟨_, hmw, fun e => HC.out.1.2.2.1 e.symm, fun e => HC.out.1.2.2.2 e.symm⟩)
                  have ho6 := ho5.then hk6 (fun b hb e => by have := HC.out.2.2.2.1; omega)
                  go_roundw
                  case rel => exact ⟨k + 1, nw2, many, gone, ({ s with now := nw2 } : NS), putI T to (.int .i64 mc), putI Wl to (.slice none 0 0), rfl, rfl, by go_num, by go_num, by omega, by omega, ⟨rfl, hn6, HS2.out, hl6, HFO.out, HOW.out, ho6, Nat.le_trans hb5 hk6.size⟩⟩
                  case measure => simp [intOf]; omega
          | some q =>
            as_aux_lemma =>
              obtain ⟨hnl, hnu, hno, hmine, hAR, hto, hown, hkl, hroom, hwfk⟩ := HSV.out
              have hq1 : q.1 = to := by simpa using List.find?_some ha
              obtain ⟨qt, x⟩ := q
              simp only at hq1
              subst hq1
              have hxA := List.mem_of_find?_eq_some ha
              obtain ⟨_, _, hxne, _, _, hids⟩ := HS0.out.ask _ hxA
              simp only at hxne hids
              refine (take_waits wa g c d s 2 mc qt 2 10 nw2 x HCA.out hno hto (arC_is hAR) hnl hnu hown rfl ha hxne hroom hwfk (by omega)).mono ?_
              rintro e wz ⟨rfl, hnz, hrowz, hkz⟩
              have hlz := HLA.out.cache HCA.out hmine HOW.out HC.out.1 hkz
              have hoz := HOA.out.then hkz (fun b _ hb => by have := HFO.out b hb; omega)
              have hS2 : SInv (NS.learn { s with now := nw2, A := delA s.A qt } qt mc) (putI T qt (.int .i64 mc)) (k + 1) many (gone + (x.L.length : Int)) := (HS.out.del HCA.out.keysA hxA).learn HTO.out
              simp only [arpCells]
              have hL0 := LA_some ha
              simp only at hL0
              have hke := (Only.refl (fun _ => False) wz).alloc (.cells #[.int .i64 0, .int .i64 0, .int .i64 0, .int .i64 0, .int .i64 0] 31)
              have hnE := hnz.keep hke
              have hlE := hlz.keep hke
              have hoE := hoz.then hke (fun _ _ h => h)
              have hrw := row_only hrowz hke (fun _ _ h => h)
              rw [pks_pksOf, show x.L.length = (x.L.map fun i => (qt, i)).length by rw [List.length_map]] at hrw
              obtain ⟨la, lcap, hlv, hlc⟩ := row_form hrw
              rw [List.length_map] at hlv
              have hrE := hlE.rows qt
              rw [hL0] at hrE
              obtain ⟨ra, rcap, hrv⟩ := hrE.len
              have hlenx := le_waiting hxA
              simp only at hlenx
              have hfw := HS0.out.few
              obtain ⟨N, hN⟩ : ∃ N, x.L.length = N := ⟨_, rfl⟩
              rw [hN] at hrv hlv hlenx hS2
              rw [hlv]
              have hlk := hlE.waits.look (P := Try.prog) und_mapis und_int (zero_ints _) qt false
              simp only [Bool.false_eq_true, if_false] at hlk
              rw [show (getI Wl qt).getD (.slice none 0 0) = .slice ra N rcap from hrv] at hlk
              have hmt := hlE.told
              have HE := Lib.hid (show _ ∧ _ ∧ _ ∧ B ≤ _ from ⟨hnE, hlE, hoE, Nat.le_trans HBQ.out (Nat.le_trans hkz.size hke.size)⟩)
              have HS2 := Lib.hid hS2
              have HL0 := Lib.hid hL0
              have HLC := Lib.hid hlc
              have HNX := Lib.hid hN
              have HIDS := Lib.hid hids
              have HNL := Lib.hid (show N ≤ 30 by omega)
              have HRV := Lib.hid hrv
              have HSC := Lib.hid (show x.L ≠ [] from hxne)
              have hgo : gone ≤ 60 ∧ 0 ≤ gone := by have := HS0.out.cnt; have := HS0.out.many1; have := HS0.out.gone0; have := HK60.out; omega
              obtain ⟨hgo1, hgo0⟩ := hgo
              have hN30 : N ≤ 30 := HNL.out
              have hwr : wz.heap.size ≤ wz.heap.size := Nat.le_refl _
              clear hnl hnu hno hmine hAR hto hown hkl hroom hwfk ha hxne hids hlz hoz hnE hlE hoE hrE hke hnz hkz hS2 hL0 hrw hrowz hlc hlenx hfw hN hrv hlv hwr hxA
              go_wp2_with (at_mapUpdate; refine wpList_put_I _ rfl _ _ _ 44 rfl 3 3 und_mapii und_int m1 _ rfl hmt _ (.int .i64 mc) rfl rfl ?_; intro w5 hm5 hk5 hz5)
              obtain ⟨hnE, hlE, hoE, hbE⟩ := HE.out
              have hl5 := hlE.toldTo hk5 hm5
              have hn5 := hnE.beside (show (NS.learn { s with now := nw2, A := delA s.A qt } qt mc).mine = true from HS0.out.mine) (show ∀ b, (NS.learn { s with now := nw2, A := delA s.A qt } qt mc).own.ownBlock = some b → b < B from HOW.out) hk5 (fun b hb => by rw [hb]; exact .inl ⟨_, hmt, fun e => HC.out.1.1 e.symm, fun e => HC.out.1.2.1 e.symm⟩)
              have ho5 := hoE.then hk5 (fun b hb e => by have := HC.out.2.2.1; omega)
              have hb5 : B ≤ w5.heap.size := Nat.le_trans hbE hk5.size
              have HE5 := Lib.hid (show _ ∧ _ ∧ _ ∧ _ from ⟨hn5, hl5, ho5, hb5⟩)
              have HLT := Lib.hid hlE.told
              have HK5 := Lib.hid hk5
              clear hnE hlE hoE hbE HE hl5 hn5 ho5 hb5 hk5 hm5 hz5 hlk hmt
              go_loopw [208] (fun iv wr => ∃ j : Nat, iv = .int .i64 j ∧ j ≤ N ∧ Only (fun _ => False) w5 wr) (fun iv _ => N - (intOf iv).toNat)
              case atStart => exact ⟨0, rfl, by omega, Only.refl _ _⟩
              case round =>
                obtain ⟨j, rfl, hj, hoj⟩ := hrel
                have HOJ := Lib.hid hoj
                clear hoj
                by_cases hlt : j < N
                · obtain ⟨xi, hxi⟩ : ∃ xi, x.L[j]? = some xi := ⟨_, List.getElem?_eq_getElem (by have := HNX.out; omega)⟩
                  obtain ⟨ga, hga, hgn, hgc⟩ := HLC.out j (qt, xi) (by rw [List.getElem?_map, hxi]; rfl)
                  subst hga
                  have hgc' : ∀ t v, (pk qt xi)[t]? = some v → wr.cell? ⟨ga, j * 10 + t, none⟩ = some v := fun t v hv =>
                    cell_only HOJ.out (fun h => h) (cell_only HK5.out (fun e => hgn _ _ HLT.out (show ga = m1 from e)) (hgc t v hv))
                  have hxid := HIDS.out xi (List.mem_of_getElem? hxi)
                  have hl5 := HE5.out.2.1
                  have hrE := hl5.rows qt
                  rw [HL0.out] at hrE
                  obtain ⟨rb, ro, rc, hrv, hrc⟩ := hrE.cell hxi
                  rw [HNX.out] at hrv
                  have hrcw := cell_only HOJ.out (fun h => h) hrc
                  have hmw := hl5.waits.only HOJ.out (fun h => h)
                  have HLKA := Lib.hid (show ∀ w', MapI w' m2 Wl → (Instr.lookup 45 (.map (some m2)) (.int .i64 qt) false).run Try.prog w' = .ok (.slice (some ⟨rb, ro, none⟩) N rc) w' from fun w' h' => by
                    have h1 := h'.look (P := Try.prog) und_mapis und_int (zero_ints _) qt false
                    simp only [Bool.false_eq_true, if_false] at h1
                    rw [h1, show (getI Wl qt).getD (.slice none 0 0) = .slice (some ⟨rb, ro, none⟩) N rc from hrv])
                  have hk1 := (Only.refl (fun _ => False) wr).alloc (.cells #[.int .i64 10, .int .i64 qt, .int .i64 9, .int .i64 0, .int .i64 xi, .int .i64 0, .bool false, .bool false, .string ⟨#[]⟩, .string ⟨#[]⟩] 47)
                  have hb1 := blk_new wr (.cells #[.int .i64 10, .int .i64 qt, .int .i64 9, .int .i64 0, .int .i64 xi, .int .i64 0, .bool false, .bool false, .string ⟨#[]⟩, .string ⟨#[]⟩] 47)
                  have hm1w := hmw.only hk1 (fun h => h)
                  have hr1w := cell_only hk1 (fun h => h) hrcw
                  have HK1 := Lib.hid hk1
                  have HXI := Lib.hid hxid
                  clear hxi hgc hl5 hrE hrv hrc hrcw hmw hk1 hgn hxid
                  go_wp2_with (refine wpList_load_pk _ rfl _ rfl ga (j * 10) rfl qt xi hgc' ?_)
                  generalize wr.alloc (.cells #[.int .i64 10, .int .i64 qt, .int .i64 9, .int .i64 0, .int .i64 xi, .int .i64 0, .bool false, .bool false, .string ⟨#[]⟩, .string ⟨#[]⟩] 47) = w1x at hb1 hm1w hr1w HK1 ⊢
                  generalize wr.heap.size = pb at hb1 ⊢
                  refine wp_region_facts_tail 14 ocDs ocNeed ocGs (fun w' => w'.heap[pb]? = some (.cells #[.int .i64 10, .int .i64 qt, .int .i64 9, .int .i64 0, .int .i64 xi, .int .i64 0, .bool false, .bool false, .string ⟨#[]⟩, .string ⟨#[]⟩] 47 (0, 0)) ∧ MapI w' m2 Wl ∧ w'.cell? ⟨rb, ro + j, none⟩ = some (.int .i64 xi) ∧ Only (fun _ => False) wr w') (Only (fun _ => False)) (ocG pb m2 rb ro N rc j qt xi) rfl rfl (by kernel_rfl) (by kernel_rfl) (by kernel_rfl) (by kernel_rfl) (by kernel_rfl) ⟨hb1, hm1w.only ((Only.refl (fun _ => False) _).drew) (fun h => h), hr1w, HK1.out.drew⟩ ocG.keep ocG.guard ?_ ?_
                  · refine And.intro ?op0 (And.intro ?op1 (And.intro ?op2 (And.intro ?op3 (And.intro ?op4 (And.intro ?op5 (And.intro ?op6 (And.intro ?op7 (And.intro ?op8 (And.intro ?op9 (And.intro ?op10 (And.intro ?op11 (And.intro ?op12 (And.intro ?op13 trivial)))))))))))))
                    case op0 =>
                      intro ev w1 hT1 hc hf hfr hG
                      rw [if_pos (by decide)]
                      obtain ⟨hB, hM, hC, hO⟩ := hT1
                      have h23 : ev (.tmp 23) = .pointer (some ⟨pb, 0, none⟩) := hfr 23 (by decide)
                      clear hG hfr
                      refine OpSays.value (v := .pointer (some ⟨pb, 4, none⟩)) (w' := w1) ?_ ⟨⟨hB, hM, hC, hO⟩, Only.refl _ _, rfl⟩
                      go_simp
                    case op1 =>
                      intro ev w1 hT1 hc hf hfr hG
                      rw [if_pos (by decide)]
                      obtain ⟨hB, hM, hC, hO⟩ := hT1
                      have hg : (ev (.tmp 213) = .pointer (some ⟨pb, 4, none⟩)) ∧ True := hG
                      obtain ⟨g0, _⟩ := hg
                      clear hG hfr
                      have c := blk_cell hB 4
                      simp only [List.getElem?_toArray, List.getElem?_cons_zero, List.getElem?_cons_succ] at c
                      refine OpSays.value (v := .int .i64 xi) (w' := w1) ?_ ⟨⟨hB, hM, hC, hO⟩, Only.refl _ _, rfl⟩
                      go_simp
                    case op2 =>
                      intro ev w1 hT1 hc hf hfr hG
                      rw [if_pos (by decide)]
                      obtain ⟨hB, hM, hC, hO⟩ := hT1
                      have h5 : ev (.tmp 5) = .map (some m2) := hfr 5 (by decide)
                      clear hG hfr
                      refine OpSays.value (v := .map (some m2)) (w' := w1) ?_ ⟨⟨hB, hM, hC, hO⟩, Only.refl _ _, rfl⟩
                      go_simp
                    case op3 =>
                      intro ev w1 hT1 hc hf hfr hG
                      rw [if_pos (by decide)]
                      obtain ⟨hB, hM, hC, hO⟩ := hT1
                      have h11 : ev (.tmp 11) = .int .i64 qt := hfr 11 (by decide)
                      clear hG hfr
                      refine OpSays.value (v := .int .i64 qt) (w' := w1) ?_ ⟨⟨hB, hM, hC, hO⟩, Only.refl _ _, rfl⟩
                      go_simp
                    case op4 =>
                      intro ev w1 hT1 hc hf hfr hG
                      rw [if_pos (by decide)]
                      obtain ⟨hB, hM, hC, hO⟩ := hT1
                      have hg : (ev (.tmp 215) = .map (some m2)) ∧ (ev (.tmp 216) = .int .i64 qt) ∧ True := hG
                      obtain ⟨g2, g3, _⟩ := hg
                      clear hG hfr
                      have hl := HLKA.out w1 hM
                      refine OpSays.value (v := .slice (some ⟨rb, ro, none⟩) N rc) (w' := w1) ?_ ⟨⟨hB, hM, hC, hO⟩, Only.refl _ _, rfl⟩
                      go_simp
                    case op5 =>
                      intro ev w1 hT1 hc hf hfr hG
                      rw [if_pos (by decide)]
                      obtain ⟨hB, hM, hC, hO⟩ := hT1
                      have h22 : ev (.tmp 22) = .int .i64 (j : Int) := hfr 22 (by decide)
                      clear hG hfr
                      refine OpSays.value (v := .int .i64 (j : Int)) (w' := w1) ?_ ⟨⟨hB, hM, hC, hO⟩, Only.refl _ _, rfl⟩
                      go_simp
                    case op6 =>
                      intro ev w1 hT1 hc hf hfr hG
                      rw [if_pos (by decide)]
                      obtain ⟨hB, hM, hC, hO⟩ := hT1
                      have hg : (ev (.tmp 217) = .slice (some ⟨rb, ro, none⟩) N rc) ∧ (ev (.tmp 218) = .int .i64 (j : Int)) ∧ True := hG
                      obtain ⟨g4, g5, _⟩ := hg
                      clear hG hfr
                      have hp := hlt
                      refine OpSays.value (v := .pointer (some ⟨rb, ro + j, none⟩)) (w' := w1) ?_ ⟨⟨hB, hM, hC, hO⟩, Only.refl _ _, rfl⟩
                      go_simp
                    case op7 =>
                      intro ev w1 hT1 hc hf hfr hG
                      rw [if_pos (by decide)]
                      obtain ⟨hB, hM, hC, hO⟩ := hT1
                      have hg : (ev (.tmp 219) = .pointer (some ⟨rb, ro + j, none⟩)) ∧ True := hG
                      obtain ⟨g6, _⟩ := hg
                      clear hG hfr
                      have c := hC
                      refine OpSays.value (v := .int .i64 xi) (w' := w1) ?_ ⟨⟨hB, hM, hC, hO⟩, Only.refl _ _, rfl⟩
                      go_simp
                    case op8 =>
                      intro ev w1 hT1 hc hf hfr hG
                      rw [if_pos (by decide)]
                      obtain ⟨hB, hM, hC, hO⟩ := hT1
                      have hg : (ev (.tmp 214) = .int .i64 xi) ∧ (ev (.tmp 220) = .int .i64 xi) ∧ True := hG
                      obtain ⟨g1, g7, _⟩ := hg
                      clear hG hfr
                      refine OpSays.value (v := .bool false) (w' := w1) ?_ ⟨⟨hB, hM, hC, hO⟩, Only.refl _ _, rfl⟩
                      go_simp
                    case op9 =>
                      intro ev w1 hT1 hc hf hfr hG
                      rw [if_pos (by decide)]
                      obtain ⟨hB, hM, hC, hO⟩ := hT1
                      have hg : (ev (.tmp 221) = .bool false) ∧ True := hG
                      obtain ⟨g8, _⟩ := hg
                      clear hG hfr
                      refine OpSays.value (v := .bool false) (w' := w1) ?_ ⟨⟨hB, hM, hC, hO⟩, Only.refl _ _, rfl⟩
                      go_simp
                    case op10 =>
                      intro ev w1 hT1 hc hf hfr hG
                      rw [if_pos (by decide)]
                      obtain ⟨hB, hM, hC, hO⟩ := hT1
                      have h23 : ev (.tmp 23) = .pointer (some ⟨pb, 0, none⟩) := hfr 23 (by decide)
                      clear hG hfr
                      have c0 := blk_cell hB 0
                      have c1 := blk_cell hB 1
                      have c2 := blk_cell hB 2
                      have c3 := blk_cell hB 3
                      have c4 := blk_cell hB 4
                      have c5 := blk_cell hB 5
                      have c6 := blk_cell hB 6
                      have c7 := blk_cell hB 7
                      have c8 := blk_cell hB 8
                      have c9 := blk_cell hB 9
                      simp only [List.getElem?_toArray, List.getElem?_cons_zero, List.getElem?_cons_succ] at c0 c1 c2 c3 c4 c5 c6 c7 c8 c9
                      refine OpSays.value (v := .agg #[.int .i64 10, .int .i64 qt, .int .i64 9, .int .i64 0, .int .i64 xi, .int .i64 0, .bool false, .bool false, .string ⟨#[]⟩, .string ⟨#[]⟩]) (w' := w1) ?_ ⟨⟨hB, hM, hC, hO⟩, Only.refl _ _, rfl⟩
                      go_simp
                    case op11 =>
                      intro ev w1 hT1 hc hf hfr hG
                      rw [if_pos (by decide)]
                      obtain ⟨hB, hM, hC, hO⟩ := hT1
                      have hg : (ev (.tmp 223) = .agg #[.int .i64 10, .int .i64 qt, .int .i64 9, .int .i64 0, .int .i64 xi, .int .i64 0, .bool false, .bool false, .string ⟨#[]⟩, .string ⟨#[]⟩]) ∧ True := hG
                      obtain ⟨g10, _⟩ := hg
                      clear hG hfr
                      refine OpSays.enter (f := 16) (args := #[.agg #[.int .i64 10, .int .i64 qt, .int .i64 9, .int .i64 0, .int .i64 xi, .int .i64 0, .bool false, .bool false, .string ⟨#[]⟩, .string ⟨#[]⟩]]) (w' := w1) ?_ ?_
                      · go_simp
                      · refine (icheck_any w1 qt xi (by have := HTO.out; omega) (by have := HXI.out; omega)).mono ?_
                        rintro e' w2 ⟨rfl, hk⟩
                        exact ⟨_, rfl, ⟨hk.at hB (fun h => h), hM.only hk (fun h => h), cell_only hk (fun h => h) hC, hO.trans hk⟩, hk, rfl⟩
                    case op12 =>
                      intro ev w1 hT1 hc hf hfr hG
                      rw [if_pos (by decide)]
                      obtain ⟨hB, hM, hC, hO⟩ := hT1
                      have hg : (ev (.tmp 224) = .int .i64 0) ∧ True := hG
                      obtain ⟨g11, _⟩ := hg
                      clear hG hfr
                      refine OpSays.value (v := .bool false) (w' := w1) ?_ ⟨⟨hB, hM, hC, hO⟩, Only.refl _ _, rfl⟩
                      go_simp
                    case op13 =>
                      intro ev w1 hT1 hc hf hfr hG
                      rw [if_pos (by decide)]
                      obtain ⟨hB, hM, hC, hO⟩ := hT1
                      have hg : (ev (.tmp 222) = .bool false) ∧ (ev (.tmp 225) = .bool false) ∧ True := hG
                      obtain ⟨g9, g12, _⟩ := hg
                      clear hG hfr
                      refine OpSays.value (v := .bool false) (w' := w1) ?_ ⟨⟨hB, hM, hC, hO⟩, Only.refl _ _, rfl⟩
                      go_simp
                  rintro ⟨tm, df⟩ w2x ⟨hB2, hM2, hC2, hO2⟩ hsz hdf hfr hG
                  have k0 : tm.getD 0 undef = Value.slice (some { block := b, off := off }) n cap := hfr 0 (by decide)
                  have k1 : tm.getD 1 undef = undef := hfr 1 (by decide)
                  have k2 : tm.getD 2 undef = u2 := hfr 2 (by decide)
                  have k3 : tm.getD 3 undef = Value.pointer (some { block := g, off := 0 }) := hfr 3 (by decide)
                  have k4 : tm.getD 4 undef = Value.map (some m1) := hfr 4 (by decide)
                  have k5 : tm.getD 5 undef = Value.map (some m2) := hfr 5 (by decide)
                  have k6 : tm.getD 6 undef = Value.int IntKind.i64 nw2 := hfr 6 (by decide)
                  have k7 : tm.getD 7 undef = Value.int IntKind.i64 many := hfr 7 (by decide)
                  have k8 : tm.getD 8 undef = Value.int IntKind.i64 gone := hfr 8 (by decide)
                  have k9 : tm.getD 9 undef = Value.int IntKind.i64 ↑k := hfr 9 (by decide)
                  have k10 : tm.getD 10 undef = Value.pointer (some { block := p, off := 0 }) := hfr 10 (by decide)
                  have k11 : tm.getD 11 undef = Value.int IntKind.i64 qt := hfr 11 (by decide)
                  have k12 : tm.getD 12 undef = u12 := hfr 12 (by decide)
                  have k13 : tm.getD 13 undef = u13 := hfr 13 (by decide)
                  have k14 : tm.getD 14 undef = u14 := hfr 14 (by decide)
                  have k15 : tm.getD 15 undef = u15 := hfr 15 (by decide)
                  have k16 : tm.getD 16 undef = u16 := hfr 16 (by decide)
                  have k17 : tm.getD 17 undef = Value.int IntKind.i64 mc := hfr 17 (by decide)
                  have k18 : tm.getD 18 undef = Value.pointer (some { block := wz.heap.size, off := 0 }) := hfr 18 (by decide)
                  have k19 : tm.getD 19 undef = Value.slice (some { block := ga, off := 0 }) N lcap := hfr 19 (by decide)
                  have k20 : tm.getD 20 undef = Value.int IntKind.i64 mc := hfr 20 (by decide)
                  have k21 : tm.getD 21 undef = Value.int IntKind.i64 0 := hfr 21 (by decide)
                  have k22 : tm.getD 22 undef = Value.int IntKind.i64 ↑j := hfr 22 (by decide)
                  have k23 : tm.getD 23 undef = Value.pointer (some { block := pb, off := 0 }) := hfr 23 (by decide)
                  have k24 : tm.getD 24 undef = u24 := hfr 24 (by decide)
                  have k25 : tm.getD 25 undef = u25 := hfr 25 (by decide)
                  have k26 : tm.getD 26 undef = u26 := hfr 26 (by decide)
                  have k27 : tm.getD 27 undef = undef := hfr 27 (by decide)
                  have k28 : tm.getD 28 undef = u28 := hfr 28 (by decide)
                  have k29 : tm.getD 29 undef = undef := hfr 29 (by decide)
                  have k30 : tm.getD 30 undef = undef := hfr 30 (by decide)
                  have k31 : tm.getD 31 undef = Value.pointer (some { block := g, off := 0 }) := hfr 31 (by decide)
                  have k32 : tm.getD 32 undef = Value.pointer (some { block := g, off := 0 }) := hfr 32 (by decide)
                  have k33 : tm.getD 33 undef = Value.bool false := hfr 33 (by decide)
                  have k34 : tm.getD 34 undef = Value.bool false := hfr 34 (by decide)
                  have k35 : tm.getD 35 undef = Value.bool true := hfr 35 (by decide)
                  have k36 : tm.getD 36 undef = Value.bool false := hfr 36 (by decide)
                  have k37 : tm.getD 37 undef = Value.bool false := hfr 37 (by decide)
                  have k38 : tm.getD 38 undef = Value.map (some m1) := hfr 38 (by decide)
                  have k39 : tm.getD 39 undef = Value.map (some m2) := hfr 39 (by decide)
                  have k40 : tm.getD 40 undef = Value.int IntKind.i64 ↑k := hfr 40 (by decide)
                  have k41 : tm.getD 41 undef = Value.slice (some { block := b, off := off }) n cap := hfr 41 (by decide)
                  have k42 : tm.getD 42 undef = Value.int IntKind.i64 ↑n := hfr 42 (by decide)
                  have k43 : tm.getD 43 undef = Value.bool true := hfr 43 (by decide)
                  have k44 : tm.getD 44 undef = Value.bool true := hfr 44 (by decide)
                  have k45 : tm.getD 45 undef = Value.int IntKind.i64 ↑k := hfr 45 (by decide)
                  have k46 : tm.getD 46 undef = Value.bool true := hfr 46 (by decide)
                  have k47 : tm.getD 47 undef = Value.bool true := hfr 47 (by decide)
                  have k48 : tm.getD 48 undef = u48 := hfr 48 (by decide)
                  have k49 : tm.getD 49 undef = u49 := hfr 49 (by decide)
                  have k50 : tm.getD 50 undef = Value.slice (some { block := b, off := off }) n cap := hfr 50 (by decide)
                  have k51 : tm.getD 51 undef = Value.int IntKind.i64 ↑k := hfr 51 (by decide)
                  have k52 : tm.getD 52 undef = Value.pointer (some { block := b, off := off + k * 19 }) := hfr 52 (by decide)
                  have k53 : tm.getD 53 undef = Value.agg cs.toArray := hfr 53 (by decide)
                  have k54 : tm.getD 54 undef = Value.int IntKind.i64 nw := hfr 54 (by decide)
                  have k55 : tm.getD 55 undef = Value.pointer (some { block := p, off := 2 }) := hfr 55 (by decide)
                  have k56 : tm.getD 56 undef = Value.int IntKind.i64 a2 := hfr 56 (by decide)
                  have k57 : tm.getD 57 undef = Value.int IntKind.i64 (a2 % 3) := hfr 57 (by decide)
                  have k58 : tm.getD 58 undef = Value.int IntKind.i64 nw2 := hfr 58 (by decide)
                  have k59 : tm.getD 59 undef = Value.pointer (some { block := p, off := 1 }) := hfr 59 (by decide)
                  have k60 : tm.getD 60 undef = Value.int IntKind.i64 a1 := hfr 60 (by decide)
                  have k61 : tm.getD 61 undef = Value.int IntKind.i64 (a1 % 4) := hfr 61 (by decide)
                  have k62 : tm.getD 62 undef = Value.int IntKind.i64 qt := hfr 62 (by decide)
                  have k63 : tm.getD 63 undef = Value.pointer (some { block := p, off := 0 }) := hfr 63 (by decide)
                  have k64 : tm.getD 64 undef = Value.int IntKind.i64 a0 := hfr 64 (by decide)
                  have k65 : tm.getD 65 undef = Value.int IntKind.i64 1 := hfr 65 (by decide)
                  have k66 : tm.getD 66 undef = u66 := hfr 66 (by decide)
                  have k67 : tm.getD 67 undef = u67 := hfr 67 (by decide)
                  have k68 : tm.getD 68 undef = u68 := hfr 68 (by decide)
                  have k69 : tm.getD 69 undef = u69 := hfr 69 (by decide)
                  have k70 : tm.getD 70 undef = u70 := hfr 70 (by decide)
                  have k71 : tm.getD 71 undef = u71 := hfr 71 (by decide)
                  have k72 : tm.getD 72 undef = u72 := hfr 72 (by decide)
                  have k73 : tm.getD 73 undef = u73 := hfr 73 (by decide)
                  have k74 : tm.getD 74 undef = u74 := hfr 74 (by decide)
                  have k75 : tm.getD 75 undef = u75 := hfr 75 (by decide)
                  have k76 : tm.getD 76 undef = u76 := hfr 76 (by decide)
                  have k77 : tm.getD 77 undef = u77 := hfr 77 (by decide)
                  have k78 : tm.getD 78 undef = u78 := hfr 78 (by decide)
                  have k79 : tm.getD 79 undef = u79 := hfr 79 (by decide)
                  have k80 : tm.getD 80 undef = u80 := hfr 80 (by decide)
                  have k81 : tm.getD 81 undef = u81 := hfr 81 (by decide)
                  have k82 : tm.getD 82 undef = u82 := hfr 82 (by decide)
                  have k83 : tm.getD 83 undef = u83 := hfr 83 (by decide)
                  have k84 : tm.getD 84 undef = u84 := hfr 84 (by decide)
                  have k85 : tm.getD 85 undef = u85 := hfr 85 (by decide)
                  have k86 : tm.getD 86 undef = u86 := hfr 86 (by decide)
                  have k87 : tm.getD 87 undef = u87 := hfr 87 (by decide)
                  have k88 : tm.getD 88 undef = u88 := hfr 88 (by decide)
                  have k89 : tm.getD 89 undef = u89 := hfr 89 (by decide)
                  have k90 : tm.getD 90 undef = u90 := hfr 90 (by decide)
                  have k91 : tm.getD 91 undef = u91 := hfr 91 (by decide)
                  have k92 : tm.getD 92 undef = u92 := hfr 92 (by decide)
                  have k93 : tm.getD 93 undef = u93 := hfr 93 (by decide)
                  have k94 : tm.getD 94 undef = u94 := hfr 94 (by decide)
                  have k95 : tm.getD 95 undef = u95 := hfr 95 (by decide)
                  have k96 : tm.getD 96 undef = u96 := hfr 96 (by decide)
                  have k97 : tm.getD 97 undef = u97 := hfr 97 (by decide)
                  have k98 : tm.getD 98 undef = u98 := hfr 98 (by decide)
                  have k99 : tm.getD 99 undef = u99 := hfr 99 (by decide)
                  have k100 : tm.getD 100 undef = u100 := hfr 100 (by decide)
                  have k101 : tm.getD 101 undef = u101 := hfr 101 (by decide)
                  have k102 : tm.getD 102 undef = u102 := hfr 102 (by decide)
                  have k103 : tm.getD 103 undef = u103 := hfr 103 (by decide)
                  have k104 : tm.getD 104 undef = u104 := hfr 104 (by decide)
                  have k105 : tm.getD 105 undef = u105 := hfr 105 (by decide)
                  have k106 : tm.getD 106 undef = u106 := hfr 106 (by decide)
                  have k107 : tm.getD 107 undef = u107 := hfr 107 (by decide)
                  have k108 : tm.getD 108 undef = u108 := hfr 108 (by decide)
                  have k109 : tm.getD 109 undef = u109 := hfr 109 (by decide)
                  have k110 : tm.getD 110 undef = u110 := hfr 110 (by decide)
                  have k111 : tm.getD 111 undef = Value.bool false := hfr 111 (by decide)
                  have k112 : tm.getD 112 undef = Value.bool false := hfr 112 (by decide)
                  have k113 : tm.getD 113 undef = u113 := hfr 113 (by decide)
                  have k114 : tm.getD 114 undef = u114 := hfr 114 (by decide)
                  have k115 : tm.getD 115 undef = u115 := hfr 115 (by decide)
                  have k116 : tm.getD 116 undef = u116 := hfr 116 (by decide)
                  have k117 : tm.getD 117 undef = u117 := hfr 117 (by decide)
                  have k118 : tm.getD 118 undef = u118 := hfr 118 (by decide)
                  have k119 : tm.getD 119 undef = u119 := hfr 119 (by decide)
                  have k120 : tm.getD 120 undef = u120 := hfr 120 (by decide)
                  have k121 : tm.getD 121 undef = u121 := hfr 121 (by decide)
                  have k122 : tm.getD 122 undef = u122 := hfr 122 (by decide)
                  have k123 : tm.getD 123 undef = u123 := hfr 123 (by decide)
                  have k124 : tm.getD 124 undef = u124 := hfr 124 (by decide)
                  have k125 : tm.getD 125 undef = u125 := hfr 125 (by decide)
                  have k126 : tm.getD 126 undef = u126 := hfr 126 (by decide)
                  have k127 : tm.getD 127 undef = u127 := hfr 127 (by decide)
                  have k128 : tm.getD 128 undef = u128 := hfr 128 (by decide)
                  have k129 : tm.getD 129 undef = u129 := hfr 129 (by decide)
                  have k130 : tm.getD 130 undef = u130 := hfr 130 (by decide)
                  have k131 : tm.getD 131 undef = u131 := hfr 131 (by decide)
                  have k132 : tm.getD 132 undef = u132 := hfr 132 (by decide)
                  have k133 : tm.getD 133 undef = u133 := hfr 133 (by decide)
                  have k134 : tm.getD 134 undef = u134 := hfr 134 (by decide)
                  have k135 : tm.getD 135 undef = u135 := hfr 135 (by decide)
                  have k136 : tm.getD 136 undef = u136 := hfr 136 (by decide)
                  have k137 : tm.getD 137 undef = u137 := hfr 137 (by decide)
                  have k138 : tm.getD 138 undef = u138 := hfr 138 (by decide)
                  have k139 : tm.getD 139 undef = u139 := hfr 139 (by decide)
                  have k140 : tm.getD 140 undef = u140 := hfr 140 (by decide)
                  have k141 : tm.getD 141 undef = u141 := hfr 141 (by decide)
                  have k142 : tm.getD 142 undef = u142 := hfr 142 (by decide)
                  have k143 : tm.getD 143 undef = u143 := hfr 143 (by decide)
                  have k144 : tm.getD 144 undef = u144 := hfr 144 (by decide)
                  have k145 : tm.getD 145 undef = u145 := hfr 145 (by decide)
                  have k146 : tm.getD 146 undef = u146 := hfr 146 (by decide)
                  have k147 : tm.getD 147 undef = u147 := hfr 147 (by decide)
                  have k148 : tm.getD 148 undef = u148 := hfr 148 (by decide)
                  have k149 : tm.getD 149 undef = u149 := hfr 149 (by decide)
                  have k150 : tm.getD 150 undef = u150 := hfr 150 (by decide)
                  have k151 : tm.getD 151 undef = u151 := hfr 151 (by decide)
                  have k152 : tm.getD 152 undef = u152 := hfr 152 (by decide)
                  have k153 : tm.getD 153 undef = u153 := hfr 153 (by decide)
                  have k154 : tm.getD 154 undef = u154 := hfr 154 (by decide)
                  have k155 : tm.getD 155 undef = u155 := hfr 155 (by decide)
                  have k156 : tm.getD 156 undef = u156 := hfr 156 (by decide)
                  have k157 : tm.getD 157 undef = u157 := hfr 157 (by decide)
                  have k158 : tm.getD 158 undef = u158 := hfr 158 (by decide)
                  have k159 : tm.getD 159 undef = u159 := hfr 159 (by decide)
                  have k160 : tm.getD 160 undef = u160 := hfr 160 (by decide)
                  have k161 : tm.getD 161 undef = u161 := hfr 161 (by decide)
                  have k162 : tm.getD 162 undef = u162 := hfr 162 (by decide)
                  have k163 : tm.getD 163 undef = u163 := hfr 163 (by decide)
                  have k164 : tm.getD 164 undef = u164 := hfr 164 (by decide)
                  have k165 : tm.getD 165 undef = u165 := hfr 165 (by decide)
                  have k166 : tm.getD 166 undef = u166 := hfr 166 (by decide)
                  have k167 : tm.getD 167 undef = u167 := hfr 167 (by decide)
                  have k168 : tm.getD 168 undef = u168 := hfr 168 (by decide)
                  have k169 : tm.getD 169 undef = u169 := hfr 169 (by decide)
                  have k170 : tm.getD 170 undef = u170 := hfr 170 (by decide)
                  have k171 : tm.getD 171 undef = u171 := hfr 171 (by decide)
                  have k172 : tm.getD 172 undef = u172 := hfr 172 (by decide)
                  have k173 : tm.getD 173 undef = u173 := hfr 173 (by decide)
                  have k174 : tm.getD 174 undef = Value.bool true := hfr 174 (by decide)
                  have k175 : tm.getD 175 undef = Value.bool true := hfr 175 (by decide)
                  have k176 : tm.getD 176 undef = Value.pointer (some { block := p, off := 13 }) := hfr 176 (by decide)
                  have k177 : tm.getD 177 undef = Value.pointer (some { block := p, off := 14 }) := hfr 177 (by decide)
                  have k178 : tm.getD 178 undef = Value.int IntKind.i64 a10 := hfr 178 (by decide)
                  have k179 : tm.getD 179 undef = Value.int IntKind.i64 (a10 % 5) := hfr 179 (by decide)
                  have k180 : tm.getD 180 undef = Value.int IntKind.i64 mc := hfr 180 (by decide)
                  have k181 : tm.getD 181 undef = Value.tuple #[Value.agg #[Value.int IntKind.i64 0, Value.int IntKind.i64 0, Value.int IntKind.i64 0, Value.int IntKind.i64 0, Value.int IntKind.i64 0], Value.slice (some { block := ga, off := 0 }) N lcap, Value.int IntKind.i64 mc, Value.int IntKind.i64 0] := hfr 181 (by decide)
                  have k182 : tm.getD 182 undef = Value.pointer (some { block := g, off := 0 }) := hfr 182 (by decide)
                  have k183 : tm.getD 183 undef = Value.int IntKind.i64 mc := hfr 183 (by decide)
                  have k184 : tm.getD 184 undef = Value.int IntKind.i64 qt := hfr 184 (by decide)
                  have k185 : tm.getD 185 undef = Value.agg #[Value.int IntKind.i64 2, Value.int IntKind.i64 mc, Value.int IntKind.i64 qt, Value.int IntKind.i64 2, Value.int IntKind.i64 10] := hfr 185 (by decide)
                  have k186 : tm.getD 186 undef = Value.int IntKind.i64 nw2 := hfr 186 (by decide)
                  have k187 : tm.getD 187 undef = Value.tuple #[Value.agg #[Value.int IntKind.i64 0, Value.int IntKind.i64 0, Value.int IntKind.i64 0, Value.int IntKind.i64 0, Value.int IntKind.i64 0], Value.slice (some { block := ga, off := 0 }) N lcap, Value.int IntKind.i64 mc, Value.int IntKind.i64 0] := hfr 187 (by decide)
                  have k188 : tm.getD 188 undef = Value.agg #[Value.int IntKind.i64 0, Value.int IntKind.i64 0, Value.int IntKind.i64 0, Value.int IntKind.i64 0, Value.int IntKind.i64 0] := hfr 188 (by decide)
                  have k189 : tm.getD 189 undef = Value.slice (some { block := ga, off := 0 }) N lcap := hfr 189 (by decide)
                  have k190 : tm.getD 190 undef = Value.int IntKind.i64 mc := hfr 190 (by decide)
                  have k191 : tm.getD 191 undef = Value.int IntKind.i64 0 := hfr 191 (by decide)
                  have k192 : tm.getD 192 undef = Value.int IntKind.i64 0 := hfr 192 (by decide)
                  have k193 : tm.getD 193 undef = Value.bool false := hfr 193 (by decide)
                  have k194 : tm.getD 194 undef = Value.bool false := hfr 194 (by decide)
                  have k195 : tm.getD 195 undef = Value.slice (some { block := ga, off := 0 }) N lcap := hfr 195 (by decide)
                  have k196 : tm.getD 196 undef = Value.int IntKind.i64 ↑N := hfr 196 (by decide)
                  have k197 : tm.getD 197 undef = Value.map (some m2) := hfr 197 (by decide)
                  have k198 : tm.getD 198 undef = Value.int IntKind.i64 qt := hfr 198 (by decide)
                  have k199 : tm.getD 199 undef = Value.slice ra N rcap := hfr 199 (by decide)
                  have k200 : tm.getD 200 undef = Value.int IntKind.i64 ↑N := hfr 200 (by decide)
                  have k201 : tm.getD 201 undef = Value.bool false := hfr 201 (by decide)
                  have k202 : tm.getD 202 undef = Value.bool false := hfr 202 (by decide)
                  have k203 : tm.getD 203 undef = Value.map (some m1) := hfr 203 (by decide)
                  have k204 : tm.getD 204 undef = Value.int IntKind.i64 qt := hfr 204 (by decide)
                  have k205 : tm.getD 205 undef = Value.int IntKind.i64 mc := hfr 205 (by decide)
                  have k206 : tm.getD 206 undef = Value.slice (some { block := ga, off := 0 }) N lcap := hfr 206 (by decide)
                  have k207 : tm.getD 207 undef = Value.int IntKind.i64 ↑N := hfr 207 (by decide)
                  have k208 : tm.getD 208 undef = Value.int IntKind.i64 ↑j := hfr 208 (by decide)
                  have k209 : tm.getD 209 undef = Value.bool true := hfr 209 (by decide)
                  have k210 : tm.getD 210 undef = Value.int IntKind.i64 ↑j := hfr 210 (by decide)
                  have k211 : tm.getD 211 undef = Value.pointer (some { block := ga, off := j * 10 }) := hfr 211 (by decide)
                  have k212 : tm.getD 212 undef = Value.agg #[Value.int IntKind.i64 10, Value.int IntKind.i64 qt, Value.int IntKind.i64 9, Value.int IntKind.i64 0, Value.int IntKind.i64 xi, Value.int IntKind.i64 0, Value.bool false, Value.bool false, Value.string { data := #[] }, Value.string { data := #[] }] := hfr 212 (by decide)
                  have k227 : tm.getD 227 undef = u227 := hfr 227 (by decide)
                  have k228 : tm.getD 228 undef = u228 := hfr 228 (by decide)
                  have k229 : tm.getD 229 undef = u229 := hfr 229 (by decide)
                  have k230 : tm.getD 230 undef = u230 := hfr 230 (by decide)
                  have k231 : tm.getD 231 undef = u231 := hfr 231 (by decide)
                  have k232 : tm.getD 232 undef = u232 := hfr 232 (by decide)
                  have k233 : tm.getD 233 undef = u233 := hfr 233 (by decide)
                  have k234 : tm.getD 234 undef = undef := hfr 234 (by decide)
                  have k235 : tm.getD 235 undef = undef := hfr 235 (by decide)
                  have k236 : tm.getD 236 undef = undef := hfr 236 (by decide)
                  have k237 : tm.getD 237 undef = undef := hfr 237 (by decide)
                  have k238 : tm.getD 238 undef = undef := hfr 238 (by decide)
                  have k239 : tm.getD 239 undef = undef := hfr 239 (by decide)
                  have k240 : tm.getD 240 undef = undef := hfr 240 (by decide)
                  have k241 : tm.getD 241 undef = undef := hfr 241 (by decide)
                  have k242 : tm.getD 242 undef = undef := hfr 242 (by decide)
                  have k243 : tm.getD 243 undef = undef := hfr 243 (by decide)
                  have k244 : tm.getD 244 undef = undef := hfr 244 (by decide)
                  have k245 : tm.getD 245 undef = undef := hfr 245 (by decide)
                  have k246 : tm.getD 246 undef = undef := hfr 246 (by decide)
                  have k247 : tm.getD 247 undef = undef := hfr 247 (by decide)
                  have k248 : tm.getD 248 undef = undef := hfr 248 (by decide)
                  have k226 : tm.getD 226 undef = .bool false := AllG.get hG 13 (by decide)
                  have he : tm = #[tm.getD 0 undef, tm.getD 1 undef, tm.getD 2 undef, tm.getD 3 undef, tm.getD 4 undef, tm.getD 5 undef, tm.getD 6 undef, tm.getD 7 undef, tm.getD 8 undef, tm.getD 9 undef, tm.getD 10 undef, tm.getD 11 undef, tm.getD 12 undef, tm.getD 13 undef, tm.getD 14 undef, tm.getD 15 undef, tm.getD 16 undef, tm.getD 17 undef, tm.getD 18 undef, tm.getD 19 undef, tm.getD 20 undef, tm.getD 21 undef, tm.getD 22 undef, tm.getD 23 undef, tm.getD 24 undef, tm.getD 25 undef, tm.getD 26 undef, tm.getD 27 undef, tm.getD 28 undef, tm.getD 29 undef, tm.getD 30 undef, tm.getD 31 undef, tm.getD 32 undef, tm.getD 33 undef, tm.getD 34 undef, tm.getD 35 undef, tm.getD 36 undef, tm.getD 37 undef, tm.getD 38 undef, tm.getD 39 undef, tm.getD 40 undef, tm.getD 41 undef, tm.getD 42 undef, tm.getD 43 undef, tm.getD 44 undef, tm.getD 45 undef, tm.getD 46 undef, tm.getD 47 undef, tm.getD 48 undef, tm.getD 49 undef, tm.getD 50 undef, tm.getD 51 undef, tm.getD 52 undef, tm.getD 53 undef, tm.getD 54 undef, tm.getD 55 undef, tm.getD 56 undef, tm.getD 57 undef, tm.getD 58 undef, tm.getD 59 undef, tm.getD 60 undef, tm.getD 61 undef, tm.getD 62 undef, tm.getD 63 undef, tm.getD 64 undef, tm.getD 65 undef, tm.getD 66 undef, tm.getD 67 undef, tm.getD 68 undef, tm.getD 69 undef, tm.getD 70 undef, tm.getD 71 undef, tm.getD 72 undef, tm.getD 73 undef, tm.getD 74 undef, tm.getD 75 undef, tm.getD 76 undef, tm.getD 77 undef, tm.getD 78 undef, tm.getD 79 undef, tm.getD 80 undef, tm.getD 81 undef, tm.getD 82 undef, tm.getD 83 undef, tm.getD 84 undef, tm.getD 85 undef, tm.getD 86 undef, tm.getD 87 undef, tm.getD 88 undef, tm.getD 89 undef, tm.getD 90 undef, tm.getD 91 undef, tm.getD 92 undef, tm.getD 93 undef, tm.getD 94 undef, tm.getD 95 undef, tm.getD 96 undef, tm.getD 97 undef, tm.getD 98 undef, tm.getD 99 undef, tm.getD 100 undef, tm.getD 101 undef, tm.getD 102 undef, tm.getD 103 undef, tm.getD 104 undef, tm.getD 105 undef, tm.getD 106 undef, tm.getD 107 undef, tm.getD 108 undef, tm.getD 109 undef, tm.getD 110 undef, tm.getD 111 undef, tm.getD 112 undef, tm.getD 113 undef, tm.getD 114 undef, tm.getD 115 undef, tm.getD 116 undef, tm.getD 117 undef, tm.getD 118 undef, tm.getD 119 undef, tm.getD 120 undef, tm.getD 121 undef, tm.getD 122 undef, tm.getD 123 undef, tm.getD 124 undef, tm.getD 125 undef, tm.getD 126 undef, tm.getD 127 undef, tm.getD 128 undef, tm.getD 129 undef, tm.getD 130 undef, tm.getD 131 undef, tm.getD 132 undef, tm.getD 133 undef, tm.getD 134 undef, tm.getD 135 undef, tm.getD 136 undef, tm.getD 137 undef, tm.getD 138 undef, tm.getD 139 undef, tm.getD 140 undef, tm.getD 141 undef, tm.getD 142 undef, tm.getD 143 undef, tm.getD 144 undef, tm.getD 145 undef, tm.getD 146 undef, tm.getD 147 undef, tm.getD 148 undef, tm.getD 149 undef, tm.getD 150 undef, tm.getD 151 undef, tm.getD 152 undef, tm.getD 153 undef, tm.getD 154 undef, tm.getD 155 undef, tm.getD 156 undef, tm.getD 157 undef, tm.getD 158 undef, tm.getD 159 undef, tm.getD 160 undef, tm.getD 161 undef, tm.getD 162 undef, tm.getD 163 undef, tm.getD 164 undef, tm.getD 165 undef, tm.getD 166 undef, tm.getD 167 undef, tm.getD 168 undef, tm.getD 169 undef, tm.getD 170 undef, tm.getD 171 undef, tm.getD 172 undef, tm.getD 173 undef, tm.getD 174 undef, tm.getD 175 undef, tm.getD 176 undef, tm.getD 177 undef, tm.getD 178 undef, tm.getD 179 undef, tm.getD 180 undef, tm.getD 181 undef, tm.getD 182 undef, tm.getD 183 undef, tm.getD 184 undef, tm.getD 185 undef, tm.getD 186 undef, tm.getD 187 undef, tm.getD 188 undef, tm.getD 189 undef, tm.getD 190 undef, tm.getD 191 undef, tm.getD 192 undef, tm.getD 193 undef, tm.getD 194 undef, tm.getD 195 undef, tm.getD 196 undef, tm.getD 197 undef, tm.getD 198 undef, tm.getD 199 undef, tm.getD 200 undef, tm.getD 201 undef, tm.getD 202 undef, tm.getD 203 undef, tm.getD 204 undef, tm.getD 205 undef, tm.getD 206 undef, tm.getD 207 undef, tm.getD 208 undef, tm.getD 209 undef, tm.getD 210 undef, tm.getD 211 undef, tm.getD 212 undef, tm.getD 213 undef, tm.getD 214 undef, tm.getD 215 undef, tm.getD 216 undef, tm.getD 217 undef, tm.getD 218 undef, tm.getD 219 undef, tm.getD 220 undef, tm.getD 221 undef, tm.getD 222 undef, tm.getD 223 undef, tm.getD 224 undef, tm.getD 225 undef, tm.getD 226 undef, tm.getD 227 undef, tm.getD 228 undef, tm.getD 229 undef, tm.getD 230 undef, tm.getD 231 undef, tm.getD 232 undef, tm.getD 233 undef, tm.getD 234 undef, tm.getD 235 undef, tm.getD 236 undef, tm.getD 237 undef, tm.getD 238 undef, tm.getD 239 undef, tm.getD 240 undef, tm.getD 241 undef, tm.getD 242 undef, tm.getD 243 undef, tm.getD 244 undef, tm.getD 245 undef, tm.getD 246 undef, tm.getD 247 undef, tm.getD 248 undef] := arr_eta (n := 249) hsz
                  replace hdf : df = [] := hdf
                  subst hdf
                  clear hsz hfr hG
                  rw [he, k0, k1, k2, k3, k4, k5, k6, k7, k8, k9, k10, k11, k12, k13, k14, k15, k16, k17, k18, k19, k20, k21, k22, k23, k24, k25, k26, k27, k28, k29, k30, k31, k32, k33, k34, k35, k36, k37, k38, k39, k40, k41, k42, k43, k44, k45, k46, k47, k48, k49, k50, k51, k52, k53, k54, k55, k56, k57, k58, k59, k60, k61, k62, k63, k64, k65, k66, k67, k68, k69, k70, k71, k72, k73, k74, k75, k76, k77, k78, k79, k80, k81, k82, k83, k84, k85, k86, k87, k88, k89, k90, k91, k92, k93, k94, k95, k96, k97, k98, k99, k100, k101, k102, k103, k104, k105, k106, k107, k108, k109, k110, k111, k112, k113, k114, k115, k116, k117, k118, k119, k120, k121, k122, k123, k124, k125, k126, k127, k128, k129, k130, k131, k132, k133, k134, k135, k136, k137, k138, k139, k140, k141, k142, k143, k144, k145, k146, k147, k148, k149, k150, k151, k152, k153, k154, k155, k156, k157, k158, k159, k160, k161, k162, k163, k164, k165, k166, k167, k168, k169, k170, k171, k172, k173, k174, k175, k176, k177, k178, k179, k180, k181, k182, k183, k184, k185, k186, k187, k188, k189, k190, k191, k192, k193, k194, k195, k196, k197, k198, k199, k200, k201, k202, k203, k204, k205, k206, k207, k208, k209, k210, k211, k212, k227, k228, k229, k230, k231, k232, k233, k234, k235, k236, k237, k238, k239, k240, k241, k242, k243, k244, k245, k246, k247, k248, k226]
                  clear he k0 k1 k2 k3 k4 k5 k6 k7 k8 k9 k10 k11 k12 k13 k14 k15 k16 k17 k18 k19 k20 k21 k22 k23 k24 k25 k26 k27 k28 k29 k30 k31 k32 k33 k34 k35 k36 k37 k38 k39 k40 k41 k42 k43 k44 k45 k46 k47 k48 k49 k50 k51 k52 k53 k54 k55 k56 k57 k58 k59 k60 k61 k62 k63 k64 k65 k66 k67 k68 k69 k70 k71 k72 k73 k74 k75 k76 k77 k78 k79 k80 k81 k82 k83 k84 k85 k86 k87 k88 k89 k90 k91 k92 k93 k94 k95 k96 k97 k98 k99 k100 k101 k102 k103 k104 k105 k106 k107 k108 k109 k110 k111 k112 k113 k114 k115 k116 k117 k118 k119 k120 k121 k122 k123 k124 k125 k126 k127 k128 k129 k130 k131 k132 k133 k134 k135 k136 k137 k138 k139 k140 k141 k142 k143 k144 k145 k146 k147 k148 k149 k150 k151 k152 k153 k154 k155 k156 k157 k158 k159 k160 k161 k162 k163 k164 k165 k166 k167 k168 k169 k170 k171 k172 k173 k174 k175 k176 k177 k178 k179 k180 k181 k182 k183 k184 k185 k186 k187 k188 k189 k190 k191 k192 k193 k194 k195 k196 k197 k198 k199 k200 k201 k202 k203 k204 k205 k206 k207 k208 k209 k210 k211 k212 k227 k228 k229 k230 k231 k232 k233 k234 k235 k236 k237 k238 k239 k240 k241 k242 k243 k244 k245 k246 k247 k248 k226
                  generalize tm.getD 213 undef = x213
                  generalize tm.getD 214 undef = x214
                  generalize tm.getD 215 undef = x215
                  generalize tm.getD 216 undef = x216
                  generalize tm.getD 217 undef = x217
                  generalize tm.getD 218 undef = x218
                  generalize tm.getD 219 undef = x219
                  generalize tm.getD 220 undef = x220
                  generalize tm.getD 221 undef = x221
                  generalize tm.getD 222 undef = x222
                  generalize tm.getD 223 undef = x223
                  generalize tm.getD 224 undef = x224
                  generalize tm.getD 225 undef = x225
                  simp only [List.drop_succ_cons, List.drop_zero]
                  go_wp2_with fail
                  go_roundw
                  case rel => exact ⟨j + 1, by go_num, by omega, HOJ.out.then hO2 (fun _ _ h => h)⟩
                  case measure => simp [intOf]; omega
                · obtain rfl : j = N := by omega
                  have hmw := HE5.out.2.1.waits.only HOJ.out (fun h => h)
                  go_wp2_with (at_mapUpdate; refine wpList_put_I _ rfl _ _ _ 45 rfl 3 52 und_mapis und_int m2 _ rfl hmw _ (.slice none 0 0) rfl rfl ?_; intro w6 hm6 hk6 hz6)
                  obtain ⟨hn5, hl5, ho5, hb5⟩ := HE5.out
                  have hlJ := hl5.keep HOJ.out
                  have hnJ := hn5.keep HOJ.out
                  have hbJ := Nat.le_trans hb5 HOJ.out.size
                  have hl6 : LInv w6 B m1 m2 (putI T qt (.int .i64 mc)) (putI Wl qt (.slice none 0 0)) (LA (delA s.A qt)) :=
                    hlJ.row hbJ qt (.slice none 0 0) (Only.refl _ _) (.inl ⟨rfl, by rw [LA_del, if_pos rfl]⟩) (fun b hb => by rw [LA_del, if_neg hb]) (fun b hb => (by cases hb)) hk6 hm6
                  have hn6 := hnJ.beside (show (NS.learn { s with now := nw2, A := delA s.A qt } qt mc).mine = true from HS0.out.mine) (show ∀ b, (NS.learn { s with now := nw2, A := delA s.A qt } qt mc).own.ownBlock = some b → b < B from HOW.out) hk6 (fun b hb => by rw [hb]; exact .inl ⟨_, hmw, fun e => HC.out.1.2.2.1 e.symm, fun e => HC.out.1.2.2.2 e.symm⟩)
                  have ho6 := (ho5.then HOJ.out (fun _ _ h => h)).then hk6 (fun b hb e => by have := HC.out.2.2.2.1; omega)
                  have hft : ∀ b, NFoot g c d (NS.learn { s with now := nw2, A := delA s.A qt } qt mc) b → W.heap.size ≤ b := by
                    rintro b (h | h | h | h | ⟨p, hp, h⟩)
                    · exact HFO.out b (.inl h)
                    · exact HFO.out b (.inr (.inl h))
                    · exact HFO.out b (.inr (.inr (.inl h)))
                    · exact HFO.out b (.inr (.inr (.inr (.inl h))))
                    · exact HFO.out b (.inr (.inr (.inr (.inr ⟨p, (List.mem_filter.1 hp).1, h⟩))))
                  go_roundw
                  case rel => exact ⟨k + 1, nw2, many, gone + (j : Int), _, putI T qt (.int .i64 mc), putI Wl qt (.slice none 0 0), rfl, rfl, by go_num, by go_num, by omega, by omega, ⟨rfl, hn6, HS2.out, hl6, hft, HOW.out, ho6, Nat.le_trans hbJ hk6.size⟩⟩
                  case measure => simp [intOf]; omega
        · have hk1b : (kd == 1) = false := by simpa using hk1
          clear hk0 hk1
          as_aux_lemma =>
            have hI := HI.out
            have hS := hI.state.later nw2 (by have := hI.now; have := HNW.out; omega) (by have := hI.now; have := HNW.out; omega)
            have hcache := hI.cache.keep HKA.out
            have hlawA := hI.law.keep HKA.out
            have HS := Lib.hid hS
            have HCA := Lib.hid hcache
            have HLA := Lib.hid hlawA
            have HOA := Lib.hid (hI.only.then HKA.out (fun _ _ h => h))
            have HFO := Lib.hid hI.foot
            have HOW := Lib.hid hI.own
            have HS0 := Lib.hid hI.state
            have HNO := Lib.hid hI.now
            have HBQ := Lib.hid (show B ≤ wa.heap.size from Nat.le_trans hI.big HKA.out.size)
            have hk2 : s.K.length ≤ 4 := by
              have h1 := nodup_few (s.K.map Prod.fst) [11, 12, 13, 14] (by
                have h2 := hcache.kmap.keys
                unfold encH at h2
                rw [List.map_map] at h2
                exact h2) (fun y hy => by
                obtain ⟨q, hq, rfl⟩ := List.mem_map.1 hy
                obtain ⟨e1, e2, _⟩ := hI.state.known q hq
                have : q.1 = 11 ∨ q.1 = 12 ∨ q.1 = 13 ∨ q.1 = 14 := by omega
                simpa using this)
              simpa using h1
            have HK4 := Lib.hid hk2
            clear hI hS hcache hlawA hk2 hpl hpe HP HKA HI
            clear p14 hwf
            go_wp2_with fail
            have hnl : s.now ≤ nw2 := by have := HNO.out; have := HNW.out; omega
            have hnu : nw2 ≤ 1099511627776 := by have := HNW.out; have := HK60.out; omega
            have hmine := HS0.out.mine
            have hnu0 := HS0.out.now1
            have hk60' := HK60.out
            have hal : s.A.length ≤ 4096 := by
              have h1 := nodup_few (s.A.map Prod.fst) [11, 12, 13, 14] HCA.out.keysA (fun y hy => by
                obtain ⟨q, hq, rfl⟩ := List.mem_map.1 hy
                obtain ⟨e1, e2, _⟩ := HS0.out.ask q hq
                have : q.1 = 11 ∨ q.1 = 12 ∨ q.1 = 13 ∨ q.1 = 14 := by omega
                simpa using this)
              rw [List.length_map] at h1
              exact Nat.le_trans h1 (by decide)
            refine (tick_all wa g c d s nw2 HCA.out hmine hnl hnu (fun q hq => by
              obtain ⟨e1, e2, e3, e4, e5, _⟩ := HS0.out.ask q hq
              exact ⟨e4, by omega⟩) (fun q hq => by
              obtain ⟨e1, e2, _⟩ := HS0.out.ask q hq
              simp [Lit.wf, IntKind.min, IntKind.max, IntKind.bits, IntKind.signed]
              omega) hal (fun q hq => (HS0.out.ask q hq).2.2.1) (by rw [HS0.out.pat]; decide) (by have := HS0.out.few; omega)).mono ?_
            rintro e wz ⟨va, vl, s', lost, rfl, hnz, htk, hrow, hkz⟩
            have hlz := HLA.out.cache HCA.out hmine HOW.out HC.out.1 hkz
            have hoz := HOA.out.then hkz (fun b _ hb => by have := HFO.out b hb; omega)
            have hS2 := HS.out.tick htk
            have hnow' : s'.now = nw2 := by have e := congrArg NS.now htk.rest; exact e
            have hown' : s'.own = s.own := by have e := congrArg NS.own htk.rest; exact e
            obtain ⟨la, lcap, rfl, hlc⟩ := row_form hrow
            have hlen : lost.length ≤ 30 := by
              have h1 := htk.many
              have h2 := HS0.out.few
              have h3 : NS.waiting { s with now := nw2 } = s.waiting := rfl
              omega
            have hl0 : LInv wz B m1 m2 T Wl (fun a => lostAt (lost.drop 0) a ++ LA s'.A a) := by
              rw [List.drop_zero, show (fun a => lostAt lost a ++ LA s'.A a) = LA s.A from funext htk.all]
              exact hlz
            have HNZ := Lib.hid hnz
            have HTK := Lib.hid htk
            have HLZ := Lib.hid hl0
            have HOZ := Lib.hid hoz
            have HS2 := Lib.hid hS2
            have HNW' := Lib.hid (show s'.now = nw2 ∧ s'.own = s.own from ⟨hnow', hown'⟩)
            have HLC := Lib.hid hlc
            have HBZ := Lib.hid (show B ≤ wz.heap.size from Nat.le_trans HBQ.out hkz.size)
            have hgo : gone ≤ 60 ∧ 0 ≤ gone := by have := HS0.out.cnt; have := HS0.out.many1; have := HS0.out.gone0; have := HK60.out; omega
            obtain ⟨hgo1, hgo0⟩ := hgo
            clear hnl hnu hmine hnu0 hk60' hal hnz htk hrow hkz hlz hoz hS2 hnow' hown' hlc hl0
            generalize hln : lost.length = N at *
            have HLN := Lib.hid hln
            clear hln
            go_wp2_with fail
            go_loopw [77] (fun iv wr => ∃ (j : Nat) (Wj : List (Int × Value)), iv = .int .i64 j ∧ j ≤ N ∧ LInv wr B m1 m2 T Wj (fun a => lostAt (lost.drop j) a ++ LA s'.A a) ∧ Only (fun b => b = m2) wz wr) (fun iv _ => N - (intOf iv).toNat)
            case atStart => exact ⟨0, Wl, rfl, by omega, HLZ.out, Only.refl _ _⟩
            case round =>
              obtain ⟨j, Wj, rfl, hj, hlj, hoj⟩ := hrel
              have HLJ := Lib.hid hlj
              have HOJ := Lib.hid hoj
              clear hlj hoj
              by_cases hlt : j < N
              · obtain ⟨q, hq⟩ : ∃ q, lost[j]? = some q := ⟨_, List.getElem?_eq_getElem (by have := HLN.out; omega)⟩
                obtain ⟨ga, hga, hgn, hgc⟩ := HLC.out j q hq
                subst hga
                obtain ⟨qa, qi⟩ := q
                have hgc' : ∀ t v, (pk qa qi)[t]? = some v → wr.cell? ⟨ga, j * 10 + t, none⟩ = some v := fun t v hv =>
                  cell_only HOJ.out (fun e => by have e2 : ga = m2 := e; exact hgn _ _ HLZ.out.waits e2) (hgc t v hv)
                have hdrop : lost.drop j = (qa, qi) :: lost.drop (j + 1) := by
                  rw [List.drop_eq_getElem_cons (by have := HLN.out; omega)]
                  congr 1
                  exact Option.some.inj ((List.getElem?_eq_getElem _).symm.trans hq)
                have hL1 : ∀ b, lostAt (lost.drop j) b ++ LA s'.A b = if b = qa then qi :: (lostAt (lost.drop (j + 1)) b ++ LA s'.A b) else lostAt (lost.drop (j + 1)) b ++ LA s'.A b := fun b => by
                  rw [hdrop]
                  unfold lostAt
                  by_cases e : b = qa
                  · subst e
                    rw [if_pos rfl, List.filter_cons_of_pos (by simp)]
                    rfl
                  · rw [if_neg e, List.filter_cons_of_neg (by simpa using fun e' : qa = b => e e'.symm)]
                have hrq := HLJ.out.rows qa
                rw [hL1 qa, if_pos rfl] at hrq
                obtain ⟨rb, ro, rc, hrv, hrc, hri, hrt1, hrt0⟩ := hrq.tail
                generalize hLR : lostAt (lost.drop (j + 1)) qa ++ LA s'.A qa = LR at *
                have hsl := fun w => run_tail rb ro LR.length rc hrc w
                have hrt : IRow wr (.slice (if rc = 1 then some ⟨rb, ro, none⟩ else some ⟨rb, ro + 1, none⟩) LR.length (rc - 1)) LR := by
                  by_cases e : rc = 1
                  · rw [if_pos e]
                    have := hrt0 e
                    rw [e]; exact this
                  · rw [if_neg e]; exact hrt1 _ _ rfl rfl
                obtain ⟨ta, hta⟩ : ∃ ta, (if rc = 1 then some ⟨rb, ro, none⟩ else some ⟨rb, ro + 1, none⟩ : Option Addr) = ta := ⟨_, rfl⟩
                have htb : ∀ b, (Value.slice ta LR.length (rc - 1)).ownBlock = some b → (rowOf Wj qa).ownBlock = some b := by
                  intro b hb
                  rw [hrv]
                  rw [← hta] at hb
                  split at hb <;> exact hb
                rw [hta] at hrt hsl
                obtain ⟨N1, hN1⟩ : ∃ N1, LR.length + 1 = N1 := ⟨_, rfl⟩
                obtain ⟨N2, hN2⟩ : ∃ N2, LR.length = N2 := ⟨_, rfl⟩
                obtain ⟨rc1, hrc1⟩ : ∃ rc1, rc - 1 = rc1 := ⟨_, rfl⟩
                rw [hN1] at hrv hsl
                rw [hN2, hrc1] at hrt hsl htb
                have hN1p : 0 < N1 := by omega
                have hN1b : ((N1 : Int) == 0) = false := by
                  have : ¬ (N1 : Int) = 0 := by omega
                  simpa using this
                have HRV := Lib.hid hrv
                have HRT := Lib.hid hrt
                have HTB := Lib.hid htb
                have HL1 := Lib.hid hL1
                have HLR := Lib.hid hLR
                have hlkall : ∀ w', MapI w' m2 Wj → (Instr.lookup 45 (.map (some m2)) (.int .i64 qa) false).run Try.prog w' = .ok (.slice (some ⟨rb, ro, none⟩) N1 rc) w' := fun w' h' => by
                  have h1 := h'.look (P := Try.prog) und_mapis und_int (zero_ints _) qa false
                  simp only [Bool.false_eq_true, if_false] at h1
                  rw [h1, show (getI Wj qa).getD (.slice none 0 0) = .slice (some ⟨rb, ro, none⟩) N1 rc from hrv]
                have hk1 := (Only.refl (fun _ => False) wr).alloc (.cells #[.int .i64 10, .int .i64 qa, .int .i64 9, .int .i64 0, .int .i64 qi, .int .i64 0, .bool false, .bool false, .string ⟨#[]⟩, .string ⟨#[]⟩] 47)
                have hb1 := blk_new wr (.cells #[.int .i64 10, .int .i64 qa, .int .i64 9, .int .i64 0, .int .i64 qi, .int .i64 0, .bool false, .bool false, .string ⟨#[]⟩, .string ⟨#[]⟩] 47)
                have hm1w := HLJ.out.waits.only hk1 (fun h => h)
                have hr1w := cell_only hk1 (fun h => h) hri
                have HK1 := Lib.hid hk1
                have HLKA := Lib.hid hlkall
                have HSL := Lib.hid hsl
                clear hlkall hsl
                clear hq hgc hdrop hL1 hrq hrv hrc hri hrt1 hrt0 hrt hta htb hN1 hN2 hrc1 hLR hk1
                go_wp2_with (refine wpList_load_pk _ rfl _ rfl ga (j * 10) rfl qa qi hgc' ?_)
                generalize wr.alloc (.cells #[.int .i64 10, .int .i64 qa, .int .i64 9, .int .i64 0, .int .i64 qi, .int .i64 0, .bool false, .bool false, .string ⟨#[]⟩, .string ⟨#[]⟩] 47) = w1x at hb1 hm1w hr1w HK1 ⊢
                generalize wr.heap.size = pb at hb1 ⊢
                refine wp_region_facts_tail 17 oqDs oqNeed oqGs (fun w' => w'.heap[pb]? = some (.cells #[.int .i64 10, .int .i64 qa, .int .i64 9, .int .i64 0, .int .i64 qi, .int .i64 0, .bool false, .bool false, .string ⟨#[]⟩, .string ⟨#[]⟩] 47 (0, 0)) ∧ MapI w' m2 Wj ∧ w'.cell? ⟨rb, ro, none⟩ = some (.int .i64 qi) ∧ Only (fun _ => False) wr w') (Only (fun _ => False)) (oqG pb m2 rb ro N1 rc qa qi) rfl rfl (by kernel_rfl) (by kernel_rfl) (by kernel_rfl) (by kernel_rfl) (by kernel_rfl) ⟨hb1, hm1w.only ((Only.refl (fun _ => False) _).drew) (fun h => h), hr1w, HK1.out.drew⟩ oqG.keep oqG.guard ?_ ?_
                · refine And.intro ?op0 (And.intro ?op1 (And.intro ?op2 (And.intro ?op3 (And.intro ?op4 (And.intro ?op5 (And.intro ?op6 (And.intro ?op7 (And.intro ?op8 (And.intro ?op9 (And.intro ?op10 (And.intro ?op11 (And.intro ?op12 (And.intro ?op13 (And.intro ?op14 (And.intro ?op15 (And.intro ?op16 trivial))))))))))))))))
                  case op0 =>
                    intro ev w1 hT1 hc hf hfr hG
                    rw [if_pos (by decide)]
                    obtain ⟨hB, hM, hC, hO⟩ := hT1
                    have h5 : ev (.tmp 5) = .map (some m2) := hfr 5 (by decide)
                    clear hG hfr
                    refine OpSays.value (v := .map (some m2)) (w' := w1) ?_ ⟨⟨hB, hM, hC, hO⟩, Only.refl _ _, rfl⟩
                    go_simp
                  case op1 =>
                    intro ev w1 hT1 hc hf hfr hG
                    rw [if_pos (by decide)]
                    obtain ⟨hB, hM, hC, hO⟩ := hT1
                    have h28 : ev (.tmp 28) = .pointer (some ⟨pb, 0, none⟩) := hfr 28 (by decide)
                    clear hG hfr
                    refine OpSays.value (v := .pointer (some ⟨pb, 1, none⟩)) (w' := w1) ?_ ⟨⟨hB, hM, hC, hO⟩, Only.refl _ _, rfl⟩
                    go_simp
                  case op2 =>
                    intro ev w1 hT1 hc hf hfr hG
                    rw [if_pos (by decide)]
                    obtain ⟨hB, hM, hC, hO⟩ := hT1
                    have hg : (ev (.tmp 82) = .pointer (some ⟨pb, 1, none⟩)) ∧ True := hG
                    obtain ⟨g1, _⟩ := hg
                    clear hG hfr
                    have c := blk_cell hB 1
                    simp only [List.getElem?_toArray, List.getElem?_cons_zero, List.getElem?_cons_succ] at c
                    refine OpSays.value (v := .int .i64 qa) (w' := w1) ?_ ⟨⟨hB, hM, hC, hO⟩, Only.refl _ _, rfl⟩
                    go_simp
                  case op3 =>
                    intro ev w1 hT1 hc hf hfr hG
                    rw [if_pos (by decide)]
                    obtain ⟨hB, hM, hC, hO⟩ := hT1
                    have hg : (ev (.tmp 81) = .map (some m2)) ∧ (ev (.tmp 83) = .int .i64 qa) ∧ True := hG
                    obtain ⟨g0, g2, _⟩ := hg
                    clear hG hfr
                    have hl := HLKA.out w1 hM
                    refine OpSays.value (v := .slice (some ⟨rb, ro, none⟩) N1 rc) (w' := w1) ?_ ⟨⟨hB, hM, hC, hO⟩, Only.refl _ _, rfl⟩
                    go_simp
                  case op4 =>
                    intro ev w1 hT1 hc hf hfr hG
                    rw [if_pos (by decide)]
                    obtain ⟨hB, hM, hC, hO⟩ := hT1
                    have hg : (ev (.tmp 84) = .slice (some ⟨rb, ro, none⟩) N1 rc) ∧ True := hG
                    obtain ⟨g3, _⟩ := hg
                    clear hG hfr
                    refine OpSays.value (v := .int .i64 (N1 : Int)) (w' := w1) ?_ ⟨⟨hB, hM, hC, hO⟩, Only.refl _ _, rfl⟩
                    go_simp
                  case op5 =>
                    intro ev w1 hT1 hc hf hfr hG
                    rw [if_pos (by decide)]
                    obtain ⟨hB, hM, hC, hO⟩ := hT1
                    have hg : (ev (.tmp 85) = .int .i64 (N1 : Int)) ∧ True := hG
                    obtain ⟨g4, _⟩ := hg
                    clear hG hfr
                    have hb := hN1b
                    refine OpSays.value (v := .bool false) (w' := w1) ?_ ⟨⟨hB, hM, hC, hO⟩, Only.refl _ _, rfl⟩
                    go_simp
                  case op6 =>
                    intro ev w1 hT1 hc hf hfr hG
                    rw [if_pos (by decide)]
                    obtain ⟨hB, hM, hC, hO⟩ := hT1
                    have hg : (ev (.tmp 86) = .bool false) ∧ True := hG
                    obtain ⟨g5, _⟩ := hg
                    clear hG hfr
                    refine OpSays.value (v := .bool false) (w' := w1) ?_ ⟨⟨hB, hM, hC, hO⟩, Only.refl _ _, rfl⟩
                    go_simp
                  case op7 =>
                    intro ev w1 hT1 hc hf hfr hG
                    rw [if_pos (by decide)]
                    obtain ⟨hB, hM, hC, hO⟩ := hT1
                    have h5 : ev (.tmp 5) = .map (some m2) := hfr 5 (by decide)
                    clear hG hfr
                    refine OpSays.value (v := .map (some m2)) (w' := w1) ?_ ⟨⟨hB, hM, hC, hO⟩, Only.refl _ _, rfl⟩
                    go_simp
                  case op8 =>
                    intro ev w1 hT1 hc hf hfr hG
                    rw [if_pos (by decide)]
                    obtain ⟨hB, hM, hC, hO⟩ := hT1
                    have h28 : ev (.tmp 28) = .pointer (some ⟨pb, 0, none⟩) := hfr 28 (by decide)
                    clear hG hfr
                    refine OpSays.value (v := .pointer (some ⟨pb, 1, none⟩)) (w' := w1) ?_ ⟨⟨hB, hM, hC, hO⟩, Only.refl _ _, rfl⟩
                    go_simp
                  case op9 =>
                    intro ev w1 hT1 hc hf hfr hG
                    rw [if_pos (by decide)]
                    obtain ⟨hB, hM, hC, hO⟩ := hT1
                    have hg : (ev (.tmp 89) = .pointer (some ⟨pb, 1, none⟩)) ∧ True := hG
                    obtain ⟨g8, _⟩ := hg
                    clear hG hfr
                    have c := blk_cell hB 1
                    simp only [List.getElem?_toArray, List.getElem?_cons_zero, List.getElem?_cons_succ] at c
                    refine OpSays.value (v := .int .i64 qa) (w' := w1) ?_ ⟨⟨hB, hM, hC, hO⟩, Only.refl _ _, rfl⟩
                    go_simp
                  case op10 =>
                    intro ev w1 hT1 hc hf hfr hG
                    rw [if_pos (by decide)]
                    obtain ⟨hB, hM, hC, hO⟩ := hT1
                    have hg : (ev (.tmp 88) = .map (some m2)) ∧ (ev (.tmp 90) = .int .i64 qa) ∧ True := hG
                    obtain ⟨g7, g9, _⟩ := hg
                    clear hG hfr
                    have hl := HLKA.out w1 hM
                    refine OpSays.value (v := .slice (some ⟨rb, ro, none⟩) N1 rc) (w' := w1) ?_ ⟨⟨hB, hM, hC, hO⟩, Only.refl _ _, rfl⟩
                    go_simp
                  case op11 =>
                    intro ev w1 hT1 hc hf hfr hG
                    rw [if_pos (by decide)]
                    obtain ⟨hB, hM, hC, hO⟩ := hT1
                    have hg : (ev (.tmp 91) = .slice (some ⟨rb, ro, none⟩) N1 rc) ∧ True := hG
                    obtain ⟨g10, _⟩ := hg
                    clear hG hfr
                    have hp := hN1p
                    refine OpSays.value (v := .pointer (some ⟨rb, ro, none⟩)) (w' := w1) ?_ ⟨⟨hB, hM, hC, hO⟩, Only.refl _ _, rfl⟩
                    go_simp
                  case op12 =>
                    intro ev w1 hT1 hc hf hfr hG
                    rw [if_pos (by decide)]
                    obtain ⟨hB, hM, hC, hO⟩ := hT1
                    have hg : (ev (.tmp 92) = .pointer (some ⟨rb, ro, none⟩)) ∧ True := hG
                    obtain ⟨g11, _⟩ := hg
                    clear hG hfr
                    have c := hC
                    refine OpSays.value (v := .int .i64 qi) (w' := w1) ?_ ⟨⟨hB, hM, hC, hO⟩, Only.refl _ _, rfl⟩
                    go_simp
                  case op13 =>
                    intro ev w1 hT1 hc hf hfr hG
                    rw [if_pos (by decide)]
                    obtain ⟨hB, hM, hC, hO⟩ := hT1
                    have h28 : ev (.tmp 28) = .pointer (some ⟨pb, 0, none⟩) := hfr 28 (by decide)
                    clear hG hfr
                    refine OpSays.value (v := .pointer (some ⟨pb, 4, none⟩)) (w' := w1) ?_ ⟨⟨hB, hM, hC, hO⟩, Only.refl _ _, rfl⟩
                    go_simp
                  case op14 =>
                    intro ev w1 hT1 hc hf hfr hG
                    rw [if_pos (by decide)]
                    obtain ⟨hB, hM, hC, hO⟩ := hT1
                    have hg : (ev (.tmp 94) = .pointer (some ⟨pb, 4, none⟩)) ∧ True := hG
                    obtain ⟨g13, _⟩ := hg
                    clear hG hfr
                    have c := blk_cell hB 4
                    simp only [List.getElem?_toArray, List.getElem?_cons_zero, List.getElem?_cons_succ] at c
                    refine OpSays.value (v := .int .i64 qi) (w' := w1) ?_ ⟨⟨hB, hM, hC, hO⟩, Only.refl _ _, rfl⟩
                    go_simp
                  case op15 =>
                    intro ev w1 hT1 hc hf hfr hG
                    rw [if_pos (by decide)]
                    obtain ⟨hB, hM, hC, hO⟩ := hT1
                    have hg : (ev (.tmp 93) = .int .i64 qi) ∧ (ev (.tmp 95) = .int .i64 qi) ∧ True := hG
                    obtain ⟨g12, g14, _⟩ := hg
                    clear hG hfr
                    refine OpSays.value (v := .bool false) (w' := w1) ?_ ⟨⟨hB, hM, hC, hO⟩, Only.refl _ _, rfl⟩
                    go_simp
                  case op16 =>
                    intro ev w1 hT1 hc hf hfr hG
                    rw [if_pos (by decide)]
                    obtain ⟨hB, hM, hC, hO⟩ := hT1
                    have hg : (ev (.tmp 87) = .bool false) ∧ (ev (.tmp 96) = .bool false) ∧ True := hG
                    obtain ⟨g6, g15, _⟩ := hg
                    clear hG hfr
                    refine OpSays.value (v := .bool false) (w' := w1) ?_ ⟨⟨hB, hM, hC, hO⟩, Only.refl _ _, rfl⟩
                    go_simp
                rintro ⟨tm, df⟩ w2x ⟨hB2, hM2, hC2, hO2⟩ hsz hdf hfr hG
                have k0 : tm.getD 0 undef = Value.slice (some { block := b, off := off }) n cap := hfr 0 (by decide)
                have k1 : tm.getD 1 undef = undef := hfr 1 (by decide)
                have k2 : tm.getD 2 undef = u2 := hfr 2 (by decide)
                have k3 : tm.getD 3 undef = Value.pointer (some { block := g, off := 0 }) := hfr 3 (by decide)
                have k4 : tm.getD 4 undef = Value.map (some m1) := hfr 4 (by decide)
                have k5 : tm.getD 5 undef = Value.map (some m2) := hfr 5 (by decide)
                have k6 : tm.getD 6 undef = Value.int IntKind.i64 nw2 := hfr 6 (by decide)
                have k7 : tm.getD 7 undef = Value.int IntKind.i64 many := hfr 7 (by decide)
                have k8 : tm.getD 8 undef = Value.int IntKind.i64 gone := hfr 8 (by decide)
                have k9 : tm.getD 9 undef = Value.int IntKind.i64 ↑k := hfr 9 (by decide)
                have k10 : tm.getD 10 undef = Value.pointer (some { block := p, off := 0 }) := hfr 10 (by decide)
                have k11 : tm.getD 11 undef = Value.int IntKind.i64 to := hfr 11 (by decide)
                have k12 : tm.getD 12 undef = u12 := hfr 12 (by decide)
                have k13 : tm.getD 13 undef = u13 := hfr 13 (by decide)
                have k14 : tm.getD 14 undef = u14 := hfr 14 (by decide)
                have k15 : tm.getD 15 undef = u15 := hfr 15 (by decide)
                have k16 : tm.getD 16 undef = u16 := hfr 16 (by decide)
                have k17 : tm.getD 17 undef = u17 := hfr 17 (by decide)
                have k18 : tm.getD 18 undef = u18 := hfr 18 (by decide)
                have k19 : tm.getD 19 undef = u19 := hfr 19 (by decide)
                have k20 : tm.getD 20 undef = u20 := hfr 20 (by decide)
                have k21 : tm.getD 21 undef = u21 := hfr 21 (by decide)
                have k22 : tm.getD 22 undef = u22 := hfr 22 (by decide)
                have k23 : tm.getD 23 undef = u23 := hfr 23 (by decide)
                have k24 : tm.getD 24 undef = va := hfr 24 (by decide)
                have k25 : tm.getD 25 undef = Value.slice (some { block := ga, off := 0 }) N lcap := hfr 25 (by decide)
                have k26 : tm.getD 26 undef = Value.int IntKind.i64 0 := hfr 26 (by decide)
                have k27 : tm.getD 27 undef = undef := hfr 27 (by decide)
                have k28 : tm.getD 28 undef = Value.pointer (some { block := pb, off := 0 }) := hfr 28 (by decide)
                have k29 : tm.getD 29 undef = undef := hfr 29 (by decide)
                have k30 : tm.getD 30 undef = undef := hfr 30 (by decide)
                have k31 : tm.getD 31 undef = Value.pointer (some { block := g, off := 0 }) := hfr 31 (by decide)
                have k32 : tm.getD 32 undef = Value.pointer (some { block := g, off := 0 }) := hfr 32 (by decide)
                have k33 : tm.getD 33 undef = Value.bool false := hfr 33 (by decide)
                have k34 : tm.getD 34 undef = Value.bool false := hfr 34 (by decide)
                have k35 : tm.getD 35 undef = Value.bool true := hfr 35 (by decide)
                have k36 : tm.getD 36 undef = Value.bool false := hfr 36 (by decide)
                have k37 : tm.getD 37 undef = Value.bool false := hfr 37 (by decide)
                have k38 : tm.getD 38 undef = Value.map (some m1) := hfr 38 (by decide)
                have k39 : tm.getD 39 undef = Value.map (some m2) := hfr 39 (by decide)
                have k40 : tm.getD 40 undef = Value.int IntKind.i64 ↑k := hfr 40 (by decide)
                have k41 : tm.getD 41 undef = Value.slice (some { block := b, off := off }) n cap := hfr 41 (by decide)
                have k42 : tm.getD 42 undef = Value.int IntKind.i64 ↑n := hfr 42 (by decide)
                have k43 : tm.getD 43 undef = Value.bool true := hfr 43 (by decide)
                have k44 : tm.getD 44 undef = Value.bool true := hfr 44 (by decide)
                have k45 : tm.getD 45 undef = Value.int IntKind.i64 ↑k := hfr 45 (by decide)
                have k46 : tm.getD 46 undef = Value.bool true := hfr 46 (by decide)
                have k47 : tm.getD 47 undef = Value.bool true := hfr 47 (by decide)
                have k48 : tm.getD 48 undef = u48 := hfr 48 (by decide)
                have k49 : tm.getD 49 undef = u49 := hfr 49 (by decide)
                have k50 : tm.getD 50 undef = Value.slice (some { block := b, off := off }) n cap := hfr 50 (by decide)
                have k51 : tm.getD 51 undef = Value.int IntKind.i64 ↑k := hfr 51 (by decide)
                have k52 : tm.getD 52 undef = Value.pointer (some { block := b, off := off + k * 19 }) := hfr 52 (by decide)
                have k53 : tm.getD 53 undef = Value.agg cs.toArray := hfr 53 (by decide)
                have k54 : tm.getD 54 undef = Value.int IntKind.i64 nw := hfr 54 (by decide)
                have k55 : tm.getD 55 undef = Value.pointer (some { block := p, off := 2 }) := hfr 55 (by decide)
                have k56 : tm.getD 56 undef = Value.int IntKind.i64 a2 := hfr 56 (by decide)
                have k57 : tm.getD 57 undef = Value.int IntKind.i64 (a2 % 3) := hfr 57 (by decide)
                have k58 : tm.getD 58 undef = Value.int IntKind.i64 nw2 := hfr 58 (by decide)
                have k59 : tm.getD 59 undef = Value.pointer (some { block := p, off := 1 }) := hfr 59 (by decide)
                have k60 : tm.getD 60 undef = Value.int IntKind.i64 a1 := hfr 60 (by decide)
                have k61 : tm.getD 61 undef = Value.int IntKind.i64 (a1 % 4) := hfr 61 (by decide)
                have k62 : tm.getD 62 undef = Value.int IntKind.i64 to := hfr 62 (by decide)
                have k63 : tm.getD 63 undef = Value.pointer (some { block := p, off := 0 }) := hfr 63 (by decide)
                have k64 : tm.getD 64 undef = Value.int IntKind.i64 a0 := hfr 64 (by decide)
                have k65 : tm.getD 65 undef = Value.int IntKind.i64 kd := hfr 65 (by decide)
                have k66 : tm.getD 66 undef = Value.tuple #[va, Value.slice (some { block := ga, off := 0 }) N lcap, Value.int IntKind.i64 0] := hfr 66 (by decide)
                have k67 : tm.getD 67 undef = Value.pointer (some { block := g, off := 0 }) := hfr 67 (by decide)
                have k68 : tm.getD 68 undef = Value.int IntKind.i64 nw2 := hfr 68 (by decide)
                have k69 : tm.getD 69 undef = Value.tuple #[va, Value.slice (some { block := ga, off := 0 }) N lcap, Value.int IntKind.i64 0] := hfr 69 (by decide)
                have k70 : tm.getD 70 undef = va := hfr 70 (by decide)
                have k71 : tm.getD 71 undef = Value.slice (some { block := ga, off := 0 }) N lcap := hfr 71 (by decide)
                have k72 : tm.getD 72 undef = Value.int IntKind.i64 0 := hfr 72 (by decide)
                have k73 : tm.getD 73 undef = Value.int IntKind.i64 0 := hfr 73 (by decide)
                have k74 : tm.getD 74 undef = Value.bool false := hfr 74 (by decide)
                have k75 : tm.getD 75 undef = Value.slice (some { block := ga, off := 0 }) N lcap := hfr 75 (by decide)
                have k76 : tm.getD 76 undef = Value.int IntKind.i64 ↑N := hfr 76 (by decide)
                have k77 : tm.getD 77 undef = Value.int IntKind.i64 ↑j := hfr 77 (by decide)
                have k78 : tm.getD 78 undef = Value.bool true := hfr 78 (by decide)
                have k79 : tm.getD 79 undef = Value.pointer (some { block := ga, off := j * 10 }) := hfr 79 (by decide)
                have k80 : tm.getD 80 undef = Value.agg #[Value.int IntKind.i64 10, Value.int IntKind.i64 qa, Value.int IntKind.i64 9, Value.int IntKind.i64 0, Value.int IntKind.i64 qi, Value.int IntKind.i64 0, Value.bool false, Value.bool false, Value.string { data := #[] }, Value.string { data := #[] }] := hfr 80 (by decide)
                have k98 : tm.getD 98 undef = u98 := hfr 98 (by decide)
                have k99 : tm.getD 99 undef = u99 := hfr 99 (by decide)
                have k100 : tm.getD 100 undef = u100 := hfr 100 (by decide)
                have k101 : tm.getD 101 undef = u101 := hfr 101 (by decide)
                have k102 : tm.getD 102 undef = u102 := hfr 102 (by decide)
                have k103 : tm.getD 103 undef = u103 := hfr 103 (by decide)
                have k104 : tm.getD 104 undef = u104 := hfr 104 (by decide)
                have k105 : tm.getD 105 undef = u105 := hfr 105 (by decide)
                have k106 : tm.getD 106 undef = u106 := hfr 106 (by decide)
                have k107 : tm.getD 107 undef = u107 := hfr 107 (by decide)
                have k108 : tm.getD 108 undef = u108 := hfr 108 (by decide)
                have k109 : tm.getD 109 undef = u109 := hfr 109 (by decide)
                have k110 : tm.getD 110 undef = u110 := hfr 110 (by decide)
                have k111 : tm.getD 111 undef = Value.bool false := hfr 111 (by decide)
                have k112 : tm.getD 112 undef = Value.bool false := hfr 112 (by decide)
                have k113 : tm.getD 113 undef = u113 := hfr 113 (by decide)
                have k114 : tm.getD 114 undef = u114 := hfr 114 (by decide)
                have k115 : tm.getD 115 undef = u115 := hfr 115 (by decide)
                have k116 : tm.getD 116 undef = u116 := hfr 116 (by decide)
                have k117 : tm.getD 117 undef = u117 := hfr 117 (by decide)
                have k118 : tm.getD 118 undef = u118 := hfr 118 (by decide)
                have k119 : tm.getD 119 undef = u119 := hfr 119 (by decide)
                have k120 : tm.getD 120 undef = u120 := hfr 120 (by decide)
                have k121 : tm.getD 121 undef = u121 := hfr 121 (by decide)
                have k122 : tm.getD 122 undef = u122 := hfr 122 (by decide)
                have k123 : tm.getD 123 undef = u123 := hfr 123 (by decide)
                have k124 : tm.getD 124 undef = u124 := hfr 124 (by decide)
                have k125 : tm.getD 125 undef = u125 := hfr 125 (by decide)
                have k126 : tm.getD 126 undef = u126 := hfr 126 (by decide)
                have k127 : tm.getD 127 undef = u127 := hfr 127 (by decide)
                have k128 : tm.getD 128 undef = u128 := hfr 128 (by decide)
                have k129 : tm.getD 129 undef = u129 := hfr 129 (by decide)
                have k130 : tm.getD 130 undef = u130 := hfr 130 (by decide)
                have k131 : tm.getD 131 undef = u131 := hfr 131 (by decide)
                have k132 : tm.getD 132 undef = u132 := hfr 132 (by decide)
                have k133 : tm.getD 133 undef = u133 := hfr 133 (by decide)
                have k134 : tm.getD 134 undef = u134 := hfr 134 (by decide)
                have k135 : tm.getD 135 undef = u135 := hfr 135 (by decide)
                have k136 : tm.getD 136 undef = u136 := hfr 136 (by decide)
                have k137 : tm.getD 137 undef = u137 := hfr 137 (by decide)
                have k138 : tm.getD 138 undef = u138 := hfr 138 (by decide)
                have k139 : tm.getD 139 undef = u139 := hfr 139 (by decide)
                have k140 : tm.getD 140 undef = u140 := hfr 140 (by decide)
                have k141 : tm.getD 141 undef = u141 := hfr 141 (by decide)
                have k142 : tm.getD 142 undef = u142 := hfr 142 (by decide)
                have k143 : tm.getD 143 undef = u143 := hfr 143 (by decide)
                have k144 : tm.getD 144 undef = u144 := hfr 144 (by decide)
                have k145 : tm.getD 145 undef = u145 := hfr 145 (by decide)
                have k146 : tm.getD 146 undef = u146 := hfr 146 (by decide)
                have k147 : tm.getD 147 undef = u147 := hfr 147 (by decide)
                have k148 : tm.getD 148 undef = u148 := hfr 148 (by decide)
                have k149 : tm.getD 149 undef = u149 := hfr 149 (by decide)
                have k150 : tm.getD 150 undef = u150 := hfr 150 (by decide)
                have k151 : tm.getD 151 undef = u151 := hfr 151 (by decide)
                have k152 : tm.getD 152 undef = u152 := hfr 152 (by decide)
                have k153 : tm.getD 153 undef = u153 := hfr 153 (by decide)
                have k154 : tm.getD 154 undef = u154 := hfr 154 (by decide)
                have k155 : tm.getD 155 undef = u155 := hfr 155 (by decide)
                have k156 : tm.getD 156 undef = u156 := hfr 156 (by decide)
                have k157 : tm.getD 157 undef = u157 := hfr 157 (by decide)
                have k158 : tm.getD 158 undef = u158 := hfr 158 (by decide)
                have k159 : tm.getD 159 undef = u159 := hfr 159 (by decide)
                have k160 : tm.getD 160 undef = u160 := hfr 160 (by decide)
                have k161 : tm.getD 161 undef = u161 := hfr 161 (by decide)
                have k162 : tm.getD 162 undef = u162 := hfr 162 (by decide)
                have k163 : tm.getD 163 undef = u163 := hfr 163 (by decide)
                have k164 : tm.getD 164 undef = u164 := hfr 164 (by decide)
                have k165 : tm.getD 165 undef = u165 := hfr 165 (by decide)
                have k166 : tm.getD 166 undef = u166 := hfr 166 (by decide)
                have k167 : tm.getD 167 undef = u167 := hfr 167 (by decide)
                have k168 : tm.getD 168 undef = u168 := hfr 168 (by decide)
                have k169 : tm.getD 169 undef = u169 := hfr 169 (by decide)
                have k170 : tm.getD 170 undef = u170 := hfr 170 (by decide)
                have k171 : tm.getD 171 undef = u171 := hfr 171 (by decide)
                have k172 : tm.getD 172 undef = u172 := hfr 172 (by decide)
                have k173 : tm.getD 173 undef = u173 := hfr 173 (by decide)
                have k174 : tm.getD 174 undef = Value.bool false := hfr 174 (by decide)
                have k175 : tm.getD 175 undef = Value.bool false := hfr 175 (by decide)
                have k176 : tm.getD 176 undef = u176 := hfr 176 (by decide)
                have k177 : tm.getD 177 undef = u177 := hfr 177 (by decide)
                have k178 : tm.getD 178 undef = u178 := hfr 178 (by decide)
                have k179 : tm.getD 179 undef = u179 := hfr 179 (by decide)
                have k180 : tm.getD 180 undef = u180 := hfr 180 (by decide)
                have k181 : tm.getD 181 undef = u181 := hfr 181 (by decide)
                have k182 : tm.getD 182 undef = u182 := hfr 182 (by decide)
                have k183 : tm.getD 183 undef = u183 := hfr 183 (by decide)
                have k184 : tm.getD 184 undef = u184 := hfr 184 (by decide)
                have k185 : tm.getD 185 undef = u185 := hfr 185 (by decide)
                have k186 : tm.getD 186 undef = u186 := hfr 186 (by decide)
                have k187 : tm.getD 187 undef = u187 := hfr 187 (by decide)
                have k188 : tm.getD 188 undef = u188 := hfr 188 (by decide)
                have k189 : tm.getD 189 undef = u189 := hfr 189 (by decide)
                have k190 : tm.getD 190 undef = u190 := hfr 190 (by decide)
                have k191 : tm.getD 191 undef = u191 := hfr 191 (by decide)
                have k192 : tm.getD 192 undef = u192 := hfr 192 (by decide)
                have k193 : tm.getD 193 undef = u193 := hfr 193 (by decide)
                have k194 : tm.getD 194 undef = u194 := hfr 194 (by decide)
                have k195 : tm.getD 195 undef = u195 := hfr 195 (by decide)
                have k196 : tm.getD 196 undef = u196 := hfr 196 (by decide)
                have k197 : tm.getD 197 undef = u197 := hfr 197 (by decide)
                have k198 : tm.getD 198 undef = u198 := hfr 198 (by decide)
                have k199 : tm.getD 199 undef = u199 := hfr 199 (by decide)
                have k200 : tm.getD 200 undef = u200 := hfr 200 (by decide)
                have k201 : tm.getD 201 undef = u201 := hfr 201 (by decide)
                have k202 : tm.getD 202 undef = u202 := hfr 202 (by decide)
                have k203 : tm.getD 203 undef = u203 := hfr 203 (by decide)
                have k204 : tm.getD 204 undef = u204 := hfr 204 (by decide)
                have k205 : tm.getD 205 undef = u205 := hfr 205 (by decide)
                have k206 : tm.getD 206 undef = u206 := hfr 206 (by decide)
                have k207 : tm.getD 207 undef = u207 := hfr 207 (by decide)
                have k208 : tm.getD 208 undef = u208 := hfr 208 (by decide)
                have k209 : tm.getD 209 undef = u209 := hfr 209 (by decide)
                have k210 : tm.getD 210 undef = u210 := hfr 210 (by decide)
                have k211 : tm.getD 211 undef = u211 := hfr 211 (by decide)
                have k212 : tm.getD 212 undef = u212 := hfr 212 (by decide)
                have k213 : tm.getD 213 undef = u213 := hfr 213 (by decide)
                have k214 : tm.getD 214 undef = u214 := hfr 214 (by decide)
                have k215 : tm.getD 215 undef = u215 := hfr 215 (by decide)
                have k216 : tm.getD 216 undef = u216 := hfr 216 (by decide)
                have k217 : tm.getD 217 undef = u217 := hfr 217 (by decide)
                have k218 : tm.getD 218 undef = u218 := hfr 218 (by decide)
                have k219 : tm.getD 219 undef = u219 := hfr 219 (by decide)
                have k220 : tm.getD 220 undef = u220 := hfr 220 (by decide)
                have k221 : tm.getD 221 undef = u221 := hfr 221 (by decide)
                have k222 : tm.getD 222 undef = u222 := hfr 222 (by decide)
                have k223 : tm.getD 223 undef = u223 := hfr 223 (by decide)
                have k224 : tm.getD 224 undef = u224 := hfr 224 (by decide)
                have k225 : tm.getD 225 undef = u225 := hfr 225 (by decide)
                have k226 : tm.getD 226 undef = u226 := hfr 226 (by decide)
                have k227 : tm.getD 227 undef = u227 := hfr 227 (by decide)
                have k228 : tm.getD 228 undef = u228 := hfr 228 (by decide)
                have k229 : tm.getD 229 undef = u229 := hfr 229 (by decide)
                have k230 : tm.getD 230 undef = u230 := hfr 230 (by decide)
                have k231 : tm.getD 231 undef = u231 := hfr 231 (by decide)
                have k232 : tm.getD 232 undef = u232 := hfr 232 (by decide)
                have k233 : tm.getD 233 undef = u233 := hfr 233 (by decide)
                have k234 : tm.getD 234 undef = undef := hfr 234 (by decide)
                have k235 : tm.getD 235 undef = undef := hfr 235 (by decide)
                have k236 : tm.getD 236 undef = undef := hfr 236 (by decide)
                have k237 : tm.getD 237 undef = undef := hfr 237 (by decide)
                have k238 : tm.getD 238 undef = undef := hfr 238 (by decide)
                have k239 : tm.getD 239 undef = undef := hfr 239 (by decide)
                have k240 : tm.getD 240 undef = undef := hfr 240 (by decide)
                have k241 : tm.getD 241 undef = undef := hfr 241 (by decide)
                have k242 : tm.getD 242 undef = undef := hfr 242 (by decide)
                have k243 : tm.getD 243 undef = undef := hfr 243 (by decide)
                have k244 : tm.getD 244 undef = undef := hfr 244 (by decide)
                have k245 : tm.getD 245 undef = undef := hfr 245 (by decide)
                have k246 : tm.getD 246 undef = undef := hfr 246 (by decide)
                have k247 : tm.getD 247 undef = undef := hfr 247 (by decide)
                have k248 : tm.getD 248 undef = undef := hfr 248 (by decide)
                have k97 : tm.getD 97 undef = .bool false := AllG.get hG 16 (by decide)
                have he : tm = #[tm.getD 0 undef, tm.getD 1 undef, tm.getD 2 undef, tm.getD 3 undef, tm.getD 4 undef, tm.getD 5 undef, tm.getD 6 undef, tm.getD 7 undef, tm.getD 8 undef, tm.getD 9 undef, tm.getD 10 undef, tm.getD 11 undef, tm.getD 12 undef, tm.getD 13 undef, tm.getD 14 undef, tm.getD 15 undef, tm.getD 16 undef, tm.getD 17 undef, tm.getD 18 undef, tm.getD 19 undef, tm.getD 20 undef, tm.getD 21 undef, tm.getD 22 undef, tm.getD 23 undef, tm.getD 24 undef, tm.getD 25 undef, tm.getD 26 undef, tm.getD 27 undef, tm.getD 28 undef, tm.getD 29 undef, tm.getD 30 undef, tm.getD 31 undef, tm.getD 32 undef, tm.getD 33 undef, tm.getD 34 undef, tm.getD 35 undef, tm.getD 36 undef, tm.getD 37 undef, tm.getD 38 undef, tm.getD 39 undef, tm.getD 40 undef, tm.getD 41 undef, tm.getD 42 undef, tm.getD 43 undef, tm.getD 44 undef, tm.getD 45 undef, tm.getD 46 undef, tm.getD 47 undef, tm.getD 48 undef, tm.getD 49 undef, tm.getD 50 undef, tm.getD 51 undef, tm.getD 52 undef, tm.getD 53 undef, tm.getD 54 undef, tm.getD 55 undef, tm.getD 56 undef, tm.getD 57 undef, tm.getD 58 undef, tm.getD 59 undef, tm.getD 60 undef, tm.getD 61 undef, tm.getD 62 undef, tm.getD 63 undef, tm.getD 64 undef, tm.getD 65 undef, tm.getD 66 undef, tm.getD 67 undef, tm.getD 68 undef, tm.getD 69 undef, tm.getD 70 undef, tm.getD 71 undef, tm.getD 72 undef, tm.getD 73 undef, tm.getD 74 undef, tm.getD 75 undef, tm.getD 76 undef, tm.getD 77 undef, tm.getD 78 undef, tm.getD 79 undef, tm.getD 80 undef, tm.getD 81 undef, tm.getD 82 undef, tm.getD 83 undef, tm.getD 84 undef, tm.getD 85 undef, tm.getD 86 undef, tm.getD 87 undef, tm.getD 88 undef, tm.getD 89 undef, tm.getD 90 undef, tm.getD 91 undef, tm.getD 92 undef, tm.getD 93 undef, tm.getD 94 undef, tm.getD 95 undef, tm.getD 96 undef, tm.getD 97 undef, tm.getD 98 undef, tm.getD 99 undef, tm.getD 100 undef, tm.getD 101 undef, tm.getD 102 undef, tm.getD 103 undef, tm.getD 104 undef, tm.getD 105 undef, tm.getD 106 undef, tm.getD 107 undef, tm.getD 108 undef, tm.getD 109 undef, tm.getD 110 undef, tm.getD 111 undef, tm.getD 112 undef, tm.getD 113 undef, tm.getD 114 undef, tm.getD 115 undef, tm.getD 116 undef, tm.getD 117 undef, tm.getD 118 undef, tm.getD 119 undef, tm.getD 120 undef, tm.getD 121 undef, tm.getD 122 undef, tm.getD 123 undef, tm.getD 124 undef, tm.getD 125 undef, tm.getD 126 undef, tm.getD 127 undef, tm.getD 128 undef, tm.getD 129 undef, tm.getD 130 undef, tm.getD 131 undef, tm.getD 132 undef, tm.getD 133 undef, tm.getD 134 undef, tm.getD 135 undef, tm.getD 136 undef, tm.getD 137 undef, tm.getD 138 undef, tm.getD 139 undef, tm.getD 140 undef, tm.getD 141 undef, tm.getD 142 undef, tm.getD 143 undef, tm.getD 144 undef, tm.getD 145 undef, tm.getD 146 undef, tm.getD 147 undef, tm.getD 148 undef, tm.getD 149 undef, tm.getD 150 undef, tm.getD 151 undef, tm.getD 152 undef, tm.getD 153 undef, tm.getD 154 undef, tm.getD 155 undef, tm.getD 156 undef, tm.getD 157 undef, tm.getD 158 undef, tm.getD 159 undef, tm.getD 160 undef, tm.getD 161 undef, tm.getD 162 undef, tm.getD 163 undef, tm.getD 164 undef, tm.getD 165 undef, tm.getD 166 undef, tm.getD 167 undef, tm.getD 168 undef, tm.getD 169 undef, tm.getD 170 undef, tm.getD 171 undef, tm.getD 172 undef, tm.getD 173 undef, tm.getD 174 undef, tm.getD 175 undef, tm.getD 176 undef, tm.getD 177 undef, tm.getD 178 undef, tm.getD 179 undef, tm.getD 180 undef, tm.getD 181 undef, tm.getD 182 undef, tm.getD 183 undef, tm.getD 184 undef, tm.getD 185 undef, tm.getD 186 undef, tm.getD 187 undef, tm.getD 188 undef, tm.getD 189 undef, tm.getD 190 undef, tm.getD 191 undef, tm.getD 192 undef, tm.getD 193 undef, tm.getD 194 undef, tm.getD 195 undef, tm.getD 196 undef, tm.getD 197 undef, tm.getD 198 undef, tm.getD 199 undef, tm.getD 200 undef, tm.getD 201 undef, tm.getD 202 undef, tm.getD 203 undef, tm.getD 204 undef, tm.getD 205 undef, tm.getD 206 undef, tm.getD 207 undef, tm.getD 208 undef, tm.getD 209 undef, tm.getD 210 undef, tm.getD 211 undef, tm.getD 212 undef, tm.getD 213 undef, tm.getD 214 undef, tm.getD 215 undef, tm.getD 216 undef, tm.getD 217 undef, tm.getD 218 undef, tm.getD 219 undef, tm.getD 220 undef, tm.getD 221 undef, tm.getD 222 undef, tm.getD 223 undef, tm.getD 224 undef, tm.getD 225 undef, tm.getD 226 undef, tm.getD 227 undef, tm.getD 228 undef, tm.getD 229 undef, tm.getD 230 undef, tm.getD 231 undef, tm.getD 232 undef, tm.getD 233 undef, tm.getD 234 undef, tm.getD 235 undef, tm.getD 236 undef, tm.getD 237 undef, tm.getD 238 undef, tm.getD 239 undef, tm.getD 240 undef, tm.getD 241 undef, tm.getD 242 undef, tm.getD 243 undef, tm.getD 244 undef, tm.getD 245 undef, tm.getD 246 undef, tm.getD 247 undef, tm.getD 248 undef] := arr_eta (n := 249) hsz
                replace hdf : df = [] := hdf
                subst hdf
                clear hsz hfr hG
                rw [he, k0, k1, k2, k3, k4, k5, k6, k7, k8, k9, k10, k11, k12, k13, k14, k15, k16, k17, k18, k19, k20, k21, k22, k23, k24, k25, k26, k27, k28, k29, k30, k31, k32, k33, k34, k35, k36, k37, k38, k39, k40, k41, k42, k43, k44, k45, k46, k47, k48, k49, k50, k51, k52, k53, k54, k55, k56, k57, k58, k59, k60, k61, k62, k63, k64, k65, k66, k67, k68, k69, k70, k71, k72, k73, k74, k75, k76, k77, k78, k79, k80, k98, k99, k100, k101, k102, k103, k104, k105, k106, k107, k108, k109, k110, k111, k112, k113, k114, k115, k116, k117, k118, k119, k120, k121, k122, k123, k124, k125, k126, k127, k128, k129, k130, k131, k132, k133, k134, k135, k136, k137, k138, k139, k140, k141, k142, k143, k144, k145, k146, k147, k148, k149, k150, k151, k152, k153, k154, k155, k156, k157, k158, k159, k160, k161, k162, k163, k164, k165, k166, k167, k168, k169, k170, k171, k172, k173, k174, k175, k176, k177, k178, k179, k180, k181, k182, k183, k184, k185, k186, k187, k188, k189, k190, k191, k192, k193, k194, k195, k196, k197, k198, k199, k200, k201, k202, k203, k204, k205, k206, k207, k208, k209, k210, k211, k212, k213, k214, k215, k216, k217, k218, k219, k220, k221, k222, k223, k224, k225, k226, k227, k228, k229, k230, k231, k232, k233, k234, k235, k236, k237, k238, k239, k240, k241, k242, k243, k244, k245, k246, k247, k248, k97]
                clear he k0 k1 k2 k3 k4 k5 k6 k7 k8 k9 k10 k11 k12 k13 k14 k15 k16 k17 k18 k19 k20 k21 k22 k23 k24 k25 k26 k27 k28 k29 k30 k31 k32 k33 k34 k35 k36 k37 k38 k39 k40 k41 k42 k43 k44 k45 k46 k47 k48 k49 k50 k51 k52 k53 k54 k55 k56 k57 k58 k59 k60 k61 k62 k63 k64 k65 k66 k67 k68 k69 k70 k71 k72 k73 k74 k75 k76 k77 k78 k79 k80 k98 k99 k100 k101 k102 k103 k104 k105 k106 k107 k108 k109 k110 k111 k112 k113 k114 k115 k116 k117 k118 k119 k120 k121 k122 k123 k124 k125 k126 k127 k128 k129 k130 k131 k132 k133 k134 k135 k136 k137 k138 k139 k140 k141 k142 k143 k144 k145 k146 k147 k148 k149 k150 k151 k152 k153 k154 k155 k156 k157 k158 k159 k160 k161 k162 k163 k164 k165 k166 k167 k168 k169 k170 k171 k172 k173 k174 k175 k176 k177 k178 k179 k180 k181 k182 k183 k184 k185 k186 k187 k188 k189 k190 k191 k192 k193 k194 k195 k196 k197 k198 k199 k200 k201 k202 k203 k204 k205 k206 k207 k208 k209 k210 k211 k212 k213 k214 k215 k216 k217 k218 k219 k220 k221 k222 k223 k224 k225 k226 k227 k228 k229 k230 k231 k232 k233 k234 k235 k236 k237 k238 k239 k240 k241 k242 k243 k244 k245 k246 k247 k248 k97
                generalize tm.getD 81 undef = x81
                generalize tm.getD 82 undef = x82
                generalize tm.getD 83 undef = x83
                generalize tm.getD 84 undef = x84
                generalize tm.getD 85 undef = x85
                generalize tm.getD 86 undef = x86
                generalize tm.getD 87 undef = x87
                generalize tm.getD 88 undef = x88
                generalize tm.getD 89 undef = x89
                generalize tm.getD 90 undef = x90
                generalize tm.getD 91 undef = x91
                generalize tm.getD 92 undef = x92
                generalize tm.getD 93 undef = x93
                generalize tm.getD 94 undef = x94
                generalize tm.getD 95 undef = x95
                generalize tm.getD 96 undef = x96
                simp only [List.drop_succ_cons, List.drop_zero]
                clear hb1 hm1w hr1w HK1
                go_wp2_with fail
                refine wp_region_facts_tail 8 osDs osNeed osGs (fun w' => w'.heap[pb]? = some (.cells #[.int .i64 10, .int .i64 qa, .int .i64 9, .int .i64 0, .int .i64 qi, .int .i64 0, .bool false, .bool false, .string ⟨#[]⟩, .string ⟨#[]⟩] 47 (0, 0)) ∧ MapI w' m2 Wj ∧ w'.cell? ⟨rb, ro, none⟩ = some (.int .i64 qi) ∧ Only (fun _ => False) wr w') (Only (fun _ => False)) (osG pb m2 rb ro N1 rc qa qi ta N2 rc1) rfl rfl (by kernel_rfl) (by kernel_rfl) (by kernel_rfl) (by kernel_rfl) (by kernel_rfl) ⟨hB2, hM2.only ((Only.refl (fun _ => False) _).drew) (fun h => h), hC2, hO2.drew⟩ osG.keep osG.guard ?_ ?_
                · refine And.intro ?op0 (And.intro ?op1 (And.intro ?op2 (And.intro ?op3 (And.intro ?op4 (And.intro ?op5 (And.intro ?op6 (And.intro ?op7 trivial)))))))
                  case op0 =>
                    intro ev w1 hT1 hc hf hfr hG
                    rw [if_pos (by decide)]
                    obtain ⟨hB, hM, hC, hO⟩ := hT1
                    have h5 : ev (.tmp 5) = .map (some m2) := hfr 5 (by decide)
                    clear hG hfr
                    refine OpSays.value (v := .map (some m2)) (w' := w1) ?_ ⟨⟨hB, hM, hC, hO⟩, Only.refl _ _, rfl⟩
                    go_simp
                  case op1 =>
                    intro ev w1 hT1 hc hf hfr hG
                    rw [if_pos (by decide)]
                    obtain ⟨hB, hM, hC, hO⟩ := hT1
                    have h28 : ev (.tmp 28) = .pointer (some ⟨pb, 0, none⟩) := hfr 28 (by decide)
                    clear hG hfr
                    refine OpSays.value (v := .pointer (some ⟨pb, 1, none⟩)) (w' := w1) ?_ ⟨⟨hB, hM, hC, hO⟩, Only.refl _ _, rfl⟩
                    go_simp
                  case op2 =>
                    intro ev w1 hT1 hc hf hfr hG
                    rw [if_pos (by decide)]
                    obtain ⟨hB, hM, hC, hO⟩ := hT1
                    have hg : (ev (.tmp 99) = .pointer (some ⟨pb, 1, none⟩)) ∧ True := hG
                    obtain ⟨g1, _⟩ := hg
                    clear hG hfr
                    have c := blk_cell hB 1
                    simp only [List.getElem?_toArray, List.getElem?_cons_zero, List.getElem?_cons_succ] at c
                    refine OpSays.value (v := .int .i64 qa) (w' := w1) ?_ ⟨⟨hB, hM, hC, hO⟩, Only.refl _ _, rfl⟩
                    go_simp
                  case op3 =>
                    intro ev w1 hT1 hc hf hfr hG
                    rw [if_pos (by decide)]
                    obtain ⟨hB, hM, hC, hO⟩ := hT1
                    have h5 : ev (.tmp 5) = .map (some m2) := hfr 5 (by decide)
                    clear hG hfr
                    refine OpSays.value (v := .map (some m2)) (w' := w1) ?_ ⟨⟨hB, hM, hC, hO⟩, Only.refl _ _, rfl⟩
                    go_simp
                  case op4 =>
                    intro ev w1 hT1 hc hf hfr hG
                    rw [if_pos (by decide)]
                    obtain ⟨hB, hM, hC, hO⟩ := hT1
                    have h28 : ev (.tmp 28) = .pointer (some ⟨pb, 0, none⟩) := hfr 28 (by decide)
                    clear hG hfr
                    refine OpSays.value (v := .pointer (some ⟨pb, 1, none⟩)) (w' := w1) ?_ ⟨⟨hB, hM, hC, hO⟩, Only.refl _ _, rfl⟩
                    go_simp
                  case op5 =>
                    intro ev w1 hT1 hc hf hfr hG
                    rw [if_pos (by decide)]
                    obtain ⟨hB, hM, hC, hO⟩ := hT1
                    have hg : (ev (.tmp 102) = .pointer (some ⟨pb, 1, none⟩)) ∧ True := hG
                    obtain ⟨g4, _⟩ := hg
                    clear hG hfr
                    have c := blk_cell hB 1
                    simp only [List.getElem?_toArray, List.getElem?_cons_zero, List.getElem?_cons_succ] at c
                    refine OpSays.value (v := .int .i64 qa) (w' := w1) ?_ ⟨⟨hB, hM, hC, hO⟩, Only.refl _ _, rfl⟩
                    go_simp
                  case op6 =>
                    intro ev w1 hT1 hc hf hfr hG
                    rw [if_pos (by decide)]
                    obtain ⟨hB, hM, hC, hO⟩ := hT1
                    have hg : (ev (.tmp 101) = .map (some m2)) ∧ (ev (.tmp 103) = .int .i64 qa) ∧ True := hG
                    obtain ⟨g3, g5, _⟩ := hg
                    clear hG hfr
                    have hl := HLKA.out w1 hM
                    refine OpSays.value (v := .slice (some ⟨rb, ro, none⟩) N1 rc) (w' := w1) ?_ ⟨⟨hB, hM, hC, hO⟩, Only.refl _ _, rfl⟩
                    go_simp
                  case op7 =>
                    intro ev w1 hT1 hc hf hfr hG
                    rw [if_pos (by decide)]
                    obtain ⟨hB, hM, hC, hO⟩ := hT1
                    have hg : (ev (.tmp 104) = .slice (some ⟨rb, ro, none⟩) N1 rc) ∧ True := hG
                    obtain ⟨g6, _⟩ := hg
                    clear hG hfr
                    have hs := HSL.out w1
                    refine OpSays.value (v := .slice ta N2 rc1) (w' := w1) ?_ ⟨⟨hB, hM, hC, hO⟩, Only.refl _ _, rfl⟩
                    go_simp
                rintro ⟨tm, df⟩ w3x ⟨hB3, hM3, hC3, hO3⟩ hsz hdf hfr hG
                have k0 : tm.getD 0 undef = Value.slice (some { block := b, off := off }) n cap := hfr 0 (by decide)
                have k1 : tm.getD 1 undef = undef := hfr 1 (by decide)
                have k2 : tm.getD 2 undef = u2 := hfr 2 (by decide)
                have k3 : tm.getD 3 undef = Value.pointer (some { block := g, off := 0 }) := hfr 3 (by decide)
                have k4 : tm.getD 4 undef = Value.map (some m1) := hfr 4 (by decide)
                have k5 : tm.getD 5 undef = Value.map (some m2) := hfr 5 (by decide)
                have k6 : tm.getD 6 undef = Value.int IntKind.i64 nw2 := hfr 6 (by decide)
                have k7 : tm.getD 7 undef = Value.int IntKind.i64 many := hfr 7 (by decide)
                have k8 : tm.getD 8 undef = Value.int IntKind.i64 gone := hfr 8 (by decide)
                have k9 : tm.getD 9 undef = Value.int IntKind.i64 ↑k := hfr 9 (by decide)
                have k10 : tm.getD 10 undef = Value.pointer (some { block := p, off := 0 }) := hfr 10 (by decide)
                have k11 : tm.getD 11 undef = Value.int IntKind.i64 to := hfr 11 (by decide)
                have k12 : tm.getD 12 undef = u12 := hfr 12 (by decide)
                have k13 : tm.getD 13 undef = u13 := hfr 13 (by decide)
                have k14 : tm.getD 14 undef = u14 := hfr 14 (by decide)
                have k15 : tm.getD 15 undef = u15 := hfr 15 (by decide)
                have k16 : tm.getD 16 undef = u16 := hfr 16 (by decide)
                have k17 : tm.getD 17 undef = u17 := hfr 17 (by decide)
                have k18 : tm.getD 18 undef = u18 := hfr 18 (by decide)
                have k19 : tm.getD 19 undef = u19 := hfr 19 (by decide)
                have k20 : tm.getD 20 undef = u20 := hfr 20 (by decide)
                have k21 : tm.getD 21 undef = u21 := hfr 21 (by decide)
                have k22 : tm.getD 22 undef = u22 := hfr 22 (by decide)
                have k23 : tm.getD 23 undef = u23 := hfr 23 (by decide)
                have k24 : tm.getD 24 undef = va := hfr 24 (by decide)
                have k25 : tm.getD 25 undef = Value.slice (some { block := ga, off := 0 }) N lcap := hfr 25 (by decide)
                have k26 : tm.getD 26 undef = Value.int IntKind.i64 0 := hfr 26 (by decide)
                have k27 : tm.getD 27 undef = undef := hfr 27 (by decide)
                have k28 : tm.getD 28 undef = Value.pointer (some { block := pb, off := 0 }) := hfr 28 (by decide)
                have k29 : tm.getD 29 undef = undef := hfr 29 (by decide)
                have k30 : tm.getD 30 undef = undef := hfr 30 (by decide)
                have k31 : tm.getD 31 undef = Value.pointer (some { block := g, off := 0 }) := hfr 31 (by decide)
                have k32 : tm.getD 32 undef = Value.pointer (some { block := g, off := 0 }) := hfr 32 (by decide)
                have k33 : tm.getD 33 undef = Value.bool false := hfr 33 (by decide)
                have k34 : tm.getD 34 undef = Value.bool false := hfr 34 (by decide)
                have k35 : tm.getD 35 undef = Value.bool true := hfr 35 (by decide)
                have k36 : tm.getD 36 undef = Value.bool false := hfr 36 (by decide)
                have k37 : tm.getD 37 undef = Value.bool false := hfr 37 (by decide)
                have k38 : tm.getD 38 undef = Value.map (some m1) := hfr 38 (by decide)
                have k39 : tm.getD 39 undef = Value.map (some m2) := hfr 39 (by decide)
                have k40 : tm.getD 40 undef = Value.int IntKind.i64 ↑k := hfr 40 (by decide)
                have k41 : tm.getD 41 undef = Value.slice (some { block := b, off := off }) n cap := hfr 41 (by decide)
                have k42 : tm.getD 42 undef = Value.int IntKind.i64 ↑n := hfr 42 (by decide)
                have k43 : tm.getD 43 undef = Value.bool true := hfr 43 (by decide)
                have k44 : tm.getD 44 undef = Value.bool true := hfr 44 (by decide)
                have k45 : tm.getD 45 undef = Value.int IntKind.i64 ↑k := hfr 45 (by decide)
                have k46 : tm.getD 46 undef = Value.bool true := hfr 46 (by decide)
                have k47 : tm.getD 47 undef = Value.bool true := hfr 47 (by decide)
                have k48 : tm.getD 48 undef = u48 := hfr 48 (by decide)
                have k49 : tm.getD 49 undef = u49 := hfr 49 (by decide)
                have k50 : tm.getD 50 undef = Value.slice (some { block := b, off := off }) n cap := hfr 50 (by decide)
                have k51 : tm.getD 51 undef = Value.int IntKind.i64 ↑k := hfr 51 (by decide)
                have k52 : tm.getD 52 undef = Value.pointer (some { block := b, off := off + k * 19 }) := hfr 52 (by decide)
                have k53 : tm.getD 53 undef = Value.agg cs.toArray := hfr 53 (by decide)
                have k54 : tm.getD 54 undef = Value.int IntKind.i64 nw := hfr 54 (by decide)
                have k55 : tm.getD 55 undef = Value.pointer (some { block := p, off := 2 }) := hfr 55 (by decide)
                have k56 : tm.getD 56 undef = Value.int IntKind.i64 a2 := hfr 56 (by decide)
                have k57 : tm.getD 57 undef = Value.int IntKind.i64 (a2 % 3) := hfr 57 (by decide)
                have k58 : tm.getD 58 undef = Value.int IntKind.i64 nw2 := hfr 58 (by decide)
                have k59 : tm.getD 59 undef = Value.pointer (some { block := p, off := 1 }) := hfr 59 (by decide)
                have k60 : tm.getD 60 undef = Value.int IntKind.i64 a1 := hfr 60 (by decide)
                have k61 : tm.getD 61 undef = Value.int IntKind.i64 (a1 % 4) := hfr 61 (by decide)
                have k62 : tm.getD 62 undef = Value.int IntKind.i64 to := hfr 62 (by decide)
                have k63 : tm.getD 63 undef = Value.pointer (some { block := p, off := 0 }) := hfr 63 (by decide)
                have k64 : tm.getD 64 undef = Value.int IntKind.i64 a0 := hfr 64 (by decide)
                have k65 : tm.getD 65 undef = Value.int IntKind.i64 kd := hfr 65 (by decide)
                have k66 : tm.getD 66 undef = Value.tuple #[va, Value.slice (some { block := ga, off := 0 }) N lcap, Value.int IntKind.i64 0] := hfr 66 (by decide)
                have k67 : tm.getD 67 undef = Value.pointer (some { block := g, off := 0 }) := hfr 67 (by decide)
                have k68 : tm.getD 68 undef = Value.int IntKind.i64 nw2 := hfr 68 (by decide)
                have k69 : tm.getD 69 undef = Value.tuple #[va, Value.slice (some { block := ga, off := 0 }) N lcap, Value.int IntKind.i64 0] := hfr 69 (by decide)
                have k70 : tm.getD 70 undef = va := hfr 70 (by decide)
                have k71 : tm.getD 71 undef = Value.slice (some { block := ga, off := 0 }) N lcap := hfr 71 (by decide)
                have k72 : tm.getD 72 undef = Value.int IntKind.i64 0 := hfr 72 (by decide)
                have k73 : tm.getD 73 undef = Value.int IntKind.i64 0 := hfr 73 (by decide)
                have k74 : tm.getD 74 undef = Value.bool false := hfr 74 (by decide)
                have k75 : tm.getD 75 undef = Value.slice (some { block := ga, off := 0 }) N lcap := hfr 75 (by decide)
                have k76 : tm.getD 76 undef = Value.int IntKind.i64 ↑N := hfr 76 (by decide)
                have k77 : tm.getD 77 undef = Value.int IntKind.i64 ↑j := hfr 77 (by decide)
                have k78 : tm.getD 78 undef = Value.bool true := hfr 78 (by decide)
                have k79 : tm.getD 79 undef = Value.pointer (some { block := ga, off := j * 10 }) := hfr 79 (by decide)
                have k80 : tm.getD 80 undef = Value.agg #[Value.int IntKind.i64 10, Value.int IntKind.i64 qa, Value.int IntKind.i64 9, Value.int IntKind.i64 0, Value.int IntKind.i64 qi, Value.int IntKind.i64 0, Value.bool false, Value.bool false, Value.string { data := #[] }, Value.string { data := #[] }] := hfr 80 (by decide)
                have k106 : tm.getD 106 undef = u106 := hfr 106 (by decide)
                have k107 : tm.getD 107 undef = u107 := hfr 107 (by decide)
                have k108 : tm.getD 108 undef = u108 := hfr 108 (by decide)
                have k109 : tm.getD 109 undef = u109 := hfr 109 (by decide)
                have k110 : tm.getD 110 undef = u110 := hfr 110 (by decide)
                have k111 : tm.getD 111 undef = Value.bool false := hfr 111 (by decide)
                have k112 : tm.getD 112 undef = Value.bool false := hfr 112 (by decide)
                have k113 : tm.getD 113 undef = u113 := hfr 113 (by decide)
                have k114 : tm.getD 114 undef = u114 := hfr 114 (by decide)
                have k115 : tm.getD 115 undef = u115 := hfr 115 (by decide)
                have k116 : tm.getD 116 undef = u116 := hfr 116 (by decide)
                have k117 : tm.getD 117 undef = u117 := hfr 117 (by decide)
                have k118 : tm.getD 118 undef = u118 := hfr 118 (by decide)
                have k119 : tm.getD 119 undef = u119 := hfr 119 (by decide)
                have k120 : tm.getD 120 undef = u120 := hfr 120 (by decide)
                have k121 : tm.getD 121 undef = u121 := hfr 121 (by decide)
                have k122 : tm.getD 122 undef = u122 := hfr 122 (by decide)
                have k123 : tm.getD 123 undef = u123 := hfr 123 (by decide)
                have k124 : tm.getD 124 undef = u124 := hfr 124 (by decide)
                have k125 : tm.getD 125 undef = u125 := hfr 125 (by decide)
                have k126 : tm.getD 126 undef = u126 := hfr 126 (by decide)
                have k127 : tm.getD 127 undef = u127 := hfr 127 (by decide)
                have k128 : tm.getD 128 undef = u128 := hfr 128 (by decide)
                have k129 : tm.getD 129 undef = u129 := hfr 129 (by decide)
                have k130 : tm.getD 130 undef = u130 := hfr 130 (by decide)
                have k131 : tm.getD 131 undef = u131 := hfr 131 (by decide)
                have k132 : tm.getD 132 undef = u132 := hfr 132 (by decide)
                have k133 : tm.getD 133 undef = u133 := hfr 133 (by decide)
                have k134 : tm.getD 134 undef = u134 := hfr 134 (by decide)
                have k135 : tm.getD 135 undef = u135 := hfr 135 (by decide)
                have k136 : tm.getD 136 undef = u136 := hfr 136 (by decide)
                have k137 : tm.getD 137 undef = u137 := hfr 137 (by decide)
                have k138 : tm.getD 138 undef = u138 := hfr 138 (by decide)
                have k139 : tm.getD 139 undef = u139 := hfr 139 (by decide)
                have k140 : tm.getD 140 undef = u140 := hfr 140 (by decide)
                have k141 : tm.getD 141 undef = u141 := hfr 141 (by decide)
                have k142 : tm.getD 142 undef = u142 := hfr 142 (by decide)
                have k143 : tm.getD 143 undef = u143 := hfr 143 (by decide)
                have k144 : tm.getD 144 undef = u144 := hfr 144 (by decide)
                have k145 : tm.getD 145 undef = u145 := hfr 145 (by decide)
                have k146 : tm.getD 146 undef = u146 := hfr 146 (by decide)
                have k147 : tm.getD 147 undef = u147 := hfr 147 (by decide)
                have k148 : tm.getD 148 undef = u148 := hfr 148 (by decide)
                have k149 : tm.getD 149 undef = u149 := hfr 149 (by decide)
                have k150 : tm.getD 150 undef = u150 := hfr 150 (by decide)
                have k151 : tm.getD 151 undef = u151 := hfr 151 (by decide)
                have k152 : tm.getD 152 undef = u152 := hfr 152 (by decide)
                have k153 : tm.getD 153 undef = u153 := hfr 153 (by decide)
                have k154 : tm.getD 154 undef = u154 := hfr 154 (by decide)
                have k155 : tm.getD 155 undef = u155 := hfr 155 (by decide)
                have k156 : tm.getD 156 undef = u156 := hfr 156 (by decide)
                have k157 : tm.getD 157 undef = u157 := hfr 157 (by decide)
                have k158 : tm.getD 158 undef = u158 := hfr 158 (by decide)
                have k159 : tm.getD 159 undef = u159 := hfr 159 (by decide)
                have k160 : tm.getD 160 undef = u160 := hfr 160 (by decide)
                have k161 : tm.getD 161 undef = u161 := hfr 161 (by decide)
                have k162 : tm.getD 162 undef = u162 := hfr 162 (by decide)
                have k163 : tm.getD 163 undef = u163 := hfr 163 (by decide)
                have k164 : tm.getD 164 undef = u164 := hfr 164 (by decide)
                have k165 : tm.getD 165 undef = u165 := hfr 165 (by decide)
                have k166 : tm.getD 166 undef = u166 := hfr 166 (by decide)
                have k167 : tm.getD 167 undef = u167 := hfr 167 (by decide)
                have k168 : tm.getD 168 undef = u168 := hfr 168 (by decide)
                have k169 : tm.getD 169 undef = u169 := hfr 169 (by decide)
                have k170 : tm.getD 170 undef = u170 := hfr 170 (by decide)
                have k171 : tm.getD 171 undef = u171 := hfr 171 (by decide)
                have k172 : tm.getD 172 undef = u172 := hfr 172 (by decide)
                have k173 : tm.getD 173 undef = u173 := hfr 173 (by decide)
                have k174 : tm.getD 174 undef = Value.bool false := hfr 174 (by decide)
                have k175 : tm.getD 175 undef = Value.bool false := hfr 175 (by decide)
                have k176 : tm.getD 176 undef = u176 := hfr 176 (by decide)
                have k177 : tm.getD 177 undef = u177 := hfr 177 (by decide)
                have k178 : tm.getD 178 undef = u178 := hfr 178 (by decide)
                have k179 : tm.getD 179 undef = u179 := hfr 179 (by decide)
                have k180 : tm.getD 180 undef = u180 := hfr 180 (by decide)
                have k181 : tm.getD 181 undef = u181 := hfr 181 (by decide)
                have k182 : tm.getD 182 undef = u182 := hfr 182 (by decide)
                have k183 : tm.getD 183 undef = u183 := hfr 183 (by decide)
                have k184 : tm.getD 184 undef = u184 := hfr 184 (by decide)
                have k185 : tm.getD 185 undef = u185 := hfr 185 (by decide)
                have k186 : tm.getD 186 undef = u186 := hfr 186 (by decide)
                have k187 : tm.getD 187 undef = u187 := hfr 187 (by decide)
                have k188 : tm.getD 188 undef = u188 := hfr 188 (by decide)
                have k189 : tm.getD 189 undef = u189 := hfr 189 (by decide)
                have k190 : tm.getD 190 undef = u190 := hfr 190 (by decide)
                have k191 : tm.getD 191 undef = u191 := hfr 191 (by decide)
                have k192 : tm.getD 192 undef = u192 := hfr 192 (by decide)
                have k193 : tm.getD 193 undef = u193 := hfr 193 (by decide)
                have k194 : tm.getD 194 undef = u194 := hfr 194 (by decide)
                have k195 : tm.getD 195 undef = u195 := hfr 195 (by decide)
                have k196 : tm.getD 196 undef = u196 := hfr 196 (by decide)
                have k197 : tm.getD 197 undef = u197 := hfr 197 (by decide)
                have k198 : tm.getD 198 undef = u198 := hfr 198 (by decide)
                have k199 : tm.getD 199 undef = u199 := hfr 199 (by decide)
                have k200 : tm.getD 200 undef = u200 := hfr 200 (by decide)
                have k201 : tm.getD 201 undef = u201 := hfr 201 (by decide)
                have k202 : tm.getD 202 undef = u202 := hfr 202 (by decide)
                have k203 : tm.getD 203 undef = u203 := hfr 203 (by decide)
                have k204 : tm.getD 204 undef = u204 := hfr 204 (by decide)
                have k205 : tm.getD 205 undef = u205 := hfr 205 (by decide)
                have k206 : tm.getD 206 undef = u206 := hfr 206 (by decide)
                have k207 : tm.getD 207 undef = u207 := hfr 207 (by decide)
                have k208 : tm.getD 208 undef = u208 := hfr 208 (by decide)
                have k209 : tm.getD 209 undef = u209 := hfr 209 (by decide)
                have k210 : tm.getD 210 undef = u210 := hfr 210 (by decide)
                have k211 : tm.getD 211 undef = u211 := hfr 211 (by decide)
                have k212 : tm.getD 212 undef = u212 := hfr 212 (by decide)
                have k213 : tm.getD 213 undef = u213 := hfr 213 (by decide)
                have k214 : tm.getD 214 undef = u214 := hfr 214 (by decide)
                have k215 : tm.getD 215 undef = u215 := hfr 215 (by decide)
                have k216 : tm.getD 216 undef = u216 := hfr 216 (by decide)
                have k217 : tm.getD 217 undef = u217 := hfr 217 (by decide)
                have k218 : tm.getD 218 undef = u218 := hfr 218 (by decide)
                have k219 : tm.getD 219 undef = u219 := hfr 219 (by decide)
                have k220 : tm.getD 220 undef = u220 := hfr 220 (by decide)
                have k221 : tm.getD 221 undef = u221 := hfr 221 (by decide)
                have k222 : tm.getD 222 undef = u222 := hfr 222 (by decide)
                have k223 : tm.getD 223 undef = u223 := hfr 223 (by decide)
                have k224 : tm.getD 224 undef = u224 := hfr 224 (by decide)
                have k225 : tm.getD 225 undef = u225 := hfr 225 (by decide)
                have k226 : tm.getD 226 undef = u226 := hfr 226 (by decide)
                have k227 : tm.getD 227 undef = u227 := hfr 227 (by decide)
                have k228 : tm.getD 228 undef = u228 := hfr 228 (by decide)
                have k229 : tm.getD 229 undef = u229 := hfr 229 (by decide)
                have k230 : tm.getD 230 undef = u230 := hfr 230 (by decide)
                have k231 : tm.getD 231 undef = u231 := hfr 231 (by decide)
                have k232 : tm.getD 232 undef = u232 := hfr 232 (by decide)
                have k233 : tm.getD 233 undef = u233 := hfr 233 (by decide)
                have k234 : tm.getD 234 undef = undef := hfr 234 (by decide)
                have k235 : tm.getD 235 undef = undef := hfr 235 (by decide)
                have k236 : tm.getD 236 undef = undef := hfr 236 (by decide)
                have k237 : tm.getD 237 undef = undef := hfr 237 (by decide)
                have k238 : tm.getD 238 undef = undef := hfr 238 (by decide)
                have k239 : tm.getD 239 undef = undef := hfr 239 (by decide)
                have k240 : tm.getD 240 undef = undef := hfr 240 (by decide)
                have k241 : tm.getD 241 undef = undef := hfr 241 (by decide)
                have k242 : tm.getD 242 undef = undef := hfr 242 (by decide)
                have k243 : tm.getD 243 undef = undef := hfr 243 (by decide)
                have k244 : tm.getD 244 undef = undef := hfr 244 (by decide)
                have k245 : tm.getD 245 undef = undef := hfr 245 (by decide)
                have k246 : tm.getD 246 undef = undef := hfr 246 (by decide)
                have k247 : tm.getD 247 undef = undef := hfr 247 (by decide)
                have k248 : tm.getD 248 undef = undef := hfr 248 (by decide)
                have k97 : tm.getD 97 undef = .bool false := hfr 97 (by decide)
                have k98 : tm.getD 98 undef = .map (some m2) := AllG.get hG 0 (by decide)
                have k100 : tm.getD 100 undef = .int .i64 qa := AllG.get hG 2 (by decide)
                have k105 : tm.getD 105 undef = .slice ta N2 rc1 := AllG.get hG 7 (by decide)
                have he : tm = #[tm.getD 0 undef, tm.getD 1 undef, tm.getD 2 undef, tm.getD 3 undef, tm.getD 4 undef, tm.getD 5 undef, tm.getD 6 undef, tm.getD 7 undef, tm.getD 8 undef, tm.getD 9 undef, tm.getD 10 undef, tm.getD 11 undef, tm.getD 12 undef, tm.getD 13 undef, tm.getD 14 undef, tm.getD 15 undef, tm.getD 16 undef, tm.getD 17 undef, tm.getD 18 undef, tm.getD 19 undef, tm.getD 20 undef, tm.getD 21 undef, tm.getD 22 undef, tm.getD 23 undef, tm.getD 24 undef, tm.getD 25 undef, tm.getD 26 undef, tm.getD 27 undef, tm.getD 28 undef, tm.getD 29 undef, tm.getD 30 undef, tm.getD 31 undef, tm.getD 32 undef, tm.getD 33 undef, tm.getD 34 undef, tm.getD 35 undef, tm.getD 36 undef, tm.getD 37 undef, tm.getD 38 undef, tm.getD 39 undef, tm.getD 40 undef, tm.getD 41 undef, tm.getD 42 undef, tm.getD 43 undef, tm.getD 44 undef, tm.getD 45 undef, tm.getD 46 undef, tm.getD 47 undef, tm.getD 48 undef, tm.getD 49 undef, tm.getD 50 undef, tm.getD 51 undef, tm.getD 52 undef, tm.getD 53 undef, tm.getD 54 undef, tm.getD 55 undef, tm.getD 56 undef, tm.getD 57 undef, tm.getD 58 undef, tm.getD 59 undef, tm.getD 60 undef, tm.getD 61 undef, tm.getD 62 undef, tm.getD 63 undef, tm.getD 64 undef, tm.getD 65 undef, tm.getD 66 undef, tm.getD 67 undef, tm.getD 68 undef, tm.getD 69 undef, tm.getD 70 undef, tm.getD 71 undef, tm.getD 72 undef, tm.getD 73 undef, tm.getD 74 undef, tm.getD 75 undef, tm.getD 76 undef, tm.getD 77 undef, tm.getD 78 undef, tm.getD 79 undef, tm.getD 80 undef, tm.getD 81 undef, tm.getD 82 undef, tm.getD 83 undef, tm.getD 84 undef, tm.getD 85 undef, tm.getD 86 undef, tm.getD 87 undef, tm.getD 88 undef, tm.getD 89 undef, tm.getD 90 undef, tm.getD 91 undef, tm.getD 92 undef, tm.getD 93 undef, tm.getD 94 undef, tm.getD 95 undef, tm.getD 96 undef, tm.getD 97 undef, tm.getD 98 undef, tm.getD 99 undef, tm.getD 100 undef, tm.getD 101 undef, tm.getD 102 undef, tm.getD 103 undef, tm.getD 104 undef, tm.getD 105 undef, tm.getD 106 undef, tm.getD 107 undef, tm.getD 108 undef, tm.getD 109 undef, tm.getD 110 undef, tm.getD 111 undef, tm.getD 112 undef, tm.getD 113 undef, tm.getD 114 undef, tm.getD 115 undef, tm.getD 116 undef, tm.getD 117 undef, tm.getD 118 undef, tm.getD 119 undef, tm.getD 120 undef, tm.getD 121 undef, tm.getD 122 undef, tm.getD 123 undef, tm.getD 124 undef, tm.getD 125 undef, tm.getD 126 undef, tm.getD 127 undef, tm.getD 128 undef, tm.getD 129 undef, tm.getD 130 undef, tm.getD 131 undef, tm.getD 132 undef, tm.getD 133 undef, tm.getD 134 undef, tm.getD 135 undef, tm.getD 136 undef, tm.getD 137 undef, tm.getD 138 undef, tm.getD 139 undef, tm.getD 140 undef, tm.getD 141 undef, tm.getD 142 undef, tm.getD 143 undef, tm.getD 144 undef, tm.getD 145 undef, tm.getD 146 undef, tm.getD 147 undef, tm.getD 148 undef, tm.getD 149 undef, tm.getD 150 undef, tm.getD 151 undef, tm.getD 152 undef, tm.getD 153 undef, tm.getD 154 undef, tm.getD 155 undef, tm.getD 156 undef, tm.getD 157 undef, tm.getD 158 undef, tm.getD 159 undef, tm.getD 160 undef, tm.getD 161 undef, tm.getD 162 undef, tm.getD 163 undef, tm.getD 164 undef, tm.getD 165 undef, tm.getD 166 undef, tm.getD 167 undef, tm.getD 168 undef, tm.getD 169 undef, tm.getD 170 undef, tm.getD 171 undef, tm.getD 172 undef, tm.getD 173 undef, tm.getD 174 undef, tm.getD 175 undef, tm.getD 176 undef, tm.getD 177 undef, tm.getD 178 undef, tm.getD 179 undef, tm.getD 180 undef, tm.getD 181 undef, tm.getD 182 undef, tm.getD 183 undef, tm.getD 184 undef, tm.getD 185 undef, tm.getD 186 undef, tm.getD 187 undef, tm.getD 188 undef, tm.getD 189 undef, tm.getD 190 undef, tm.getD 191 undef, tm.getD 192 undef, tm.getD 193 undef, tm.getD 194 undef, tm.getD 195 undef, tm.getD 196 undef, tm.getD 197 undef, tm.getD 198 undef, tm.getD 199 undef, tm.getD 200 undef, tm.getD 201 undef, tm.getD 202 undef, tm.getD 203 undef, tm.getD 204 undef, tm.getD 205 undef, tm.getD 206 undef, tm.getD 207 undef, tm.getD 208 undef, tm.getD 209 undef, tm.getD 210 undef, tm.getD 211 undef, tm.getD 212 undef, tm.getD 213 undef, tm.getD 214 undef, tm.getD 215 undef, tm.getD 216 undef, tm.getD 217 undef, tm.getD 218 undef, tm.getD 219 undef, tm.getD 220 undef, tm.getD 221 undef, tm.getD 222 undef, tm.getD 223 undef, tm.getD 224 undef, tm.getD 225 undef, tm.getD 226 undef, tm.getD 227 undef, tm.getD 228 undef, tm.getD 229 undef, tm.getD 230 undef, tm.getD 231 undef, tm.getD 232 undef, tm.getD 233 undef, tm.getD 234 undef, tm.getD 235 undef, tm.getD 236 undef, tm.getD 237 undef, tm.getD 238 undef, tm.getD 239 undef, tm.getD 240 undef, tm.getD 241 undef, tm.getD 242 undef, tm.getD 243 undef, tm.getD 244 undef, tm.getD 245 undef, tm.getD 246 undef, tm.getD 247 undef, tm.getD 248 undef] := arr_eta (n := 249) hsz
                replace hdf : df = [] := hdf
                subst hdf
                clear hsz hfr hG
                rw [he, k0, k1, k2, k3, k4, k5, k6, k7, k8, k9, k10, k11, k12, k13, k14, k15, k16, k17, k18, k19, k20, k21, k22, k23, k24, k25, k26, k27, k28, k29, k30, k31, k32, k33, k34, k35, k36, k37, k38, k39, k40, k41, k42, k43, k44, k45, k46, k47, k48, k49, k50, k51, k52, k53, k54, k55, k56, k57, k58, k59, k60, k61, k62, k63, k64, k65, k66, k67, k68, k69, k70, k71, k72, k73, k74, k75, k76, k77, k78, k79, k80, k106, k107, k108, k109, k110, k111, k112, k113, k114, k115, k116, k117, k118, k119, k120, k121, k122, k123, k124, k125, k126, k127, k128, k129, k130, k131, k132, k133, k134, k135, k136, k137, k138, k139, k140, k141, k142, k143, k144, k145, k146, k147, k148, k149, k150, k151, k152, k153, k154, k155, k156, k157, k158, k159, k160, k161, k162, k163, k164, k165, k166, k167, k168, k169, k170, k171, k172, k173, k174, k175, k176, k177, k178, k179, k180, k181, k182, k183, k184, k185, k186, k187, k188, k189, k190, k191, k192, k193, k194, k195, k196, k197, k198, k199, k200, k201, k202, k203, k204, k205, k206, k207, k208, k209, k210, k211, k212, k213, k214, k215, k216, k217, k218, k219, k220, k221, k222, k223, k224, k225, k226, k227, k228, k229, k230, k231, k232, k233, k234, k235, k236, k237, k238, k239, k240, k241, k242, k243, k244, k245, k246, k247, k248, k97, k98, k100, k105]
                clear he k0 k1 k2 k3 k4 k5 k6 k7 k8 k9 k10 k11 k12 k13 k14 k15 k16 k17 k18 k19 k20 k21 k22 k23 k24 k25 k26 k27 k28 k29 k30 k31 k32 k33 k34 k35 k36 k37 k38 k39 k40 k41 k42 k43 k44 k45 k46 k47 k48 k49 k50 k51 k52 k53 k54 k55 k56 k57 k58 k59 k60 k61 k62 k63 k64 k65 k66 k67 k68 k69 k70 k71 k72 k73 k74 k75 k76 k77 k78 k79 k80 k106 k107 k108 k109 k110 k111 k112 k113 k114 k115 k116 k117 k118 k119 k120 k121 k122 k123 k124 k125 k126 k127 k128 k129 k130 k131 k132 k133 k134 k135 k136 k137 k138 k139 k140 k141 k142 k143 k144 k145 k146 k147 k148 k149 k150 k151 k152 k153 k154 k155 k156 k157 k158 k159 k160 k161 k162 k163 k164 k165 k166 k167 k168 k169 k170 k171 k172 k173 k174 k175 k176 k177 k178 k179 k180 k181 k182 k183 k184 k185 k186 k187 k188 k189 k190 k191 k192 k193 k194 k195 k196 k197 k198 k199 k200 k201 k202 k203 k204 k205 k206 k207 k208 k209 k210 k211 k212 k213 k214 k215 k216 k217 k218 k219 k220 k221 k222 k223 k224 k225 k226 k227 k228 k229 k230 k231 k232 k233 k234 k235 k236 k237 k238 k239 k240 k241 k242 k243 k244 k245 k246 k247 k248 k97 k98 k100 k105
                generalize tm.getD 81 undef = x81
                generalize tm.getD 82 undef = x82
                generalize tm.getD 83 undef = x83
                generalize tm.getD 84 undef = x84
                generalize tm.getD 85 undef = x85
                generalize tm.getD 86 undef = x86
                generalize tm.getD 87 undef = x87
                generalize tm.getD 88 undef = x88
                generalize tm.getD 89 undef = x89
                generalize tm.getD 90 undef = x90
                generalize tm.getD 91 undef = x91
                generalize tm.getD 92 undef = x92
                generalize tm.getD 93 undef = x93
                generalize tm.getD 94 undef = x94
                generalize tm.getD 95 undef = x95
                generalize tm.getD 96 undef = x96
                generalize tm.getD 99 undef = x99
                generalize tm.getD 101 undef = x101
                generalize tm.getD 102 undef = x102
                generalize tm.getD 103 undef = x103
                generalize tm.getD 104 undef = x104
                simp only [List.drop_succ_cons, List.drop_zero]
                clear hB2 hM2 hC2 hO2
                have hm3w := hM3
                have HK1 := Lib.hid hO3
                clear hM3 hO3 hB3 hC3
                go_wp2_with (at_mapUpdate; refine wpList_put_I _ rfl _ _ _ 45 rfl 3 52 und_mapis und_int m2 _ rfl hm3w _ (.slice ta N2 rc1) rfl rfl ?_; intro w6 hm6 hk6 hz6)
                have hl3 := HLJ.out.keep HK1.out
                have hl6 : LInv w6 B m1 m2 T (putI Wj qa (.slice ta N2 rc1)) (fun a => lostAt (lost.drop (j + 1)) a ++ LA s'.A a) :=
                  hl3.row (Nat.le_trans HBZ.out (Nat.le_trans HOJ.out.size HK1.out.size)) qa (.slice ta N2 rc1) (Only.refl _ _) (by
                    show IRow w3x _ (lostAt (lost.drop (j + 1)) qa ++ LA s'.A qa)
                    rw [HLR.out]; exact HRT.out.only HK1.out (fun _ _ h => h)) (fun b hb => by
                    have := HL1.out b
                    rw [if_neg hb] at this
                    exact this.symm) (fun b hb => .inl (HTB.out b hb)) hk6 hm6
                go_roundw
                case rel => exact ⟨j + 1, _, by go_num, by omega, hl6, (HOJ.out.then HK1.out (fun _ _ h => h.elim)).trans hk6⟩
                case measure => simp [intOf]; omega
              · obtain rfl : j = N := by omega
                have hlE : LInv wr B m1 m2 T Wj (LA s'.A) := by
                  have h1 := HLJ.out
                  have e : (fun a => lostAt (lost.drop j) a ++ LA s'.A a) = LA s'.A := by
                    funext a
                    rw [← HLN.out, List.drop_length]
                    rfl
                  rw [e] at h1
                  exact h1
                have hnE : NAt wr g c d s' := HNZ.out.beside HS2.out.mine (B := B) (fun b hb => HOW.out b (by rw [← HNW'.out.2]; exact hb)) HOJ.out (fun b hb => by rw [hb]; exact .inl ⟨_, HLZ.out.waits, fun e => HC.out.1.2.2.1 e.symm, fun e => HC.out.1.2.2.2 e.symm⟩)
                have hoE := HOZ.out.then HOJ.out (fun b hb e => by have := HC.out.2.2.2.1; omega)
                have HE := Lib.hid (show _ ∧ _ ∧ _ ∧ B ≤ _ from ⟨hnE, hlE, hoE, Nat.le_trans HBZ.out HOJ.out.size⟩)
                have hS3 := HS2.out
                have HS3 := Lib.hid hS3
                clear hlE hnE hoE hS3
                go_wp2_with fail
                obtain ⟨hnE, hlE, hoE, hbE⟩ := HE.out
                go_roundw
                case rel => exact ⟨k + 1, nw2, many, gone + (j : Int), s', T, Wj, rfl, rfl, by go_num, by go_num, by omega, by omega, ⟨HNW'.out.1, hnE, HS3.out, hlE, fun b hb => HFO.out b (HTK.out.foot b hb), fun b hb => HOW.out b (by rw [← HNW'.out.2]; exact hb), hoE, hbE⟩⟩
                case measure => simp [intOf]; omega
    · have hkend : ¬ (k < n ∧ k < 60) := hin
      as_aux_lemma =>
        have hcase : (¬ k < n) ∨ (k < n ∧ ¬ k < 60) := by omega
        have hI := HI.out
        have hm0 := hI.law.waits
        have HI2 := Lib.hid hI
        have hgo : gone ≤ 60 ∧ 0 ≤ gone ∧ many ≤ 60 ∧ 0 ≤ many := by have := hI.state.cnt; have := hI.state.many1; have := hI.state.gone0; omega
        obtain ⟨hgo1, hgo0, hgm1, hgm0⟩ := hgo
        clear hkend hI
        rcases hcase with h1 | ⟨h1, h2⟩
        case' inl =>
          go_wp2_with fail
        case' inr =>
          go_wp2_with fail
        all_goals
          go_loopw [29, 30] (fun lv tv wq => ∃ (t : Nat) (lf : Int), lv = .int .i64 lf ∧ tv = .int .i64 (11 + t) ∧ t ≤ 4 ∧ lf = sumL s.A t ∧ wq = wr) (fun _ tv _ => 15 - (intOf tv).toNat)
          case atStart => exact ⟨0, 0, rfl, rfl, by omega, rfl, rfl⟩
          case round =>
            obtain ⟨t, lf, rfl, rfl, ht, hlf, rfl⟩ := hrel
            have hle := sumL_le s.A t
            have hs4 := sumL_four (A := s.A) HI2.out.cache.keysA (fun p hp => by obtain ⟨e1, e2, _⟩ := HI2.out.state.ask p hp; exact ⟨e1, e2⟩)
            have hfw := HI2.out.state.few
            have hcnt := HI2.out.state.cnt
            have hw4 : (sumL s.A 4) = (s.waiting : Int) := hs4
            by_cases ht4 : t < 4
            · obtain ⟨ra, rcap, hrv⟩ := (HI2.out.law.rows (11 + (t : Int))).len
              have hstep : sumL s.A (t + 1) = lf + ((LA s.A (11 + (t : Int))).length : Int) := by rw [hlf]; rfl
              have hmono := sumL_mono s.A (show t + 1 ≤ 4 by omega)
              generalize hNN : (LA s.A (11 + (t : Int))).length = NN at *
              have hb : 0 ≤ lf ∧ lf + (NN : Int) ≤ 30 := by omega
              obtain ⟨hb0, hb1⟩ := hb
              have HST := Lib.hid hstep
              clear hstep hmono hlf hs4 hfw hcnt hw4 hle hNN
              go_wp2_with (at_lookup; refine wpList_look_I _ rfl _ _ 45 false rfl 3 52 und_mapis und_int _ (zero_ints _) m2 _ rfl hm0 _ rfl ?_; rw [show (getI Wl (11 + (t : Int))).getD (.slice none 0 0) = .slice ra NN rcap from hrv]; simp only [Bool.false_eq_true, if_false])
              go_roundw
              case rel => exact ⟨t + 1, lf + (NN : Int), by go_num, by push_cast; go_num, by omega, HST.out.symm, by first | rfl | trivial⟩
              case measure => simp [intOf]; omega
            · obtain rfl : t = 4 := by omega
              have hfin : (many == gone + lf) = true := by
                have : many = gone + lf := by omega
                simpa using this
              have hlb : 0 ≤ lf ∧ lf ≤ 30 := by omega
              obtain ⟨hlb0, hlb1⟩ := hlb
              clear hlf hs4 hfw hcnt hw4 hle
              go_wp2_with fail
              go_ret
              exact ⟨rfl, HI2.out.only.below (Nat.le_refl _) (fun _ _ h => h)⟩

end Go.Proofs.Ythgkdfllddljcaa

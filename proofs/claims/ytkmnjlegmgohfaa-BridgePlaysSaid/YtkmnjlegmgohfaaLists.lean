/-
  Lists of ints as slices that are read; SameInts.
  Conditions: lists of at most 2^40 numbers.
-/
import Derived.Test.YtkmnjlegmgohfaaProg
import Derived.Test.YtkmnjlegmgohfaaBase
import Derived.Laws.AppendOwn
import Derived.StillTailTactics
set_option linter.unusedVariables false
set_option linter.unusedSimpArgs false
namespace Go.Proofs.Ytkmnjlegmgohfaa
open Go.RowKit

/-- A slice reads as this list. -/
structure ListAt (w : World) (a : Option Addr) (cap : Nat) (l : List Int) : Prop where
  le : l.length ≤ cap
  small : l.length ≤ 1099511627776
  at_ : ∀ i, i < l.length → ∃ ad : Addr, a = some ad ∧ ad.spot = none ∧ w.cell? ⟨ad.block, ad.off + i, none⟩ = some (.int .i64 (l.getD i 0))

theorem ListAt.only {w w' : World} {a : Option Addr} {cap : Nat} {l : List Int} {S : Nat → Prop} (h : ListAt w a cap l) (hk : Only S w w') (hn : ∀ ad : Addr, a = some ad → ¬ S ad.block) : ListAt w' a cap l :=
  ⟨h.le, h.small, fun i hi => by obtain ⟨ad, e, hs, hc⟩ := h.at_ i hi; exact ⟨ad, e, hs, cell_only hk (hn ad e) hc⟩⟩

theorem ListAt.nil (w : World) : ListAt w none 0 [] := ⟨Nat.le_refl _, by decide, fun i hi => by simp at hi⟩

theorem ListAt.block {w : World} {g cap : Nat} {cur : Array Value} {l : List Int} (hg : w.heap[g]? = some (.cells cur 3 (0, 0))) (hc : l.length ≤ cap) (hs : l.length ≤ 1099511627776) (ht : cur.toList.take l.length = l.map (Value.int .i64)) : ListAt w (some ⟨g, 0, none⟩) cap l := by
  refine ⟨hc, hs, fun i hi => ⟨⟨g, 0, none⟩, rfl, rfl, ?_⟩⟩
  refine (blk_cell hg (0 + i)).trans ?_
  have h1 : cur[i]? = (cur.toList.take l.length)[i]? := by rw [List.getElem?_take, if_pos hi, Array.getElem?_toList]
  rw [Nat.zero_add, h1, ht, List.getElem?_map, List.getElem?_eq_getElem hi]
  simp [List.getD, hi]

theorem eq_getD {l m : List Int} (h : l.length = m.length) (hi : ∀ i, i < l.length → l.getD i 0 = m.getD i 0) : l = m := by
  apply List.ext_getElem h
  intro i h1 h2
  have := hi i h1
  simpa [List.getD, h1, h2] using this

set_option maxHeartbeats 1000000 in
theorem same_ints (w : World) (a b : Option Addr) (cap cap' : Nat) (l m : List Int) (h : ListAt w a cap l) (h' : ListAt w b cap' m) :
    Calls Try.prog 13 #[.slice a l.length cap, .slice b m.length cap'] w fun e w' => e = .returned (.bool (l == m)) ∧ Only (fun _ => False) w w' := by
  have hs1 := h.small
  have hs2 := h'.small
  have HA := Lib.hid h
  have HB := Lib.hid h'
  clear h h'
  by_cases hlen : l.length = m.length
  · have hbl : ((l.length : Int) != (m.length : Int)) = false := by rw [hlen]; simp
    have HL := Lib.hid hlen
    clear hlen
    go_enter Try.func13, Try.ntmps13
    go_wp2_with fail
    go_loopw [5] (fun i wr => ∃ k : Nat, i = .int .i64 k ∧ k ≤ l.length ∧ (∀ i, i < k → l.getD i 0 = m.getD i 0) ∧ ListAt wr a cap l ∧ ListAt wr b cap' m ∧ Only (fun _ => False) w wr) (fun i _ => l.length - (intOf i).toNat)
    case atStart => exact ⟨0, rfl, by omega, by intro i hi; omega, HA.out, HB.out, Only.refl _ _⟩
    case round =>
      clear HA HB
      obtain ⟨k, rfl, hk, heq, hia, hib, hO⟩ := hrel
      have HA := Lib.hid hia
      have HB := Lib.hid hib
      have HE := Lib.hid heq
      clear heq
      by_cases hlt : k < l.length
      · obtain ⟨⟨p, off, sp⟩, rfl, hsp, hc⟩ := hia.at_ k hlt
        obtain ⟨⟨q, off', sp'⟩, rfl, hsq, hd⟩ := hib.at_ k (by have := HL.out; omega)
        simp only at hsp hsq hc hd
        subst hsp hsq
        have hlm : k < m.length := by have := HL.out; omega
        clear hia hib
        generalize hX : l.getD k 0 = x at hc
        generalize hY : m.getD k 0 = y at hd
        have X := Lib.hid hX
        have Y := Lib.hid hY
        clear hX hY
        cases hx : (x != y) with
        | false =>
          go_wp2_with fail
          go_quiet (fail)
          go_wp2_with fail
          go_roundw
          case rel =>
            refine ⟨k + 1, by go_num, by omega, fun i hi => ?_, HA.out.only ((Only.refl (fun _ => False) wr).drewN _) (fun _ _ h => h), HB.out.only ((Only.refl (fun _ => False) wr).drewN _) (fun _ _ h => h), hO.drewN _⟩
            rcases Nat.lt_succ_iff_lt_or_eq.1 hi with h1 | h1
            · exact HE.out i h1
            · subst h1; rw [X.out, Y.out]; simpa using hx
          case measure => simp [intOf]; omega
        | true =>
          go_wp2_with fail
          go_quiet (fail)
          go_wp2_with fail
          go_ret
          refine ⟨?_, hO.drewN _⟩
          have : (l == m) = false := by
            cases hb : (l == m) with
            | false => rfl
            | true =>
              have e : l = m := by simpa using hb
              have hxy : x = y := by rw [← X.out, ← Y.out, e]
              rw [hxy] at hx
              simp at hx
          rw [this]
          rfl
      · obtain rfl : k = l.length := by omega
        clear hia hib
        go_wp2_with fail
        go_ret
        refine ⟨?_, hO⟩
        have : l = m := eq_getD HL.out HE.out
        rw [this]; simp
  · have hbl : ((l.length : Int) != (m.length : Int)) = true := by simp; omega
    have hlm : (l == m) = false := by
      cases hb : (l == m) with
      | false => rfl
      | true => exact absurd (by rw [show l = m by simpa using hb]) hlen
    rw [hlm]
    clear hlen hlm
    go_enter Try.func13, Try.ntmps13
    go_wp2_with fail
    go_ret
    exact ⟨rfl, Only.refl _ _⟩

end Go.Proofs.Ytkmnjlegmgohfaa

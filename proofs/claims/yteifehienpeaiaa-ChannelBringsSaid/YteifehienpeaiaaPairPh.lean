/-
  The phases of the regions over a pair.
  No conditions.
-/
import Derived.Test.YteifehienpeaiaaPairLaw
namespace Go.Proofs.Yteifehienpeaiaa
open Go.RowKit
def p1Ph (W1 : World) (b : Bool) (w : World) : Prop := b = false → Only (fun _ => False) W1 w
def p1St (c : Nat) (i : Nat) (_ : Nat) : Prop := i = c
def p2Ph (W1 : World) (p : Nat) (cs : Array Value) (a b : Bool) (w : World) : Prop := (a = false → Only (fun _ => False) W1 w) ∧ (b = false → w.heap[p]? = some (.cells cs 55 (0, 0))) ∧ W1.heap.size ≤ w.heap.size
def p2St (c a : Nat) (v : Value) (i z : Nat) : Prop := i = c ∨ (i = a ∧ some z = v.ownBlock)
def p3Ph (W1 : World) (_ _ : Bool) (w : World) : Prop := Only (fun _ => False) W1 w
def p3St (a1 a2 B : Nat) (w : World) (i z : Nat) : Prop := (i = a1 ∧ w.heap[z]? = some (.cells #[] 9 (0, 0))) ∨ (i = a2 ∧ B ≤ z)
theorem foot_do {w : World} {g mo me : Nat} {s : CS} (h : EndAt w g mo me s) {b : Nat} {cur : Array Value} (hb : w.heap[b]? = some (.cells cur 50 (0, 0))) : ¬ Foot g mo me s.O b := by
  rintro (rfl | rfl | rfl | ⟨x, hx, rfl⟩)
  · have hc := h.cell
    rw [hb] at hc
    injection hc with hc
    injection hc with _ hc
    revert hc
    decide
  · exact map_cells h.omap hb rfl
  · exact map_cells h.emap hb rfl
  · have hc := h.sent x hx
    rw [hb] at hc
    injection hc with hc
    injection hc with _ hc
    revert hc
    decide
/-- A row made longer, stored. -/
theorem PAt.app {W W1 w : World} {i p B : Nat} {g mo me : Nat → Nat} {rv : Nat → Value} {S0 S : PS} {v : Value} {M : List ByteArray} (h0 : PAt W W1 6 p g mo me rv S0) (hB : W1.heap.size = B) (hx : PAt W w i p g mo me rv S) (hi : i < 6) (hrow : w.ownsRow W.heap.size 9 1 v M.length (M.map Value.string)) (hob : ∀ b, v.ownBlock = some b → (rv i).ownBlock = some b ∨ B ≤ b) :
    PAt W (w.setCell ⟨p, 2 + i, none⟩ v) 6 p g mo me (put rv i v) { S with L := put S.L i M } :=
  hx.store hi hrow (fun j hj hji b hb e => by
    rcases hob b hb with h1 | h1
    · exact h0.sep i j hi hj (fun e => hji e.symm) (by omega) (by omega) b h1 e
    · have := ((h0.rows j hj (by omega)).lt b e).2
      omega)
/-- A fresh row, stored. -/
theorem PAt.fresh {W W1 w : World} {i p B : Nat} {g mo me : Nat → Nat} {rv : Nat → Value} {S0 S : PS} {v : Value} {M : List ByteArray} (h0 : PAt W W1 6 p g mo me rv S0) (hB : W1.heap.size = B) (hx : PAt W w i p g mo me rv S) (hi : i < 6) (hrow : w.ownsRow B 9 1 v M.length (M.map Value.string)) (hob : ∀ b, v.ownBlock = some b → B ≤ b) :
    PAt W (w.setCell ⟨p, 2 + i, none⟩ v) 6 p g mo me (put rv i v) { S with L := put S.L i M } :=
  h0.app hB hx hi (World.ownsRow.mono hrow (by have := h0.only.size; omega)) (fun b hb => .inr (hob b hb))
theorem xor_one8 : ∀ c : Nat, c < 256 → bits .xor .u8 (c : Int) 1 ≠ (c : Int) ∧ 0 ≤ bits .xor .u8 (c : Int) 1 ∧ bits .xor .u8 (c : Int) 1 ≤ 255 := by decide +kernel
/-- The last byte of a letter, turned. -/
theorem last_turned {S : ByteArray} {n : Nat} (hn : S.size = n + 1) (hS : DecOk S) (b : UInt8) (hb : S[n]'(by omega) = b) : ¬ DecOk (S.extract 0 n ++ strOfNums [bits .xor .u8 (b.toNat : Int) 1]) ∧ (S.extract 0 n ++ strOfNums [bits .xor .u8 (b.toNat : Int) 1]).size = n + 1 := by
  obtain ⟨h1, h2, h3⟩ := xor_one8 b.toNat (UInt8.toNat_lt b)
  have hlS : (nums S).length = n + 1 := by rw [nums_length, hn]
  have e1 : nums S = (nums S).take n ++ [(b.toNat : Int)] := by
    have : (nums S)[n]'(by omega) = (b.toNat : Int) := by rw [← hb]; simp [nums]; rfl
    rw [← this]
    conv => lhs; rw [← List.take_append_drop n (nums S)]
    congr 1
    rw [List.drop_eq_getElem_cons (by omega), List.drop_eq_nil_of_le (by omega)]
  have e2 : nums (S.extract 0 n ++ strOfNums [bits .xor .u8 (b.toNat : Int) 1]) = (nums S).take n ++ [bits .xor .u8 (b.toNat : Int) 1] := by
    rw [nums_append, nums_strOf _ (by intro c hc; simp only [List.mem_singleton] at hc; subst hc; exact ⟨h2, h3⟩), nums_extract]
    simp
  refine ⟨turned_none hS e1 e2 (fun e => h1 e.symm), ?_⟩
  rw [← nums_length, e2, List.length_append, List.length_take]
  simp only [List.length_cons, List.length_nil]
  omega
end Go.Proofs.Yteifehienpeaiaa

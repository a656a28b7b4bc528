/-
  An act of the law ChannelBrings.
  Conditions: fewer than a hundred acts, texts of at most 500 bytes.
-/
import Derived.Test.YteifehienpeaiaaDoes0
import Derived.Test.YteifehienpeaiaaDoes1
import Derived.Test.YteifehienpeaiaaDoesT
import Derived.Test.YteifehienpeaiaaDoesW0
import Derived.Test.YteifehienpeaiaaDoesW1
namespace Go.Proofs.Yteifehienpeaiaa
open Go.RowKit

theorem does_any (W w0 : World) (p : Nat) (g mo me : Nat → Nat) (rv : Nat → Value) (S : PS) (a : Nat) (R kd nn : Int) (tx : ByteArray) (sec : Bool) (wk : (Lit.int .i64 kd).wf = true) (wn : (Lit.int .i64 nn).wf = true) (htx : tx.size ≤ 500) (h : PAt W w0 6 p g mo me rv S) (hv : DInv R S a) (ha : a < 100) :
    Calls Try.prog 24 #[.pointer (some ⟨p, 0, none⟩), .agg #[.int .i64 kd, .int .i64 nn, .string tx, .bool sec]] w0 fun e w' => ∃ rv' S', e = .returned (.bool true) ∧ PAt W w' 6 p g mo me rv' S' ∧ DInv R S' (a + 1) := by
  have hm : kd % 6 = 0 ∨ kd % 6 = 1 ∨ 2 ≤ kd % 6 := by omega
  cases sec with
  | false =>
    rcases hm with hm | hm | hm
    · exact does0_send W w0 p g mo me rv S a R kd nn tx wk wn htx h hv ha hm
    · exact does_tick false (.inr rfl) W w0 p g mo me rv S a R kd nn tx wk wn htx h hv ha hm
    · exact does0_way W w0 p g mo me rv S a R kd nn tx wk wn htx h hv ha hm
  | true =>
    rcases hm with hm | hm | hm
    · exact does1_send W w0 p g mo me rv S a R kd nn tx wk wn htx h hv ha hm
    · exact does_tick true (.inl rfl) W w0 p g mo me rv S a R kd nn tx wk wn htx h hv ha hm
    · exact does1_way W w0 p g mo me rv S a R kd nn tx wk wn htx h hv ha hm

end Go.Proofs.Yteifehienpeaiaa

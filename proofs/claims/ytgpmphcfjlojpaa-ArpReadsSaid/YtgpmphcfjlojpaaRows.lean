/-
  No cell of these rows narrows 'for every input' (looked for: loops, veiled, ifaces, maps, wideKeys, modest, calm, conditions, laid).
  DERIVED. THE GIVEN ROWS OF THIS SEAT. 6 by the template 'for every input the law returns true; each argument reads behind the call as it read before'; 0 by the template 'total and deterministic' (their statements: YtgpmphcfjlojpaaTotals.lean).
  GIVEN WITH THE SEED: the statements are not yours to turn. If you find one false, say at which input.
  Laid BY PROGRAM, IN A SANDBOX (cutbox-rows.mjs): the forced cells as the released guide's own fill.sh prints them over the translation 21cbfd753f5f46ba… (all of the seat's roots in one cut). By AI agents, Wed Nov 11 2026. No macro, syntax, notation, axiom, sorry.
-/
import Derived.Test.YtgpmphcfjlojpaaChecked
import GoSem.Claim
import GoSem.ClaimJoined
import GoSem.ClaimMapViews
import Derived.JoinedTies
import Derived.KernelRfl
namespace Go.Proofs.Ytgpmphcfjlojpaa
/- THE CELL 'sum', in the pinned program and in every row, IS THE sha256 OF THE DUMP (.gsa) THAT YtgpmphcfjlojpaaProg.lean LOADS. Nothing in Lean hashes anything: it is a label: what it is worth is what the hold of that sum in a sandbox is worth. -/
noncomputable def Try.pinned : Pinned := { name := "ytgpmphcfjlojpaa", sum := "21cbfd753f5f46bab4368415d2d80f760b1bef9faa95440353d306b2952a05d6", checked := Try.checked }
namespace Rows
def none {H : Type} : Left H := { results := [], args := [] }

/-- 'sternpostlaw04.ArpMakes': WHATEVER THE INPUT: true; the input reads as it did. -/
def arpMakesSpec : ChangeSpec := { name := "arpMakes", fn := fun _ => fun
  | [d1, d2, d3] => { results := [.lit (.bool true)], args := [d1, d2, d3] }
  | _ => none }
def arpMakesRow : OpenClaim := { program := "ytgpmphcfjlojpaa", sum := "21cbfd753f5f46bab4368415d2d80f760b1bef9faa95440353d306b2952a05d6", func := "sternpost/sternpostlaw04.ArpMakes", spec := "arpMakes", apart := false }
def ArpMakesSaid : Prop := arpMakesRow.holds Try.pinned (OpenSpec.ofChange arpMakesSpec)

/-- ITS FALSE NEIGHBOUR: 'it returns false'. Refute it at one input. -/
def arpMakesWrong : ChangeSpec := { name := "arpMakes", fn := fun _ => fun
  | [d1, d2, d3] => { results := [.lit (.bool false)], args := [d1, d2, d3] }
  | _ => none }
def ArpMakesWrongFalsely : Prop := arpMakesRow.holds Try.pinned (OpenSpec.ofChange arpMakesWrong)

/-- 'sternpostlaw04.ArpAnswers': WHATEVER THE INPUT: true; the input reads as it did. -/
def arpAnswersSpec : ChangeSpec := { name := "arpAnswers", fn := fun _ => fun
  | [d1, d2] => { results := [.lit (.bool true)], args := [d1, d2] }
  | _ => none }
def arpAnswersRow : OpenClaim := { program := "ytgpmphcfjlojpaa", sum := "21cbfd753f5f46bab4368415d2d80f760b1bef9faa95440353d306b2952a05d6", func := "sternpost/sternpostlaw04.ArpAnswers", spec := "arpAnswers", apart := false }
def ArpAnswersSaid : Prop := arpAnswersRow.holds Try.pinned (OpenSpec.ofChange arpAnswersSpec)

/-- ITS FALSE NEIGHBOUR: 'it returns false'. Refute it at one input. -/
def arpAnswersWrong : ChangeSpec := { name := "arpAnswers", fn := fun _ => fun
  | [d1, d2] => { results := [.lit (.bool false)], args := [d1, d2] }
  | _ => none }
def ArpAnswersWrongFalsely : Prop := arpAnswersRow.holds Try.pinned (OpenSpec.ofChange arpAnswersWrong)

/-- 'sternpostlaw04.ArpClaimed': WHATEVER THE INPUT: true; the input reads as it did. -/
def arpClaimedSpec : ChangeSpec := { name := "arpClaimed", fn := fun _ => fun
  | [d1, d2, d3] => { results := [.lit (.bool true)], args := [d1, d2, d3] }
  | _ => none }
def arpClaimedRow : OpenClaim := { program := "ytgpmphcfjlojpaa", sum := "21cbfd753f5f46bab4368415d2d80f760b1bef9faa95440353d306b2952a05d6", func := "sternpost/sternpostlaw04.ArpClaimed", spec := "arpClaimed", apart := false }
def ArpClaimedSaid : Prop := arpClaimedRow.holds Try.pinned (OpenSpec.ofChange arpClaimedSpec)

/-- ITS FALSE NEIGHBOUR: 'it returns false'. Refute it at one input. -/
def arpClaimedWrong : ChangeSpec := { name := "arpClaimed", fn := fun _ => fun
  | [d1, d2, d3] => { results := [.lit (.bool false)], args := [d1, d2, d3] }
  | _ => none }
def ArpClaimedWrongFalsely : Prop := arpClaimedRow.holds Try.pinned (OpenSpec.ofChange arpClaimedWrong)

/-- 'sternpostlaw04.ArpWrites': WHATEVER THE INPUT: true; the input reads as it did. -/
def arpWritesSpec : ChangeSpec := { name := "arpWrites", fn := fun _ => fun
  | [d] => { results := [.lit (.bool true)], args := [d] }
  | _ => none }
def arpWritesRow : OpenClaim := { program := "ytgpmphcfjlojpaa", sum := "21cbfd753f5f46bab4368415d2d80f760b1bef9faa95440353d306b2952a05d6", func := "sternpost/sternpostlaw04.ArpWrites", spec := "arpWrites", apart := false }
def ArpWritesSaid : Prop := arpWritesRow.holds Try.pinned (OpenSpec.ofChange arpWritesSpec)

/-- ITS FALSE NEIGHBOUR: 'it returns false'. Refute it at one input. -/
def arpWritesWrong : ChangeSpec := { name := "arpWrites", fn := fun _ => fun
  | [d] => { results := [.lit (.bool false)], args := [d] }
  | _ => none }
def ArpWritesWrongFalsely : Prop := arpWritesRow.holds Try.pinned (OpenSpec.ofChange arpWritesWrong)

/-- 'sternpostlaw04.ArpReads': WHATEVER THE INPUT: true; the input reads as it did. -/
def arpReadsSpec : ChangeSpec := { name := "arpReads", fn := fun _ => fun
  | [d] => { results := [.lit (.bool true)], args := [d] }
  | _ => none }
def arpReadsRow : OpenClaim := { program := "ytgpmphcfjlojpaa", sum := "21cbfd753f5f46bab4368415d2d80f760b1bef9faa95440353d306b2952a05d6", func := "sternpost/sternpostlaw04.ArpReads", spec := "arpReads", apart := false }
def ArpReadsSaid : Prop := arpReadsRow.holds Try.pinned (OpenSpec.ofChange arpReadsSpec)

/-- ITS FALSE NEIGHBOUR: 'it returns false'. Refute it at one input. -/
def arpReadsWrong : ChangeSpec := { name := "arpReads", fn := fun _ => fun
  | [d] => { results := [.lit (.bool false)], args := [d] }
  | _ => none }
def ArpReadsWrongFalsely : Prop := arpReadsRow.holds Try.pinned (OpenSpec.ofChange arpReadsWrong)

/-- 'sternpostlaw04.ArpBack': WHATEVER THE INPUT: true; the input reads as it did. -/
def arpBackSpec : ChangeSpec := { name := "arpBack", fn := fun _ => fun
  | [d1, d2, d3] => { results := [.lit (.bool true)], args := [d1, d2, d3] }
  | _ => none }
def arpBackRow : OpenClaim := { program := "ytgpmphcfjlojpaa", sum := "21cbfd753f5f46bab4368415d2d80f760b1bef9faa95440353d306b2952a05d6", func := "sternpost/sternpostlaw04.ArpBack", spec := "arpBack", apart := false }
def ArpBackSaid : Prop := arpBackRow.holds Try.pinned (OpenSpec.ofChange arpBackSpec)

/-- ITS FALSE NEIGHBOUR: 'it returns false'. Refute it at one input. -/
def arpBackWrong : ChangeSpec := { name := "arpBack", fn := fun _ => fun
  | [d1, d2, d3] => { results := [.lit (.bool false)], args := [d1, d2, d3] }
  | _ => none }
def ArpBackWrongFalsely : Prop := arpBackRow.holds Try.pinned (OpenSpec.ofChange arpBackWrong)

/- THE SECOND FORM. 'bulk': how many values and letters a reading holds, each counted each time it is reached (what is shared counts as often as it is met; a slice's spare places count too). A statement '..UptoSaid' is the law's where the arguments, and the package variables that the reading takes, are together of bulk at most 1048576: NARROWER than '..Said'. Prove '..Said' where nothing that the law and all that it calls make is longer than what came in: it says more and counts as full. Else prove '..UptoSaid'. A law counts once. -/
mutual
def uptoBulk {H : Type} : DataW H → Nat
  | .lit (.string bytes) => bytes.length + 1
  | .lit _ => 1
  | .nil => 1
  | .ptr d => uptoBulk d + 1
  | .slice elems spare => uptoBulkAll elems + uptoBulkAll spare + 1
  | .agg parts => uptoBulkAll parts + 1
  | .iface _ d => uptoBulk d + 1
  | .map entries => uptoBulkEntries entries + 1
  | .held _ => 1
def uptoBulkAll {H : Type} : List (DataW H) → Nat
  | [] => 0
  | d :: r => uptoBulk d + uptoBulkAll r
def uptoBulkEntries {H : Type} : List (Lit × DataW H) → Nat
  | [] => 0
  | x :: r => uptoBulkEntry x + uptoBulkEntries r
def uptoBulkEntry {H : Type} : Lit × DataW H → Nat
  | (.string bytes, d) => bytes.length + uptoBulk d + 1
  | (_, d) => uptoBulk d + 1
 end
def uptoSmall : (H : Type) → List (DataW H) → Bool := fun _ ds => decide (uptoBulkAll ds ≤ 1048576)
def OpenSpec.upto (s : _root_.Go.ChangeSpec) : _root_.Go.OpenSpec := { _root_.Go.OpenSpec.ofChange s with cond := some uptoSmall }

/-- 'sternpostlaw04.ArpMakes', WHERE WHAT IT READS IS OF BULK AT MOST 1048576: true; the input reads as it did. -/
def arpMakesUptoRow : OpenClaim := { program := "ytgpmphcfjlojpaa", sum := "21cbfd753f5f46bab4368415d2d80f760b1bef9faa95440353d306b2952a05d6", func := "sternpost/sternpostlaw04.ArpMakes", spec := "arpMakes", apart := false, narrowed := true }
def ArpMakesUptoSaid : Prop := arpMakesUptoRow.holds Try.pinned (OpenSpec.upto arpMakesSpec)

/-- 'sternpostlaw04.ArpAnswers', WHERE WHAT IT READS IS OF BULK AT MOST 1048576: true; the input reads as it did. -/
def arpAnswersUptoRow : OpenClaim := { program := "ytgpmphcfjlojpaa", sum := "21cbfd753f5f46bab4368415d2d80f760b1bef9faa95440353d306b2952a05d6", func := "sternpost/sternpostlaw04.ArpAnswers", spec := "arpAnswers", apart := false, narrowed := true }
def ArpAnswersUptoSaid : Prop := arpAnswersUptoRow.holds Try.pinned (OpenSpec.upto arpAnswersSpec)

/-- 'sternpostlaw04.ArpClaimed', WHERE WHAT IT READS IS OF BULK AT MOST 1048576: true; the input reads as it did. -/
def arpClaimedUptoRow : OpenClaim := { program := "ytgpmphcfjlojpaa", sum := "21cbfd753f5f46bab4368415d2d80f760b1bef9faa95440353d306b2952a05d6", func := "sternpost/sternpostlaw04.ArpClaimed", spec := "arpClaimed", apart := false, narrowed := true }
def ArpClaimedUptoSaid : Prop := arpClaimedUptoRow.holds Try.pinned (OpenSpec.upto arpClaimedSpec)

/-- 'sternpostlaw04.ArpWrites', WHERE WHAT IT READS IS OF BULK AT MOST 1048576: true; the input reads as it did. -/
def arpWritesUptoRow : OpenClaim := { program := "ytgpmphcfjlojpaa", sum := "21cbfd753f5f46bab4368415d2d80f760b1bef9faa95440353d306b2952a05d6", func := "sternpost/sternpostlaw04.ArpWrites", spec := "arpWrites", apart := false, narrowed := true }
def ArpWritesUptoSaid : Prop := arpWritesUptoRow.holds Try.pinned (OpenSpec.upto arpWritesSpec)

/-- 'sternpostlaw04.ArpReads', WHERE WHAT IT READS IS OF BULK AT MOST 1048576: true; the input reads as it did. -/
def arpReadsUptoRow : OpenClaim := { program := "ytgpmphcfjlojpaa", sum := "21cbfd753f5f46bab4368415d2d80f760b1bef9faa95440353d306b2952a05d6", func := "sternpost/sternpostlaw04.ArpReads", spec := "arpReads", apart := false, narrowed := true }
def ArpReadsUptoSaid : Prop := arpReadsUptoRow.holds Try.pinned (OpenSpec.upto arpReadsSpec)

/-- 'sternpostlaw04.ArpBack', WHERE WHAT IT READS IS OF BULK AT MOST 1048576: true; the input reads as it did. -/
def arpBackUptoRow : OpenClaim := { program := "ytgpmphcfjlojpaa", sum := "21cbfd753f5f46bab4368415d2d80f760b1bef9faa95440353d306b2952a05d6", func := "sternpost/sternpostlaw04.ArpBack", spec := "arpBack", apart := false, narrowed := true }
def ArpBackUptoSaid : Prop := arpBackUptoRow.holds Try.pinned (OpenSpec.upto arpBackSpec)

end Rows
end Go.Proofs.Ytgpmphcfjlojpaa

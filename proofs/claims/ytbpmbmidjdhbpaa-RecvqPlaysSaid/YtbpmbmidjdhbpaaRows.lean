/-
  No cell of these rows narrows 'for every input' (looked for: loops, veiled, ifaces, maps, wideKeys, modest, calm, conditions, laid).
  DERIVED. THE GIVEN ROWS OF THIS SEAT. 4 by the template 'for every input the law returns true; each argument reads behind the call as it read before'; 0 by the template 'total and deterministic' (their statements: YtbpmbmidjdhbpaaTotals.lean).
  GIVEN WITH THE SEED: the statements are not yours to turn. If you find one false, say at which input.
  Laid BY PROGRAM, IN A SANDBOX (cutbox-rows.mjs): the forced cells as the released guide's own fill.sh prints them over the translation fa3c0b031ad87879… (all of the seat's roots in one cut). By AI agents, Wed Nov 11 2026. No macro, syntax, notation, axiom, sorry.
-/
import Derived.Test.YtbpmbmidjdhbpaaChecked
import GoSem.Claim
import GoSem.ClaimJoined
import GoSem.ClaimMapViews
import Derived.JoinedTies
import Derived.KernelRfl
namespace Go.Proofs.Ytbpmbmidjdhbpaa
/- THE CELL 'sum', in the pinned program and in every row, IS THE sha256 OF THE DUMP (.gsa) THAT YtbpmbmidjdhbpaaProg.lean LOADS. Nothing in Lean hashes anything: it is a label: what it is worth is what the hold of that sum in a sandbox is worth. -/
noncomputable def Try.pinned : Pinned := { name := "ytbpmbmidjdhbpaa", sum := "fa3c0b031ad87879d17fea2375cddd10551794923cdd4d055630ba345b206841", checked := Try.checked }
namespace Rows
def none {H : Type} : Left H := { results := [], args := [] }

/-- 'sternpostlaw16.RecvqApart': WHATEVER THE INPUT: true; the input reads as it did. -/
def recvqApartSpec : ChangeSpec := { name := "recvqApart", fn := fun _ => fun
  | [d1, d2] => { results := [.lit (.bool true)], args := [d1, d2] }
  | _ => none }
def recvqApartRow : OpenClaim := { program := "ytbpmbmidjdhbpaa", sum := "fa3c0b031ad87879d17fea2375cddd10551794923cdd4d055630ba345b206841", func := "sternpost/sternpostlaw16.RecvqApart", spec := "recvqApart", recurses := true, apart := false }
def RecvqApartSaid : Prop := recvqApartRow.holds Try.pinned (OpenSpec.ofChange recvqApartSpec)

/-- ITS FALSE NEIGHBOUR: 'it returns false'. Refute it at one input. -/
def recvqApartWrong : ChangeSpec := { name := "recvqApart", fn := fun _ => fun
  | [d1, d2] => { results := [.lit (.bool false)], args := [d1, d2] }
  | _ => none }
def RecvqApartWrongFalsely : Prop := recvqApartRow.holds Try.pinned (OpenSpec.ofChange recvqApartWrong)

/-- 'sternpostlaw16.RecvqEdge': WHATEVER THE INPUT: true; the input reads as it did. -/
def recvqEdgeSpec : ChangeSpec := { name := "recvqEdge", fn := fun _ => fun
  | [d1, d2] => { results := [.lit (.bool true)], args := [d1, d2] }
  | _ => none }
def recvqEdgeRow : OpenClaim := { program := "ytbpmbmidjdhbpaa", sum := "fa3c0b031ad87879d17fea2375cddd10551794923cdd4d055630ba345b206841", func := "sternpost/sternpostlaw16.RecvqEdge", spec := "recvqEdge", recurses := true, apart := false }
def RecvqEdgeSaid : Prop := recvqEdgeRow.holds Try.pinned (OpenSpec.ofChange recvqEdgeSpec)

/-- ITS FALSE NEIGHBOUR: 'it returns false'. Refute it at one input. -/
def recvqEdgeWrong : ChangeSpec := { name := "recvqEdge", fn := fun _ => fun
  | [d1, d2] => { results := [.lit (.bool false)], args := [d1, d2] }
  | _ => none }
def RecvqEdgeWrongFalsely : Prop := recvqEdgeRow.holds Try.pinned (OpenSpec.ofChange recvqEdgeWrong)

/-- 'sternpostlaw16.RecvqStream': WHATEVER THE INPUT: true; the input reads as it did. -/
def recvqStreamSpec : ChangeSpec := { name := "recvqStream", fn := fun _ => fun
  | [d1, d2, d3] => { results := [.lit (.bool true)], args := [d1, d2, d3] }
  | _ => none }
def recvqStreamRow : OpenClaim := { program := "ytbpmbmidjdhbpaa", sum := "fa3c0b031ad87879d17fea2375cddd10551794923cdd4d055630ba345b206841", func := "sternpost/sternpostlaw16.RecvqStream", spec := "recvqStream", recurses := true, apart := false }
def RecvqStreamSaid : Prop := recvqStreamRow.holds Try.pinned (OpenSpec.ofChange recvqStreamSpec)

/-- ITS FALSE NEIGHBOUR: 'it returns false'. Refute it at one input. -/
def recvqStreamWrong : ChangeSpec := { name := "recvqStream", fn := fun _ => fun
  | [d1, d2, d3] => { results := [.lit (.bool false)], args := [d1, d2, d3] }
  | _ => none }
def RecvqStreamWrongFalsely : Prop := recvqStreamRow.holds Try.pinned (OpenSpec.ofChange recvqStreamWrong)

/-- 'sternpostlaw16.RecvqPlays': WHATEVER THE INPUT: true; the input reads as it did. -/
def recvqPlaysSpec : ChangeSpec := { name := "recvqPlays", fn := fun _ => fun
  | [d1, d2, d3] => { results := [.lit (.bool true)], args := [d1, d2, d3] }
  | _ => none }
def recvqPlaysRow : OpenClaim := { program := "ytbpmbmidjdhbpaa", sum := "fa3c0b031ad87879d17fea2375cddd10551794923cdd4d055630ba345b206841", func := "sternpost/sternpostlaw16.RecvqPlays", spec := "recvqPlays", inPlace := ["maps.clone"], recurses := true, apart := false }
def RecvqPlaysSaid : Prop := recvqPlaysRow.holds Try.pinned (OpenSpec.ofChange recvqPlaysSpec)

/-- ITS FALSE NEIGHBOUR: 'it returns false'. Refute it at one input. -/
def recvqPlaysWrong : ChangeSpec := { name := "recvqPlays", fn := fun _ => fun
  | [d1, d2, d3] => { results := [.lit (.bool false)], args := [d1, d2, d3] }
  | _ => none }
def RecvqPlaysWrongFalsely : Prop := recvqPlaysRow.holds Try.pinned (OpenSpec.ofChange recvqPlaysWrong)

/- THE SECOND FORM. 'bulk': how many values and letters a reading holds, each counted each time it is reached (what is shared counts as often as it is met; a slice's spare places count too). A statement '..UptoSaid' is the law's where the arguments, and the package variables that the reading takes, are together of bulk at most 1048576: NARROWER than '..Said'. Prove '..Said' where nothing that the law and all that it calls make is longer than what came in: it says more and counts as full. Else prove '..UptoSaid'. A law counts once. -/
mutual
def uptoBulk {H : Type} : DataW H → Nat
  | .lit (.string bytes) => bytes.length + 1
  | .lit _ => 1
  | .nil => 1
  | .ptr d => uptoBulk d + 1
  | .slice elems spare => uptoBulkAll elems + uptoBulkAll spare + 1
  | .agg parts => uptoBulkAll parts + 1
  | .iface _ d => uptoBulk d + 1
  | .map entries => uptoBulkEntries entries + 1
  | .held _ => 1
def uptoBulkAll {H : Type} : List (DataW H) → Nat
  | [] => 0
  | d :: r => uptoBulk d + uptoBulkAll r
def uptoBulkEntries {H : Type} : List (Lit × DataW H) → Nat
  | [] => 0
  | x :: r => uptoBulkEntry x + uptoBulkEntries r
def uptoBulkEntry {H : Type} : Lit × DataW H → Nat
  | (.string bytes, d) => bytes.length + uptoBulk d + 1
  | (_, d) => uptoBulk d + 1
 end
def uptoSmall : (H : Type) → List (DataW H) → Bool := fun _ ds => decide (uptoBulkAll ds ≤ 1048576)
def OpenSpec.upto (s : _root_.Go.ChangeSpec) : _root_.Go.OpenSpec := { _root_.Go.OpenSpec.ofChange s with cond := some uptoSmall }

/-- 'sternpostlaw16.RecvqApart', WHERE WHAT IT READS IS OF BULK AT MOST 1048576: true; the input reads as it did. -/
def recvqApartUptoRow : OpenClaim := { program := "ytbpmbmidjdhbpaa", sum := "fa3c0b031ad87879d17fea2375cddd10551794923cdd4d055630ba345b206841", func := "sternpost/sternpostlaw16.RecvqApart", spec := "recvqApart", recurses := true, apart := false, narrowed := true }
def RecvqApartUptoSaid : Prop := recvqApartUptoRow.holds Try.pinned (OpenSpec.upto recvqApartSpec)

/-- 'sternpostlaw16.RecvqEdge', WHERE WHAT IT READS IS OF BULK AT MOST 1048576: true; the input reads as it did. -/
def recvqEdgeUptoRow : OpenClaim := { program := "ytbpmbmidjdhbpaa", sum := "fa3c0b031ad87879d17fea2375cddd10551794923cdd4d055630ba345b206841", func := "sternpost/sternpostlaw16.RecvqEdge", spec := "recvqEdge", recurses := true, apart := false, narrowed := true }
def RecvqEdgeUptoSaid : Prop := recvqEdgeUptoRow.holds Try.pinned (OpenSpec.upto recvqEdgeSpec)

/-- 'sternpostlaw16.RecvqStream', WHERE WHAT IT READS IS OF BULK AT MOST 1048576: true; the input reads as it did. -/
def recvqStreamUptoRow : OpenClaim := { program := "ytbpmbmidjdhbpaa", sum := "fa3c0b031ad87879d17fea2375cddd10551794923cdd4d055630ba345b206841", func := "sternpost/sternpostlaw16.RecvqStream", spec := "recvqStream", recurses := true, apart := false, narrowed := true }
def RecvqStreamUptoSaid : Prop := recvqStreamUptoRow.holds Try.pinned (OpenSpec.upto recvqStreamSpec)

/-- 'sternpostlaw16.RecvqPlays', WHERE WHAT IT READS IS OF BULK AT MOST 1048576: true; the input reads as it did. -/
def recvqPlaysUptoRow : OpenClaim := { program := "ytbpmbmidjdhbpaa", sum := "fa3c0b031ad87879d17fea2375cddd10551794923cdd4d055630ba345b206841", func := "sternpost/sternpostlaw16.RecvqPlays", spec := "recvqPlays", inPlace := ["maps.clone"], recurses := true, apart := false, narrowed := true }
def RecvqPlaysUptoSaid : Prop := recvqPlaysUptoRow.holds Try.pinned (OpenSpec.upto recvqPlaysSpec)

end Rows
end Go.Proofs.Ytbpmbmidjdhbpaa

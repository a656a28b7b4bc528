/-
  No cell of these rows narrows 'for every input' (looked for: loops, veiled, ifaces, maps, wideKeys, modest, calm, conditions, laid).
  DERIVED. THE GIVEN ROWS OF THIS SEAT. 4 by the template 'for every input the law returns true; each argument reads behind the call as it read before'; 0 by the template 'total and deterministic' (their statements: YtkmnjlegmgohfaaTotals.lean).
  GIVEN WITH THE SEED: the statements are not yours to turn. If you find one false, say at which input.
  Laid BY PROGRAM, IN A SANDBOX (cutbox-rows.mjs): the forced cells as the released guide's own fill.sh prints them over the translation 35d1953da48e56e1… (all of the seat's roots in one cut). By AI agents, Wed Nov 11 2026. No macro, syntax, notation, axiom, sorry.
-/
import Derived.Test.YtkmnjlegmgohfaaChecked
import GoSem.Claim
import GoSem.ClaimJoined
import GoSem.ClaimMapViews
import Derived.JoinedTies
import Derived.KernelRfl
namespace Go.Proofs.Ytkmnjlegmgohfaa
/- THE CELL 'sum', in the pinned program and in every row, IS THE sha256 OF THE DUMP (.gsa) THAT YtkmnjlegmgohfaaProg.lean LOADS. Nothing in Lean hashes anything: it is a label: what it is worth is what the hold of that sum in a sandbox is worth. -/
noncomputable def Try.pinned : Pinned := { name := "ytkmnjlegmgohfaa", sum := "35d1953da48e56e1cc75d2db1fb25d85e35fc4eca4e66716d5377e0c9daeba07", checked := Try.checked }
namespace Rows
def none {H : Type} : Left H := { results := [], args := [] }

/-- 'sternpostlaw10.BridgeRoads': WHATEVER THE INPUT: true; the input reads as it did. -/
def bridgeRoadsSpec : ChangeSpec := { name := "bridgeRoads", fn := fun _ => fun
  | [d] => { results := [.lit (.bool true)], args := [d] }
  | _ => none }
def bridgeRoadsRow : OpenClaim := { program := "ytkmnjlegmgohfaa", sum := "35d1953da48e56e1cc75d2db1fb25d85e35fc4eca4e66716d5377e0c9daeba07", func := "sternpost/sternpostlaw10.BridgeRoads", spec := "bridgeRoads", apart := false }
def BridgeRoadsSaid : Prop := bridgeRoadsRow.holds Try.pinned (OpenSpec.ofChange bridgeRoadsSpec)

/-- ITS FALSE NEIGHBOUR: 'it returns false'. Refute it at one input. -/
def bridgeRoadsWrong : ChangeSpec := { name := "bridgeRoads", fn := fun _ => fun
  | [d] => { results := [.lit (.bool false)], args := [d] }
  | _ => none }
def BridgeRoadsWrongFalsely : Prop := bridgeRoadsRow.holds Try.pinned (OpenSpec.ofChange bridgeRoadsWrong)

/-- 'sternpostlaw10.BridgeRoom': WHATEVER THE INPUT: true; the input reads as it did. -/
def bridgeRoomSpec : ChangeSpec := { name := "bridgeRoom", fn := fun _ => fun
  | [d1, d2] => { results := [.lit (.bool true)], args := [d1, d2] }
  | _ => none }
def bridgeRoomRow : OpenClaim := { program := "ytkmnjlegmgohfaa", sum := "35d1953da48e56e1cc75d2db1fb25d85e35fc4eca4e66716d5377e0c9daeba07", func := "sternpost/sternpostlaw10.BridgeRoom", spec := "bridgeRoom", unfollowed := true, recurses := true, apart := false }
def BridgeRoomSaid : Prop := bridgeRoomRow.holds Try.pinned (OpenSpec.ofChange bridgeRoomSpec)

/-- ITS FALSE NEIGHBOUR: 'it returns false'. Refute it at one input. -/
def bridgeRoomWrong : ChangeSpec := { name := "bridgeRoom", fn := fun _ => fun
  | [d1, d2] => { results := [.lit (.bool false)], args := [d1, d2] }
  | _ => none }
def BridgeRoomWrongFalsely : Prop := bridgeRoomRow.holds Try.pinned (OpenSpec.ofChange bridgeRoomWrong)

/-- 'sternpostlaw10.BridgePlays': WHATEVER THE INPUT: true; the input reads as it did. -/
def bridgePlaysSpec : ChangeSpec := { name := "bridgePlays", fn := fun _ => fun
  | [d1, d2] => { results := [.lit (.bool true)], args := [d1, d2] }
  | _ => none }
def bridgePlaysRow : OpenClaim := { program := "ytkmnjlegmgohfaa", sum := "35d1953da48e56e1cc75d2db1fb25d85e35fc4eca4e66716d5377e0c9daeba07", func := "sternpost/sternpostlaw10.BridgePlays", spec := "bridgePlays", unfollowed := true, recurses := true, apart := false }
def BridgePlaysSaid : Prop := bridgePlaysRow.holds Try.pinned (OpenSpec.ofChange bridgePlaysSpec)

/-- ITS FALSE NEIGHBOUR: 'it returns false'. Refute it at one input. -/
def bridgePlaysWrong : ChangeSpec := { name := "bridgePlays", fn := fun _ => fun
  | [d1, d2] => { results := [.lit (.bool false)], args := [d1, d2] }
  | _ => none }
def BridgePlaysWrongFalsely : Prop := bridgePlaysRow.holds Try.pinned (OpenSpec.ofChange bridgePlaysWrong)

/-- 'sternpostlaw10.BridgeDown': WHATEVER THE INPUT: true; the input reads as it did. -/
def bridgeDownSpec : ChangeSpec := { name := "bridgeDown", fn := fun _ => fun
  | [d1, d2] => { results := [.lit (.bool true)], args := [d1, d2] }
  | _ => none }
def bridgeDownRow : OpenClaim := { program := "ytkmnjlegmgohfaa", sum := "35d1953da48e56e1cc75d2db1fb25d85e35fc4eca4e66716d5377e0c9daeba07", func := "sternpost/sternpostlaw10.BridgeDown", spec := "bridgeDown", unfollowed := true, recurses := true, apart := false }
def BridgeDownSaid : Prop := bridgeDownRow.holds Try.pinned (OpenSpec.ofChange bridgeDownSpec)

/-- ITS FALSE NEIGHBOUR: 'it returns false'. Refute it at one input. -/
def bridgeDownWrong : ChangeSpec := { name := "bridgeDown", fn := fun _ => fun
  | [d1, d2] => { results := [.lit (.bool false)], args := [d1, d2] }
  | _ => none }
def BridgeDownWrongFalsely : Prop := bridgeDownRow.holds Try.pinned (OpenSpec.ofChange bridgeDownWrong)

/- THE SECOND FORM. 'bulk': how many values and letters a reading holds, each counted each time it is reached (what is shared counts as often as it is met; a slice's spare places count too). A statement '..UptoSaid' is the law's where the arguments, and the package variables that the reading takes, are together of bulk at most 1048576: NARROWER than '..Said'. Prove '..Said' where nothing that the law and all that it calls make is longer than what came in: it says more and counts as full. Else prove '..UptoSaid'. A law counts once. -/
mutual
def uptoBulk {H : Type} : DataW H → Nat
  | .lit (.string bytes) => bytes.length + 1
  | .lit _ => 1
  | .nil => 1
  | .ptr d => uptoBulk d + 1
  | .slice elems spare => uptoBulkAll elems + uptoBulkAll spare + 1
  | .agg parts => uptoBulkAll parts + 1
  | .iface _ d => uptoBulk d + 1
  | .map entries => uptoBulkEntries entries + 1
  | .held _ => 1
def uptoBulkAll {H : Type} : List (DataW H) → Nat
  | [] => 0
  | d :: r => uptoBulk d + uptoBulkAll r
def uptoBulkEntries {H : Type} : List (Lit × DataW H) → Nat
  | [] => 0
  | x :: r => uptoBulkEntry x + uptoBulkEntries r
def uptoBulkEntry {H : Type} : Lit × DataW H → Nat
  | (.string bytes, d) => bytes.length + uptoBulk d + 1
  | (_, d) => uptoBulk d + 1
 end
def uptoSmall : (H : Type) → List (DataW H) → Bool := fun _ ds => decide (uptoBulkAll ds ≤ 1048576)
def OpenSpec.upto (s : _root_.Go.ChangeSpec) : _root_.Go.OpenSpec := { _root_.Go.OpenSpec.ofChange s with cond := some uptoSmall }

/-- 'sternpostlaw10.BridgeRoads', WHERE WHAT IT READS IS OF BULK AT MOST 1048576: true; the input reads as it did. -/
def bridgeRoadsUptoRow : OpenClaim := { program := "ytkmnjlegmgohfaa", sum := "35d1953da48e56e1cc75d2db1fb25d85e35fc4eca4e66716d5377e0c9daeba07", func := "sternpost/sternpostlaw10.BridgeRoads", spec := "bridgeRoads", apart := false, narrowed := true }
def BridgeRoadsUptoSaid : Prop := bridgeRoadsUptoRow.holds Try.pinned (OpenSpec.upto bridgeRoadsSpec)

/-- 'sternpostlaw10.BridgeRoom', WHERE WHAT IT READS IS OF BULK AT MOST 1048576: true; the input reads as it did. -/
def bridgeRoomUptoRow : OpenClaim := { program := "ytkmnjlegmgohfaa", sum := "35d1953da48e56e1cc75d2db1fb25d85e35fc4eca4e66716d5377e0c9daeba07", func := "sternpost/sternpostlaw10.BridgeRoom", spec := "bridgeRoom", unfollowed := true, recurses := true, apart := false, narrowed := true }
def BridgeRoomUptoSaid : Prop := bridgeRoomUptoRow.holds Try.pinned (OpenSpec.upto bridgeRoomSpec)

/-- 'sternpostlaw10.BridgePlays', WHERE WHAT IT READS IS OF BULK AT MOST 1048576: true; the input reads as it did. -/
def bridgePlaysUptoRow : OpenClaim := { program := "ytkmnjlegmgohfaa", sum := "35d1953da48e56e1cc75d2db1fb25d85e35fc4eca4e66716d5377e0c9daeba07", func := "sternpost/sternpostlaw10.BridgePlays", spec := "bridgePlays", unfollowed := true, recurses := true, apart := false, narrowed := true }
def BridgePlaysUptoSaid : Prop := bridgePlaysUptoRow.holds Try.pinned (OpenSpec.upto bridgePlaysSpec)

/-- 'sternpostlaw10.BridgeDown', WHERE WHAT IT READS IS OF BULK AT MOST 1048576: true; the input reads as it did. -/
def bridgeDownUptoRow : OpenClaim := { program := "ytkmnjlegmgohfaa", sum := "35d1953da48e56e1cc75d2db1fb25d85e35fc4eca4e66716d5377e0c9daeba07", func := "sternpost/sternpostlaw10.BridgeDown", spec := "bridgeDown", unfollowed := true, recurses := true, apart := false, narrowed := true }
def BridgeDownUptoSaid : Prop := bridgeDownUptoRow.holds Try.pinned (OpenSpec.upto bridgeDownSpec)

end Rows
end Go.Proofs.Ytkmnjlegmgohfaa

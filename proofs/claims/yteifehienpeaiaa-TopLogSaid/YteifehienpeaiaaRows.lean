/-
  No cell of these rows narrows 'for every input' (looked for: loops, veiled, ifaces, maps, wideKeys, modest, calm, conditions, laid).
  DERIVED. THE GIVEN ROWS OF THIS SEAT. 7 by the template 'for every input the law returns true; each argument reads behind the call as it read before'; 0 by the template 'total and deterministic' (their statements: YteifehienpeaiaaTotals.lean).
  GIVEN WITH THE SEED: the statements are not yours to turn. If you find one false, say at which input.
  Laid BY PROGRAM, IN A SANDBOX (cutbox-rows.mjs): the forced cells as the released guide's own fill.sh prints them over the translation 839f9420fc997fc4… (all of the seat's roots in one cut). By AI agents, Wed Nov 11 2026. No macro, syntax, notation, axiom, sorry.
-/
import Derived.Test.YteifehienpeaiaaChecked
import GoSem.Claim
import GoSem.ClaimJoined
import GoSem.ClaimMapViews
import Derived.JoinedTies
import Derived.KernelRfl
namespace Go.Proofs.Yteifehienpeaiaa
/- THE CELL 'sum', in the pinned program and in every row, IS THE sha256 OF THE DUMP (.gsa) THAT YteifehienpeaiaaProg.lean LOADS. Nothing in Lean hashes anything: it is a label: what it is worth is what the hold of that sum in a sandbox is worth. -/
noncomputable def Try.pinned : Pinned := { name := "yteifehienpeaiaa", sum := "839f9420fc997fc42d3c771498aed93b61c151150029ad1bf79e24cb3adfe112", checked := Try.checked }
namespace Rows
def none {H : Type} : Left H := { results := [], args := [] }

/-- 'sternpostlaw24.ChannelWrites': WHATEVER THE INPUT: true; the input reads as it did. -/
def channelWritesSpec : ChangeSpec := { name := "channelWrites", fn := fun _ => fun
  | [d1, d2] => { results := [.lit (.bool true)], args := [d1, d2] }
  | _ => none }
def channelWritesRow : OpenClaim := { program := "yteifehienpeaiaa", sum := "839f9420fc997fc42d3c771498aed93b61c151150029ad1bf79e24cb3adfe112", func := "sternpost/sternpostlaw24.ChannelWrites", spec := "channelWrites", unfollowed := true, recurses := true, apart := false }
def ChannelWritesSaid : Prop := channelWritesRow.holds Try.pinned (OpenSpec.ofChange channelWritesSpec)

/-- ITS FALSE NEIGHBOUR: 'it returns false'. Refute it at one input. -/
def channelWritesWrong : ChangeSpec := { name := "channelWrites", fn := fun _ => fun
  | [d1, d2] => { results := [.lit (.bool false)], args := [d1, d2] }
  | _ => none }
def ChannelWritesWrongFalsely : Prop := channelWritesRow.holds Try.pinned (OpenSpec.ofChange channelWritesWrong)

/-- 'sternpostlaw24.ChannelBack': WHATEVER THE INPUT: true; the input reads as it did. -/
def channelBackSpec : ChangeSpec := { name := "channelBack", fn := fun _ => fun
  | [d1, d2, d3] => { results := [.lit (.bool true)], args := [d1, d2, d3] }
  | _ => none }
def channelBackRow : OpenClaim := { program := "yteifehienpeaiaa", sum := "839f9420fc997fc42d3c771498aed93b61c151150029ad1bf79e24cb3adfe112", func := "sternpost/sternpostlaw24.ChannelBack", spec := "channelBack", unfollowed := true, recurses := true, apart := false }
def ChannelBackSaid : Prop := channelBackRow.holds Try.pinned (OpenSpec.ofChange channelBackSpec)

/-- ITS FALSE NEIGHBOUR: 'it returns false'. Refute it at one input. -/
def channelBackWrong : ChangeSpec := { name := "channelBack", fn := fun _ => fun
  | [d1, d2, d3] => { results := [.lit (.bool false)], args := [d1, d2, d3] }
  | _ => none }
def ChannelBackWrongFalsely : Prop := channelBackRow.holds Try.pinned (OpenSpec.ofChange channelBackWrong)

/-- 'sternpostlaw24.ChannelIdle': WHATEVER THE INPUT: true; the input reads as it did. -/
def channelIdleSpec : ChangeSpec := { name := "channelIdle", fn := fun _ => fun
  | [d1, d2, d3] => { results := [.lit (.bool true)], args := [d1, d2, d3] }
  | _ => none }
def channelIdleRow : OpenClaim := { program := "yteifehienpeaiaa", sum := "839f9420fc997fc42d3c771498aed93b61c151150029ad1bf79e24cb3adfe112", func := "sternpost/sternpostlaw24.ChannelIdle", spec := "channelIdle", unfollowed := true, recurses := true, apart := false }
def ChannelIdleSaid : Prop := channelIdleRow.holds Try.pinned (OpenSpec.ofChange channelIdleSpec)

/-- ITS FALSE NEIGHBOUR: 'it returns false'. Refute it at one input. -/
def channelIdleWrong : ChangeSpec := { name := "channelIdle", fn := fun _ => fun
  | [d1, d2, d3] => { results := [.lit (.bool false)], args := [d1, d2, d3] }
  | _ => none }
def ChannelIdleWrongFalsely : Prop := channelIdleRow.holds Try.pinned (OpenSpec.ofChange channelIdleWrong)

/-- 'sternpostlaw24.ChannelBrings': WHATEVER THE INPUT: true; the input reads as it did. -/
def channelBringsSpec : ChangeSpec := { name := "channelBrings", fn := fun _ => fun
  | [d1, d2] => { results := [.lit (.bool true)], args := [d1, d2] }
  | _ => none }
def channelBringsRow : OpenClaim := { program := "yteifehienpeaiaa", sum := "839f9420fc997fc42d3c771498aed93b61c151150029ad1bf79e24cb3adfe112", func := "sternpost/sternpostlaw24.ChannelBrings", spec := "channelBrings", unfollowed := true, recurses := true, apart := false }
def ChannelBringsSaid : Prop := channelBringsRow.holds Try.pinned (OpenSpec.ofChange channelBringsSpec)

/-- ITS FALSE NEIGHBOUR: 'it returns false'. Refute it at one input. -/
def channelBringsWrong : ChangeSpec := { name := "channelBrings", fn := fun _ => fun
  | [d1, d2] => { results := [.lit (.bool false)], args := [d1, d2] }
  | _ => none }
def ChannelBringsWrongFalsely : Prop := channelBringsRow.holds Try.pinned (OpenSpec.ofChange channelBringsWrong)

/-- 'sternpostlaw24.ChannelEpochs': WHATEVER THE INPUT: true; the input reads as it did. -/
def channelEpochsSpec : ChangeSpec := { name := "channelEpochs", fn := fun _ => fun
  | [d1, d2] => { results := [.lit (.bool true)], args := [d1, d2] }
  | _ => none }
def channelEpochsRow : OpenClaim := { program := "yteifehienpeaiaa", sum := "839f9420fc997fc42d3c771498aed93b61c151150029ad1bf79e24cb3adfe112", func := "sternpost/sternpostlaw24.ChannelEpochs", spec := "channelEpochs", unfollowed := true, recurses := true, apart := false }
def ChannelEpochsSaid : Prop := channelEpochsRow.holds Try.pinned (OpenSpec.ofChange channelEpochsSpec)

/-- ITS FALSE NEIGHBOUR: 'it returns false'. Refute it at one input. -/
def channelEpochsWrong : ChangeSpec := { name := "channelEpochs", fn := fun _ => fun
  | [d1, d2] => { results := [.lit (.bool false)], args := [d1, d2] }
  | _ => none }
def ChannelEpochsWrongFalsely : Prop := channelEpochsRow.holds Try.pinned (OpenSpec.ofChange channelEpochsWrong)

/-- 'sternpostlaw24.ChannelPlays': WHATEVER THE INPUT: true; the input reads as it did. -/
def channelPlaysSpec : ChangeSpec := { name := "channelPlays", fn := fun _ => fun
  | [d1, d2] => { results := [.lit (.bool true)], args := [d1, d2] }
  | _ => none }
def channelPlaysRow : OpenClaim := { program := "yteifehienpeaiaa", sum := "839f9420fc997fc42d3c771498aed93b61c151150029ad1bf79e24cb3adfe112", func := "sternpost/sternpostlaw24.ChannelPlays", spec := "channelPlays", unfollowed := true, recurses := true, apart := false }
def ChannelPlaysSaid : Prop := channelPlaysRow.holds Try.pinned (OpenSpec.ofChange channelPlaysSpec)

/-- ITS FALSE NEIGHBOUR: 'it returns false'. Refute it at one input. -/
def channelPlaysWrong : ChangeSpec := { name := "channelPlays", fn := fun _ => fun
  | [d1, d2] => { results := [.lit (.bool false)], args := [d1, d2] }
  | _ => none }
def ChannelPlaysWrongFalsely : Prop := channelPlaysRow.holds Try.pinned (OpenSpec.ofChange channelPlaysWrong)

/-- 'sternposttop.TopLog': WHATEVER THE INPUT: true; the input reads as it did. -/
def topLogSpec : ChangeSpec := { name := "topLog", fn := fun _ => fun
  | [d1, d2, d3] => { results := [.lit (.bool true)], args := [d1, d2, d3] }
  | _ => none }
def topLogRow : OpenClaim := { program := "yteifehienpeaiaa", sum := "839f9420fc997fc42d3c771498aed93b61c151150029ad1bf79e24cb3adfe112", func := "sternpost/sternposttop.TopLog", spec := "topLog", inPlace := ["internal/abi.NoEscape"], unfollowed := true, recurses := true, apart := false }
def TopLogSaid : Prop := topLogRow.holds Try.pinned (OpenSpec.ofChange topLogSpec)

/-- ITS FALSE NEIGHBOUR: 'it returns false'. Refute it at one input. -/
def topLogWrong : ChangeSpec := { name := "topLog", fn := fun _ => fun
  | [d1, d2, d3] => { results := [.lit (.bool false)], args := [d1, d2, d3] }
  | _ => none }
def TopLogWrongFalsely : Prop := topLogRow.holds Try.pinned (OpenSpec.ofChange topLogWrong)

/- THE SECOND FORM. 'bulk': how many values and letters a reading holds, each counted each time it is reached (what is shared counts as often as it is met; a slice's spare places count too). A statement '..UptoSaid' is the law's where the arguments, and the package variables that the reading takes, are together of bulk at most 1048576: NARROWER than '..Said'. Prove '..Said' where nothing that the law and all that it calls make is longer than what came in: it says more and counts as full. Else prove '..UptoSaid'. A law counts once. -/
mutual
def uptoBulk {H : Type} : DataW H → Nat
  | .lit (.string bytes) => bytes.length + 1
  | .lit _ => 1
  | .nil => 1
  | .ptr d => uptoBulk d + 1
  | .slice elems spare => uptoBulkAll elems + uptoBulkAll spare + 1
  | .agg parts => uptoBulkAll parts + 1
  | .iface _ d => uptoBulk d + 1
  | .map entries => uptoBulkEntries entries + 1
  | .held _ => 1
def uptoBulkAll {H : Type} : List (DataW H) → Nat
  | [] => 0
  | d :: r => uptoBulk d + uptoBulkAll r
def uptoBulkEntries {H : Type} : List (Lit × DataW H) → Nat
  | [] => 0
  | x :: r => uptoBulkEntry x + uptoBulkEntries r
def uptoBulkEntry {H : Type} : Lit × DataW H → Nat
  | (.string bytes, d) => bytes.length + uptoBulk d + 1
  | (_, d) => uptoBulk d + 1
 end
def uptoSmall : (H : Type) → List (DataW H) → Bool := fun _ ds => decide (uptoBulkAll ds ≤ 1048576)
def OpenSpec.upto (s : _root_.Go.ChangeSpec) : _root_.Go.OpenSpec := { _root_.Go.OpenSpec.ofChange s with cond := some uptoSmall }

/-- 'sternpostlaw24.ChannelWrites', WHERE WHAT IT READS IS OF BULK AT MOST 1048576: true; the input reads as it did. -/
def channelWritesUptoRow : OpenClaim := { program := "yteifehienpeaiaa", sum := "839f9420fc997fc42d3c771498aed93b61c151150029ad1bf79e24cb3adfe112", func := "sternpost/sternpostlaw24.ChannelWrites", spec := "channelWrites", unfollowed := true, recurses := true, apart := false, narrowed := true }
def ChannelWritesUptoSaid : Prop := channelWritesUptoRow.holds Try.pinned (OpenSpec.upto channelWritesSpec)

/-- 'sternpostlaw24.ChannelBack', WHERE WHAT IT READS IS OF BULK AT MOST 1048576: true; the input reads as it did. -/
def channelBackUptoRow : OpenClaim := { program := "yteifehienpeaiaa", sum := "839f9420fc997fc42d3c771498aed93b61c151150029ad1bf79e24cb3adfe112", func := "sternpost/sternpostlaw24.ChannelBack", spec := "channelBack", unfollowed := true, recurses := true, apart := false, narrowed := true }
def ChannelBackUptoSaid : Prop := channelBackUptoRow.holds Try.pinned (OpenSpec.upto channelBackSpec)

/-- 'sternpostlaw24.ChannelIdle', WHERE WHAT IT READS IS OF BULK AT MOST 1048576: true; the input reads as it did. -/
def channelIdleUptoRow : OpenClaim := { program := "yteifehienpeaiaa", sum := "839f9420fc997fc42d3c771498aed93b61c151150029ad1bf79e24cb3adfe112", func := "sternpost/sternpostlaw24.ChannelIdle", spec := "channelIdle", unfollowed := true, recurses := true, apart := false, narrowed := true }
def ChannelIdleUptoSaid : Prop := channelIdleUptoRow.holds Try.pinned (OpenSpec.upto channelIdleSpec)

/-- 'sternpostlaw24.ChannelBrings', WHERE WHAT IT READS IS OF BULK AT MOST 1048576: true; the input reads as it did. -/
def channelBringsUptoRow : OpenClaim := { program := "yteifehienpeaiaa", sum := "839f9420fc997fc42d3c771498aed93b61c151150029ad1bf79e24cb3adfe112", func := "sternpost/sternpostlaw24.ChannelBrings", spec := "channelBrings", unfollowed := true, recurses := true, apart := false, narrowed := true }
def ChannelBringsUptoSaid : Prop := channelBringsUptoRow.holds Try.pinned (OpenSpec.upto channelBringsSpec)

/-- 'sternpostlaw24.ChannelEpochs', WHERE WHAT IT READS IS OF BULK AT MOST 1048576: true; the input reads as it did. -/
def channelEpochsUptoRow : OpenClaim := { program := "yteifehienpeaiaa", sum := "839f9420fc997fc42d3c771498aed93b61c151150029ad1bf79e24cb3adfe112", func := "sternpost/sternpostlaw24.ChannelEpochs", spec := "channelEpochs", unfollowed := true, recurses := true, apart := false, narrowed := true }
def ChannelEpochsUptoSaid : Prop := channelEpochsUptoRow.holds Try.pinned (OpenSpec.upto channelEpochsSpec)

/-- 'sternpostlaw24.ChannelPlays', WHERE WHAT IT READS IS OF BULK AT MOST 1048576: true; the input reads as it did. -/
def channelPlaysUptoRow : OpenClaim := { program := "yteifehienpeaiaa", sum := "839f9420fc997fc42d3c771498aed93b61c151150029ad1bf79e24cb3adfe112", func := "sternpost/sternpostlaw24.ChannelPlays", spec := "channelPlays", unfollowed := true, recurses := true, apart := false, narrowed := true }
def ChannelPlaysUptoSaid : Prop := channelPlaysUptoRow.holds Try.pinned (OpenSpec.upto channelPlaysSpec)

/-- 'sternposttop.TopLog', WHERE WHAT IT READS IS OF BULK AT MOST 1048576: true; the input reads as it did. -/
def topLogUptoRow : OpenClaim := { program := "yteifehienpeaiaa", sum := "839f9420fc997fc42d3c771498aed93b61c151150029ad1bf79e24cb3adfe112", func := "sternpost/sternposttop.TopLog", spec := "topLog", inPlace := ["internal/abi.NoEscape"], unfollowed := true, recurses := true, apart := false, narrowed := true }
def TopLogUptoSaid : Prop := topLogUptoRow.holds Try.pinned (OpenSpec.upto topLogSpec)

end Rows
end Go.Proofs.Yteifehienpeaiaa

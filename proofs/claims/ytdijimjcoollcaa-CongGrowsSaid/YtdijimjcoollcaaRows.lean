/-
  No cell of these rows narrows 'for every input' (looked for: loops, veiled, ifaces, maps, wideKeys, modest, calm, conditions, laid).
  DERIVED. THE GIVEN ROWS OF THIS SEAT. 3 by the template 'for every input the law returns true; each argument reads behind the call as it read before'; 0 by the template 'total and deterministic' (their statements: YtdijimjcoollcaaTotals.lean).
  GIVEN WITH THE SEED: the statements are not yours to turn. If you find one false, say at which input.
  Laid BY PROGRAM, IN A SANDBOX (cutbox-rows.mjs): the forced cells as the released guide's own fill.sh prints them over the translation 9a9468bf2154642b… (all of the seat's roots in one cut). By AI agents, Wed Nov 11 2026. No macro, syntax, notation, axiom, sorry.
-/
import Derived.Test.YtdijimjcoollcaaChecked
import GoSem.Claim
import GoSem.ClaimJoined
import GoSem.ClaimMapViews
import Derived.JoinedTies
import Derived.KernelRfl
namespace Go.Proofs.Ytdijimjcoollcaa
/- THE CELL 'sum', in the pinned program and in every row, IS THE sha256 OF THE DUMP (.gsa) THAT YtdijimjcoollcaaProg.lean LOADS. Nothing in Lean hashes anything: it is a label: what it is worth is what the hold of that sum in a sandbox is worth. -/
noncomputable def Try.pinned : Pinned := { name := "ytdijimjcoollcaa", sum := "9a9468bf2154642b9b8ce56ad397a7b756c509b5c651fcb89acd39553cb73241", checked := Try.checked }
namespace Rows
def none {H : Type} : Left H := { results := [], args := [] }

/-- 'sternpostlaw17.CongHalves': WHATEVER THE INPUT: true; the input reads as it did. -/
def congHalvesSpec : ChangeSpec := { name := "congHalves", fn := fun _ => fun
  | [d1, d2, d3] => { results := [.lit (.bool true)], args := [d1, d2, d3] }
  | _ => none }
def congHalvesRow : OpenClaim := { program := "ytdijimjcoollcaa", sum := "9a9468bf2154642b9b8ce56ad397a7b756c509b5c651fcb89acd39553cb73241", func := "sternpost/sternpostlaw17.CongHalves", spec := "congHalves", unfollowed := true, recurses := true, apart := false }
def CongHalvesSaid : Prop := congHalvesRow.holds Try.pinned (OpenSpec.ofChange congHalvesSpec)

/-- ITS FALSE NEIGHBOUR: 'it returns false'. Refute it at one input. -/
def congHalvesWrong : ChangeSpec := { name := "congHalves", fn := fun _ => fun
  | [d1, d2, d3] => { results := [.lit (.bool false)], args := [d1, d2, d3] }
  | _ => none }
def CongHalvesWrongFalsely : Prop := congHalvesRow.holds Try.pinned (OpenSpec.ofChange congHalvesWrong)

/-- 'sternpostlaw17.CongBounds': WHATEVER THE INPUT: true; the input reads as it did. -/
def congBoundsSpec : ChangeSpec := { name := "congBounds", fn := fun _ => fun
  | [d1, d2] => { results := [.lit (.bool true)], args := [d1, d2] }
  | _ => none }
def congBoundsRow : OpenClaim := { program := "ytdijimjcoollcaa", sum := "9a9468bf2154642b9b8ce56ad397a7b756c509b5c651fcb89acd39553cb73241", func := "sternpost/sternpostlaw17.CongBounds", spec := "congBounds", unfollowed := true, recurses := true, apart := false }
def CongBoundsSaid : Prop := congBoundsRow.holds Try.pinned (OpenSpec.ofChange congBoundsSpec)

/-- ITS FALSE NEIGHBOUR: 'it returns false'. Refute it at one input. -/
def congBoundsWrong : ChangeSpec := { name := "congBounds", fn := fun _ => fun
  | [d1, d2] => { results := [.lit (.bool false)], args := [d1, d2] }
  | _ => none }
def CongBoundsWrongFalsely : Prop := congBoundsRow.holds Try.pinned (OpenSpec.ofChange congBoundsWrong)

/-- 'sternpostlaw17.CongGrows': WHATEVER THE INPUT: true; the input reads as it did. -/
def congGrowsSpec : ChangeSpec := { name := "congGrows", fn := fun _ => fun
  | [d1, d2, d3] => { results := [.lit (.bool true)], args := [d1, d2, d3] }
  | _ => none }
def congGrowsRow : OpenClaim := { program := "ytdijimjcoollcaa", sum := "9a9468bf2154642b9b8ce56ad397a7b756c509b5c651fcb89acd39553cb73241", func := "sternpost/sternpostlaw17.CongGrows", spec := "congGrows", unfollowed := true, recurses := true, apart := false }
def CongGrowsSaid : Prop := congGrowsRow.holds Try.pinned (OpenSpec.ofChange congGrowsSpec)

/-- ITS FALSE NEIGHBOUR: 'it returns false'. Refute it at one input. -/
def congGrowsWrong : ChangeSpec := { name := "congGrows", fn := fun _ => fun
  | [d1, d2, d3] => { results := [.lit (.bool false)], args := [d1, d2, d3] }
  | _ => none }
def CongGrowsWrongFalsely : Prop := congGrowsRow.holds Try.pinned (OpenSpec.ofChange congGrowsWrong)

/- THE SECOND FORM. 'bulk': how many values and letters a reading holds, each counted each time it is reached (what is shared counts as often as it is met; a slice's spare places count too). A statement '..UptoSaid' is the law's where the arguments, and the package variables that the reading takes, are together of bulk at most 1048576: NARROWER than '..Said'. Prove '..Said' where nothing that the law and all that it calls make is longer than what came in: it says more and counts as full. Else prove '..UptoSaid'. A law counts once. -/
mutual
def uptoBulk {H : Type} : DataW H → Nat
  | .lit (.string bytes) => bytes.length + 1
  | .lit _ => 1
  | .nil => 1
  | .ptr d => uptoBulk d + 1
  | .slice elems spare => uptoBulkAll elems + uptoBulkAll spare + 1
  | .agg parts => uptoBulkAll parts + 1
  | .iface _ d => uptoBulk d + 1
  | .map entries => uptoBulkEntries entries + 1
  | .held _ => 1
def uptoBulkAll {H : Type} : List (DataW H) → Nat
  | [] => 0
  | d :: r => uptoBulk d + uptoBulkAll r
def uptoBulkEntries {H : Type} : List (Lit × DataW H) → Nat
  | [] => 0
  | x :: r => uptoBulkEntry x + uptoBulkEntries r
def uptoBulkEntry {H : Type} : Lit × DataW H → Nat
  | (.string bytes, d) => bytes.length + uptoBulk d + 1
  | (_, d) => uptoBulk d + 1
 end
def uptoSmall : (H : Type) → List (DataW H) → Bool := fun _ ds => decide (uptoBulkAll ds ≤ 1048576)
def OpenSpec.upto (s : _root_.Go.ChangeSpec) : _root_.Go.OpenSpec := { _root_.Go.OpenSpec.ofChange s with cond := some uptoSmall }

/-- 'sternpostlaw17.CongHalves', WHERE WHAT IT READS IS OF BULK AT MOST 1048576: true; the input reads as it did. -/
def congHalvesUptoRow : OpenClaim := { program := "ytdijimjcoollcaa", sum := "9a9468bf2154642b9b8ce56ad397a7b756c509b5c651fcb89acd39553cb73241", func := "sternpost/sternpostlaw17.CongHalves", spec := "congHalves", unfollowed := true, recurses := true, apart := false, narrowed := true }
def CongHalvesUptoSaid : Prop := congHalvesUptoRow.holds Try.pinned (OpenSpec.upto congHalvesSpec)

/-- 'sternpostlaw17.CongBounds', WHERE WHAT IT READS IS OF BULK AT MOST 1048576: true; the input reads as it did. -/
def congBoundsUptoRow : OpenClaim := { program := "ytdijimjcoollcaa", sum := "9a9468bf2154642b9b8ce56ad397a7b756c509b5c651fcb89acd39553cb73241", func := "sternpost/sternpostlaw17.CongBounds", spec := "congBounds", unfollowed := true, recurses := true, apart := false, narrowed := true }
def CongBoundsUptoSaid : Prop := congBoundsUptoRow.holds Try.pinned (OpenSpec.upto congBoundsSpec)

/-- 'sternpostlaw17.CongGrows', WHERE WHAT IT READS IS OF BULK AT MOST 1048576: true; the input reads as it did. -/
def congGrowsUptoRow : OpenClaim := { program := "ytdijimjcoollcaa", sum := "9a9468bf2154642b9b8ce56ad397a7b756c509b5c651fcb89acd39553cb73241", func := "sternpost/sternpostlaw17.CongGrows", spec := "congGrows", unfollowed := true, recurses := true, apart := false, narrowed := true }
def CongGrowsUptoSaid : Prop := congGrowsUptoRow.holds Try.pinned (OpenSpec.upto congGrowsSpec)

end Rows
end Go.Proofs.Ytdijimjcoollcaa

/-
  No cell of these rows narrows 'for every input' (looked for: loops, veiled, ifaces, maps, wideKeys, modest, calm, conditions, laid).
  DERIVED. THE GIVEN ROWS OF THIS SEAT. 3 by the template 'for every input the law returns true; each argument reads behind the call as it read before'; 0 by the template 'total and deterministic' (their statements: YthgkdfllddljcaaTotals.lean).
  GIVEN WITH THE SEED: the statements are not yours to turn. If you find one false, say at which input.
  Laid BY PROGRAM, IN A SANDBOX (cutbox-rows.mjs): the forced cells as the released guide's own fill.sh prints them over the translation b4a56d2ea2aa926e… (all of the seat's roots in one cut). By AI agents, Wed Nov 11 2026. No macro, syntax, notation, axiom, sorry.
-/
import Derived.Test.YthgkdfllddljcaaChecked
import GoSem.Claim
import GoSem.ClaimJoined
import GoSem.ClaimMapViews
import Derived.JoinedTies
import Derived.KernelRfl
namespace Go.Proofs.Ythgkdfllddljcaa
/- THE CELL 'sum', in the pinned program and in every row, IS THE sha256 OF THE DUMP (.gsa) THAT YthgkdfllddljcaaProg.lean LOADS. Nothing in Lean hashes anything: it is a label: what it is worth is what the hold of that sum in a sandbox is worth. -/
noncomputable def Try.pinned : Pinned := { name := "ythgkdfllddljcaa", sum := "b4a56d2ea2aa926e0886cadaf1e536225924b738c785a6d487ab805283d6ab37", checked := Try.checked }
namespace Rows
def none {H : Type} : Left H := { results := [], args := [] }

/-- 'sternpostlaw11.NeighAges': WHATEVER THE INPUT: true; the input reads as it did. -/
def neighAgesSpec : ChangeSpec := { name := "neighAges", fn := fun _ => fun
  | [d1, d2, d3] => { results := [.lit (.bool true)], args := [d1, d2, d3] }
  | _ => none }
def neighAgesRow : OpenClaim := { program := "ythgkdfllddljcaa", sum := "b4a56d2ea2aa926e0886cadaf1e536225924b738c785a6d487ab805283d6ab37", func := "sternpost/sternpostlaw11.NeighAges", spec := "neighAges", unfollowed := true, recurses := true, apart := false }
def NeighAgesSaid : Prop := neighAgesRow.holds Try.pinned (OpenSpec.ofChange neighAgesSpec)

/-- ITS FALSE NEIGHBOUR: 'it returns false'. Refute it at one input. -/
def neighAgesWrong : ChangeSpec := { name := "neighAges", fn := fun _ => fun
  | [d1, d2, d3] => { results := [.lit (.bool false)], args := [d1, d2, d3] }
  | _ => none }
def NeighAgesWrongFalsely : Prop := neighAgesRow.holds Try.pinned (OpenSpec.ofChange neighAgesWrong)

/-- 'sternpostlaw11.NeighClaims': WHATEVER THE INPUT: true; the input reads as it did. -/
def neighClaimsSpec : ChangeSpec := { name := "neighClaims", fn := fun _ => fun
  | [d1, d2, d3] => { results := [.lit (.bool true)], args := [d1, d2, d3] }
  | _ => none }
def neighClaimsRow : OpenClaim := { program := "ythgkdfllddljcaa", sum := "b4a56d2ea2aa926e0886cadaf1e536225924b738c785a6d487ab805283d6ab37", func := "sternpost/sternpostlaw11.NeighClaims", spec := "neighClaims", unfollowed := true, recurses := true, apart := false }
def NeighClaimsSaid : Prop := neighClaimsRow.holds Try.pinned (OpenSpec.ofChange neighClaimsSpec)

/-- ITS FALSE NEIGHBOUR: 'it returns false'. Refute it at one input. -/
def neighClaimsWrong : ChangeSpec := { name := "neighClaims", fn := fun _ => fun
  | [d1, d2, d3] => { results := [.lit (.bool false)], args := [d1, d2, d3] }
  | _ => none }
def NeighClaimsWrongFalsely : Prop := neighClaimsRow.holds Try.pinned (OpenSpec.ofChange neighClaimsWrong)

/-- 'sternpostlaw11.NeighOnce': WHATEVER THE INPUT: true; the input reads as it did. -/
def neighOnceSpec : ChangeSpec := { name := "neighOnce", fn := fun _ => fun
  | [d] => { results := [.lit (.bool true)], args := [d] }
  | _ => none }
def neighOnceRow : OpenClaim := { program := "ythgkdfllddljcaa", sum := "b4a56d2ea2aa926e0886cadaf1e536225924b738c785a6d487ab805283d6ab37", func := "sternpost/sternpostlaw11.NeighOnce", spec := "neighOnce", unfollowed := true, recurses := true, apart := false }
def NeighOnceSaid : Prop := neighOnceRow.holds Try.pinned (OpenSpec.ofChange neighOnceSpec)

/-- ITS FALSE NEIGHBOUR: 'it returns false'. Refute it at one input. -/
def neighOnceWrong : ChangeSpec := { name := "neighOnce", fn := fun _ => fun
  | [d] => { results := [.lit (.bool false)], args := [d] }
  | _ => none }
def NeighOnceWrongFalsely : Prop := neighOnceRow.holds Try.pinned (OpenSpec.ofChange neighOnceWrong)

/- THE SECOND FORM. 'bulk': how many values and letters a reading holds, each counted each time it is reached (what is shared counts as often as it is met; a slice's spare places count too). A statement '..UptoSaid' is the law's where the arguments, and the package variables that the reading takes, are together of bulk at most 1048576: NARROWER than '..Said'. Prove '..Said' where nothing that the law and all that it calls make is longer than what came in: it says more and counts as full. Else prove '..UptoSaid'. A law counts once. -/
mutual
def uptoBulk {H : Type} : DataW H → Nat
  | .lit (.string bytes) => bytes.length + 1
  | .lit _ => 1
  | .nil => 1
  | .ptr d => uptoBulk d + 1
  | .slice elems spare => uptoBulkAll elems + uptoBulkAll spare + 1
  | .agg parts => uptoBulkAll parts + 1
  | .iface _ d => uptoBulk d + 1
  | .map entries => uptoBulkEntries entries + 1
  | .held _ => 1
def uptoBulkAll {H : Type} : List (DataW H) → Nat
  | [] => 0
  | d :: r => uptoBulk d + uptoBulkAll r
def uptoBulkEntries {H : Type} : List (Lit × DataW H) → Nat
  | [] => 0
  | x :: r => uptoBulkEntry x + uptoBulkEntries r
def uptoBulkEntry {H : Type} : Lit × DataW H → Nat
  | (.string bytes, d) => bytes.length + uptoBulk d + 1
  | (_, d) => uptoBulk d + 1
 end
def uptoSmall : (H : Type) → List (DataW H) → Bool := fun _ ds => decide (uptoBulkAll ds ≤ 1048576)
def OpenSpec.upto (s : _root_.Go.ChangeSpec) : _root_.Go.OpenSpec := { _root_.Go.OpenSpec.ofChange s with cond := some uptoSmall }

/-- 'sternpostlaw11.NeighAges', WHERE WHAT IT READS IS OF BULK AT MOST 1048576: true; the input reads as it did. -/
def neighAgesUptoRow : OpenClaim := { program := "ythgkdfllddljcaa", sum := "b4a56d2ea2aa926e0886cadaf1e536225924b738c785a6d487ab805283d6ab37", func := "sternpost/sternpostlaw11.NeighAges", spec := "neighAges", unfollowed := true, recurses := true, apart := false, narrowed := true }
def NeighAgesUptoSaid : Prop := neighAgesUptoRow.holds Try.pinned (OpenSpec.upto neighAgesSpec)

/-- 'sternpostlaw11.NeighClaims', WHERE WHAT IT READS IS OF BULK AT MOST 1048576: true; the input reads as it did. -/
def neighClaimsUptoRow : OpenClaim := { program := "ythgkdfllddljcaa", sum := "b4a56d2ea2aa926e0886cadaf1e536225924b738c785a6d487ab805283d6ab37", func := "sternpost/sternpostlaw11.NeighClaims", spec := "neighClaims", unfollowed := true, recurses := true, apart := false, narrowed := true }
def NeighClaimsUptoSaid : Prop := neighClaimsUptoRow.holds Try.pinned (OpenSpec.upto neighClaimsSpec)

/-- 'sternpostlaw11.NeighOnce', WHERE WHAT IT READS IS OF BULK AT MOST 1048576: true; the input reads as it did. -/
def neighOnceUptoRow : OpenClaim := { program := "ythgkdfllddljcaa", sum := "b4a56d2ea2aa926e0886cadaf1e536225924b738c785a6d487ab805283d6ab37", func := "sternpost/sternpostlaw11.NeighOnce", spec := "neighOnce", unfollowed := true, recurses := true, apart := false, narrowed := true }
def NeighOnceUptoSaid : Prop := neighOnceUptoRow.holds Try.pinned (OpenSpec.upto neighOnceSpec)

end Rows
end Go.Proofs.Ythgkdfllddljcaa

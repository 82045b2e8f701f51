/-
  No cell of these rows narrows 'for every input' (looked for: loops, veiled, ifaces, maps, wideKeys, modest, calm, conditions, laid).
  DERIVED. THE GIVEN ROWS OF THIS SEAT. 8 by the template 'for every input the law returns true; each argument reads behind the call as it read before'; 0 by the template 'total and deterministic' (their statements: YtkdbglmkpkliaaaTotals.lean).
  GIVEN WITH THE SEED: the statements are not yours to turn. If you find one false, say at which input.
  Laid BY PROGRAM, IN A SANDBOX (cutbox-rows.mjs): the forced cells as the released guide's own fill.sh prints them over the translation d6fdbfdcc8bd1bdf… (all of the seat's roots in one cut). By AI agents, Wed Nov 11 2026. No macro, syntax, notation, axiom, sorry.
-/
import Derived.Test.YtkdbglmkpkliaaaChecked
import GoSem.Claim
import GoSem.ClaimJoined
import GoSem.ClaimMapViews
import Derived.JoinedTies
import Derived.KernelRfl
namespace Go.Proofs.Ytkdbglmkpkliaaa
/- THE CELL 'sum', in the pinned program and in every row, IS THE sha256 OF THE DUMP (.gsa) THAT YtkdbglmkpkliaaaProg.lean LOADS. Nothing in Lean hashes anything: it is a label: what it is worth is what the hold of that sum in a sandbox is worth. -/
noncomputable def Try.pinned : Pinned := { name := "ytkdbglmkpkliaaa", sum := "d6fdbfdcc8bd1bdfdd404fb6f03360a660177d8457e565c38506f8842375829c", checked := Try.checked }
namespace Rows
def none {H : Type} : Left H := { results := [], args := [] }

/-- 'aditlaw1.FixBounds': WHATEVER THE INPUT: true; the input reads as it did. -/
def fixBoundsSpec : ChangeSpec := { name := "fixBounds", fn := fun _ => fun
  | [d1, d2] => { results := [.lit (.bool true)], args := [d1, d2] }
  | _ => none }
def fixBoundsRow : OpenClaim := { program := "ytkdbglmkpkliaaa", sum := "d6fdbfdcc8bd1bdfdd404fb6f03360a660177d8457e565c38506f8842375829c", func := "adit/aditlaw1.FixBounds", spec := "fixBounds", apart := false }
def FixBoundsSaid : Prop := fixBoundsRow.holds Try.pinned (OpenSpec.ofChange fixBoundsSpec)

/-- ITS FALSE NEIGHBOUR: 'it returns false'. Refute it at one input. -/
def fixBoundsWrong : ChangeSpec := { name := "fixBounds", fn := fun _ => fun
  | [d1, d2] => { results := [.lit (.bool false)], args := [d1, d2] }
  | _ => none }
def FixBoundsWrongFalsely : Prop := fixBoundsRow.holds Try.pinned (OpenSpec.ofChange fixBoundsWrong)

/-- 'aditlaw1.FixRoots': WHATEVER THE INPUT: true; the input reads as it did. -/
def fixRootsSpec : ChangeSpec := { name := "fixRoots", fn := fun _ => fun
  | [d1, d2, d3] => { results := [.lit (.bool true)], args := [d1, d2, d3] }
  | _ => none }
def fixRootsRow : OpenClaim := { program := "ytkdbglmkpkliaaa", sum := "d6fdbfdcc8bd1bdfdd404fb6f03360a660177d8457e565c38506f8842375829c", func := "adit/aditlaw1.FixRoots", spec := "fixRoots", apart := false }
def FixRootsSaid : Prop := fixRootsRow.holds Try.pinned (OpenSpec.ofChange fixRootsSpec)

/-- ITS FALSE NEIGHBOUR: 'it returns false'. Refute it at one input. -/
def fixRootsWrong : ChangeSpec := { name := "fixRoots", fn := fun _ => fun
  | [d1, d2, d3] => { results := [.lit (.bool false)], args := [d1, d2, d3] }
  | _ => none }
def FixRootsWrongFalsely : Prop := fixRootsRow.holds Try.pinned (OpenSpec.ofChange fixRootsWrong)

/-- 'aditlaw1.FixSquares': WHATEVER THE INPUT: true; the input reads as it did. -/
def fixSquaresSpec : ChangeSpec := { name := "fixSquares", fn := fun _ => fun
  | [d] => { results := [.lit (.bool true)], args := [d] }
  | _ => none }
def fixSquaresRow : OpenClaim := { program := "ytkdbglmkpkliaaa", sum := "d6fdbfdcc8bd1bdfdd404fb6f03360a660177d8457e565c38506f8842375829c", func := "adit/aditlaw1.FixSquares", spec := "fixSquares", apart := false }
def FixSquaresSaid : Prop := fixSquaresRow.holds Try.pinned (OpenSpec.ofChange fixSquaresSpec)

/-- ITS FALSE NEIGHBOUR: 'it returns false'. Refute it at one input. -/
def fixSquaresWrong : ChangeSpec := { name := "fixSquares", fn := fun _ => fun
  | [d] => { results := [.lit (.bool false)], args := [d] }
  | _ => none }
def FixSquaresWrongFalsely : Prop := fixSquaresRow.holds Try.pinned (OpenSpec.ofChange fixSquaresWrong)

/-- 'aditlaw1.FixTurns': WHATEVER THE INPUT: true; the input reads as it did. -/
def fixTurnsSpec : ChangeSpec := { name := "fixTurns", fn := fun _ => fun
  | [d1, d2, d3, d4] => { results := [.lit (.bool true)], args := [d1, d2, d3, d4] }
  | _ => none }
def fixTurnsRow : OpenClaim := { program := "ytkdbglmkpkliaaa", sum := "d6fdbfdcc8bd1bdfdd404fb6f03360a660177d8457e565c38506f8842375829c", func := "adit/aditlaw1.FixTurns", spec := "fixTurns", apart := false }
def FixTurnsSaid : Prop := fixTurnsRow.holds Try.pinned (OpenSpec.ofChange fixTurnsSpec)

/-- ITS FALSE NEIGHBOUR: 'it returns false'. Refute it at one input. -/
def fixTurnsWrong : ChangeSpec := { name := "fixTurns", fn := fun _ => fun
  | [d1, d2, d3, d4] => { results := [.lit (.bool false)], args := [d1, d2, d3, d4] }
  | _ => none }
def FixTurnsWrongFalsely : Prop := fixTurnsRow.holds Try.pinned (OpenSpec.ofChange fixTurnsWrong)

/-- 'aditlaw1.FixParts': WHATEVER THE INPUT: true; the input reads as it did. -/
def fixPartsSpec : ChangeSpec := { name := "fixParts", fn := fun _ => fun
  | [d1, d2] => { results := [.lit (.bool true)], args := [d1, d2] }
  | _ => none }
def fixPartsRow : OpenClaim := { program := "ytkdbglmkpkliaaa", sum := "d6fdbfdcc8bd1bdfdd404fb6f03360a660177d8457e565c38506f8842375829c", func := "adit/aditlaw1.FixParts", spec := "fixParts", apart := false }
def FixPartsSaid : Prop := fixPartsRow.holds Try.pinned (OpenSpec.ofChange fixPartsSpec)

/-- ITS FALSE NEIGHBOUR: 'it returns false'. Refute it at one input. -/
def fixPartsWrong : ChangeSpec := { name := "fixParts", fn := fun _ => fun
  | [d1, d2] => { results := [.lit (.bool false)], args := [d1, d2] }
  | _ => none }
def FixPartsWrongFalsely : Prop := fixPartsRow.holds Try.pinned (OpenSpec.ofChange fixPartsWrong)

/-- 'aditlaw1.FixQuotients': WHATEVER THE INPUT: true; the input reads as it did. -/
def fixQuotientsSpec : ChangeSpec := { name := "fixQuotients", fn := fun _ => fun
  | [d1, d2] => { results := [.lit (.bool true)], args := [d1, d2] }
  | _ => none }
def fixQuotientsRow : OpenClaim := { program := "ytkdbglmkpkliaaa", sum := "d6fdbfdcc8bd1bdfdd404fb6f03360a660177d8457e565c38506f8842375829c", func := "adit/aditlaw1.FixQuotients", spec := "fixQuotients", apart := false }
def FixQuotientsSaid : Prop := fixQuotientsRow.holds Try.pinned (OpenSpec.ofChange fixQuotientsSpec)

/-- ITS FALSE NEIGHBOUR: 'it returns false'. Refute it at one input. -/
def fixQuotientsWrong : ChangeSpec := { name := "fixQuotients", fn := fun _ => fun
  | [d1, d2] => { results := [.lit (.bool false)], args := [d1, d2] }
  | _ => none }
def FixQuotientsWrongFalsely : Prop := fixQuotientsRow.holds Try.pinned (OpenSpec.ofChange fixQuotientsWrong)

/-- 'aditlaw1.FixWays': WHATEVER THE INPUT: true; the input reads as it did. -/
def fixWaysSpec : ChangeSpec := { name := "fixWays", fn := fun _ => fun
  | [d] => { results := [.lit (.bool true)], args := [d] }
  | _ => none }
def fixWaysRow : OpenClaim := { program := "ytkdbglmkpkliaaa", sum := "d6fdbfdcc8bd1bdfdd404fb6f03360a660177d8457e565c38506f8842375829c", func := "adit/aditlaw1.FixWays", spec := "fixWays", apart := false }
def FixWaysSaid : Prop := fixWaysRow.holds Try.pinned (OpenSpec.ofChange fixWaysSpec)

/-- ITS FALSE NEIGHBOUR: 'it returns false'. Refute it at one input. -/
def fixWaysWrong : ChangeSpec := { name := "fixWays", fn := fun _ => fun
  | [d] => { results := [.lit (.bool false)], args := [d] }
  | _ => none }
def FixWaysWrongFalsely : Prop := fixWaysRow.holds Try.pinned (OpenSpec.ofChange fixWaysWrong)

/-- 'aditlaw6.NavNear': WHATEVER THE INPUT: true; the input reads as it did. -/
def navNearSpec : ChangeSpec := { name := "navNear", fn := fun _ => fun
  | [d1, d2, d3, d4] => { results := [.lit (.bool true)], args := [d1, d2, d3, d4] }
  | _ => none }
def navNearRow : OpenClaim := { program := "ytkdbglmkpkliaaa", sum := "d6fdbfdcc8bd1bdfdd404fb6f03360a660177d8457e565c38506f8842375829c", func := "adit/aditlaw6.NavNear", spec := "navNear", apart := false }
def NavNearSaid : Prop := navNearRow.holds Try.pinned (OpenSpec.ofChange navNearSpec)

/-- ITS FALSE NEIGHBOUR: 'it returns false'. Refute it at one input. -/
def navNearWrong : ChangeSpec := { name := "navNear", fn := fun _ => fun
  | [d1, d2, d3, d4] => { results := [.lit (.bool false)], args := [d1, d2, d3, d4] }
  | _ => none }
def NavNearWrongFalsely : Prop := navNearRow.holds Try.pinned (OpenSpec.ofChange navNearWrong)

/- THE SECOND FORM. 'bulk': how many values and letters a reading holds, each counted each time it is reached (what is shared counts as often as it is met; a slice's spare places count too). A statement '..UptoSaid' is the law's where the arguments, and the package variables that the reading takes, are together of bulk at most 1048576: NARROWER than '..Said'. Prove '..Said' where nothing that the law and all that it calls make is longer than what came in: it says more and counts as full. Else prove '..UptoSaid'. A law counts once. -/
mutual
def uptoBulk {H : Type} : DataW H → Nat
  | .lit (.string bytes) => bytes.length + 1
  | .lit _ => 1
  | .nil => 1
  | .ptr d => uptoBulk d + 1
  | .slice elems spare => uptoBulkAll elems + uptoBulkAll spare + 1
  | .agg parts => uptoBulkAll parts + 1
  | .iface _ d => uptoBulk d + 1
  | .map entries => uptoBulkEntries entries + 1
  | .held _ => 1
def uptoBulkAll {H : Type} : List (DataW H) → Nat
  | [] => 0
  | d :: r => uptoBulk d + uptoBulkAll r
def uptoBulkEntries {H : Type} : List (Lit × DataW H) → Nat
  | [] => 0
  | x :: r => uptoBulkEntry x + uptoBulkEntries r
def uptoBulkEntry {H : Type} : Lit × DataW H → Nat
  | (.string bytes, d) => bytes.length + uptoBulk d + 1
  | (_, d) => uptoBulk d + 1
 end
def uptoSmall : (H : Type) → List (DataW H) → Bool := fun _ ds => decide (uptoBulkAll ds ≤ 1048576)
def OpenSpec.upto (s : _root_.Go.ChangeSpec) : _root_.Go.OpenSpec := { _root_.Go.OpenSpec.ofChange s with cond := some uptoSmall }

/-- 'aditlaw1.FixBounds', WHERE WHAT IT READS IS OF BULK AT MOST 1048576: true; the input reads as it did. -/
def fixBoundsUptoRow : OpenClaim := { program := "ytkdbglmkpkliaaa", sum := "d6fdbfdcc8bd1bdfdd404fb6f03360a660177d8457e565c38506f8842375829c", func := "adit/aditlaw1.FixBounds", spec := "fixBounds", apart := false, narrowed := true }
def FixBoundsUptoSaid : Prop := fixBoundsUptoRow.holds Try.pinned (OpenSpec.upto fixBoundsSpec)

/-- 'aditlaw1.FixRoots', WHERE WHAT IT READS IS OF BULK AT MOST 1048576: true; the input reads as it did. -/
def fixRootsUptoRow : OpenClaim := { program := "ytkdbglmkpkliaaa", sum := "d6fdbfdcc8bd1bdfdd404fb6f03360a660177d8457e565c38506f8842375829c", func := "adit/aditlaw1.FixRoots", spec := "fixRoots", apart := false, narrowed := true }
def FixRootsUptoSaid : Prop := fixRootsUptoRow.holds Try.pinned (OpenSpec.upto fixRootsSpec)

/-- 'aditlaw1.FixSquares', WHERE WHAT IT READS IS OF BULK AT MOST 1048576: true; the input reads as it did. -/
def fixSquaresUptoRow : OpenClaim := { program := "ytkdbglmkpkliaaa", sum := "d6fdbfdcc8bd1bdfdd404fb6f03360a660177d8457e565c38506f8842375829c", func := "adit/aditlaw1.FixSquares", spec := "fixSquares", apart := false, narrowed := true }
def FixSquaresUptoSaid : Prop := fixSquaresUptoRow.holds Try.pinned (OpenSpec.upto fixSquaresSpec)

/-- 'aditlaw1.FixTurns', WHERE WHAT IT READS IS OF BULK AT MOST 1048576: true; the input reads as it did. -/
def fixTurnsUptoRow : OpenClaim := { program := "ytkdbglmkpkliaaa", sum := "d6fdbfdcc8bd1bdfdd404fb6f03360a660177d8457e565c38506f8842375829c", func := "adit/aditlaw1.FixTurns", spec := "fixTurns", apart := false, narrowed := true }
def FixTurnsUptoSaid : Prop := fixTurnsUptoRow.holds Try.pinned (OpenSpec.upto fixTurnsSpec)

/-- 'aditlaw1.FixParts', WHERE WHAT IT READS IS OF BULK AT MOST 1048576: true; the input reads as it did. -/
def fixPartsUptoRow : OpenClaim := { program := "ytkdbglmkpkliaaa", sum := "d6fdbfdcc8bd1bdfdd404fb6f03360a660177d8457e565c38506f8842375829c", func := "adit/aditlaw1.FixParts", spec := "fixParts", apart := false, narrowed := true }
def FixPartsUptoSaid : Prop := fixPartsUptoRow.holds Try.pinned (OpenSpec.upto fixPartsSpec)

/-- 'aditlaw1.FixQuotients', WHERE WHAT IT READS IS OF BULK AT MOST 1048576: true; the input reads as it did. -/
def fixQuotientsUptoRow : OpenClaim := { program := "ytkdbglmkpkliaaa", sum := "d6fdbfdcc8bd1bdfdd404fb6f03360a660177d8457e565c38506f8842375829c", func := "adit/aditlaw1.FixQuotients", spec := "fixQuotients", apart := false, narrowed := true }
def FixQuotientsUptoSaid : Prop := fixQuotientsUptoRow.holds Try.pinned (OpenSpec.upto fixQuotientsSpec)

/-- 'aditlaw1.FixWays', WHERE WHAT IT READS IS OF BULK AT MOST 1048576: true; the input reads as it did. -/
def fixWaysUptoRow : OpenClaim := { program := "ytkdbglmkpkliaaa", sum := "d6fdbfdcc8bd1bdfdd404fb6f03360a660177d8457e565c38506f8842375829c", func := "adit/aditlaw1.FixWays", spec := "fixWays", apart := false, narrowed := true }
def FixWaysUptoSaid : Prop := fixWaysUptoRow.holds Try.pinned (OpenSpec.upto fixWaysSpec)

/-- 'aditlaw6.NavNear', WHERE WHAT IT READS IS OF BULK AT MOST 1048576: true; the input reads as it did. -/
def navNearUptoRow : OpenClaim := { program := "ytkdbglmkpkliaaa", sum := "d6fdbfdcc8bd1bdfdd404fb6f03360a660177d8457e565c38506f8842375829c", func := "adit/aditlaw6.NavNear", spec := "navNear", apart := false, narrowed := true }
def NavNearUptoSaid : Prop := navNearUptoRow.holds Try.pinned (OpenSpec.upto navNearSpec)

end Rows
end Go.Proofs.Ytkdbglmkpkliaaa

/-
  No cell of these rows narrows 'for every input' (looked for: loops, veiled, ifaces, maps, wideKeys, modest, calm, conditions, laid).
  DERIVED. THE GIVEN ROWS OF THIS SEAT. 6 by the template 'for every input the law returns true; each argument reads behind the call as it read before'; 0 by the template 'total and deterministic' (their statements: YtjpcmpeigoikkaaTotals.lean).
  GIVEN WITH THE SEED: the statements are not yours to turn. If you find one false, say at which input.
  Laid BY PROGRAM, IN A SANDBOX (cutbox-rows.mjs): the forced cells as the released guide's own fill.sh prints them over the translation 6edf8490859f8137… (all of the seat's roots in one cut). By AI agents, Wed Nov 11 2026. No macro, syntax, notation, axiom, sorry.
-/
import Derived.Test.YtjpcmpeigoikkaaChecked
import GoSem.Claim
import GoSem.ClaimJoined
import GoSem.ClaimMapViews
import Derived.JoinedTies
import Derived.KernelRfl
namespace Go.Proofs.Ytjpcmpeigoikkaa
/- THE CELL 'sum', in the pinned program and in every row, IS THE sha256 OF THE DUMP (.gsa) THAT YtjpcmpeigoikkaaProg.lean LOADS. Nothing in Lean hashes anything: it is a label: what it is worth is what the hold of that sum in a sandbox is worth. -/
noncomputable def Try.pinned : Pinned := { name := "ytjpcmpeigoikkaa", sum := "6edf8490859f813795c196c98807fe33acfb57805210e90595ec1d3154407460", checked := Try.checked }
namespace Rows
def none {H : Type} : Left H := { results := [], args := [] }

/-- 'aditlaw3.GridLines': WHATEVER THE INPUT: true; the input reads as it did. -/
def gridLinesSpec : ChangeSpec := { name := "gridLines", fn := fun _ => fun
  | [d1, d2, d3, d4] => { results := [.lit (.bool true)], args := [d1, d2, d3, d4] }
  | _ => none }
def gridLinesRow : OpenClaim := { program := "ytjpcmpeigoikkaa", sum := "6edf8490859f813795c196c98807fe33acfb57805210e90595ec1d3154407460", func := "adit/aditlaw3.GridLines", spec := "gridLines", apart := false }
def GridLinesSaid : Prop := gridLinesRow.holds Try.pinned (OpenSpec.ofChange gridLinesSpec)

/-- ITS FALSE NEIGHBOUR: 'it returns false'. Refute it at one input. -/
def gridLinesWrong : ChangeSpec := { name := "gridLines", fn := fun _ => fun
  | [d1, d2, d3, d4] => { results := [.lit (.bool false)], args := [d1, d2, d3, d4] }
  | _ => none }
def GridLinesWrongFalsely : Prop := gridLinesRow.holds Try.pinned (OpenSpec.ofChange gridLinesWrong)

/-- 'aditlaw3.GridSees': WHATEVER THE INPUT: true; the input reads as it did. -/
def gridSeesSpec : ChangeSpec := { name := "gridSees", fn := fun _ => fun
  | [d1, d2, d3, d4, d5] => { results := [.lit (.bool true)], args := [d1, d2, d3, d4, d5] }
  | _ => none }
def gridSeesRow : OpenClaim := { program := "ytjpcmpeigoikkaa", sum := "6edf8490859f813795c196c98807fe33acfb57805210e90595ec1d3154407460", func := "adit/aditlaw3.GridSees", spec := "gridSees", apart := false }
def GridSeesSaid : Prop := gridSeesRow.holds Try.pinned (OpenSpec.ofChange gridSeesSpec)

/-- ITS FALSE NEIGHBOUR: 'it returns false'. Refute it at one input. -/
def gridSeesWrong : ChangeSpec := { name := "gridSees", fn := fun _ => fun
  | [d1, d2, d3, d4, d5] => { results := [.lit (.bool false)], args := [d1, d2, d3, d4, d5] }
  | _ => none }
def GridSeesWrongFalsely : Prop := gridSeesRow.holds Try.pinned (OpenSpec.ofChange gridSeesWrong)

/-- 'aditlaw3.GridFields': WHATEVER THE INPUT: true; the input reads as it did. -/
def gridFieldsSpec : ChangeSpec := { name := "gridFields", fn := fun _ => fun
  | [d1, d2, d3] => { results := [.lit (.bool true)], args := [d1, d2, d3] }
  | _ => none }
def gridFieldsRow : OpenClaim := { program := "ytjpcmpeigoikkaa", sum := "6edf8490859f813795c196c98807fe33acfb57805210e90595ec1d3154407460", func := "adit/aditlaw3.GridFields", spec := "gridFields", apart := false }
def GridFieldsSaid : Prop := gridFieldsRow.holds Try.pinned (OpenSpec.ofChange gridFieldsSpec)

/-- ITS FALSE NEIGHBOUR: 'it returns false'. Refute it at one input. -/
def gridFieldsWrong : ChangeSpec := { name := "gridFields", fn := fun _ => fun
  | [d1, d2, d3] => { results := [.lit (.bool false)], args := [d1, d2, d3] }
  | _ => none }
def GridFieldsWrongFalsely : Prop := gridFieldsRow.holds Try.pinned (OpenSpec.ofChange gridFieldsWrong)

/-- 'aditlaw3.GridSteps': WHATEVER THE INPUT: true; the input reads as it did. -/
def gridStepsSpec : ChangeSpec := { name := "gridSteps", fn := fun _ => fun
  | [d1, d2, d3] => { results := [.lit (.bool true)], args := [d1, d2, d3] }
  | _ => none }
def gridStepsRow : OpenClaim := { program := "ytjpcmpeigoikkaa", sum := "6edf8490859f813795c196c98807fe33acfb57805210e90595ec1d3154407460", func := "adit/aditlaw3.GridSteps", spec := "gridSteps", apart := false }
def GridStepsSaid : Prop := gridStepsRow.holds Try.pinned (OpenSpec.ofChange gridStepsSpec)

/-- ITS FALSE NEIGHBOUR: 'it returns false'. Refute it at one input. -/
def gridStepsWrong : ChangeSpec := { name := "gridSteps", fn := fun _ => fun
  | [d1, d2, d3] => { results := [.lit (.bool false)], args := [d1, d2, d3] }
  | _ => none }
def GridStepsWrongFalsely : Prop := gridStepsRow.holds Try.pinned (OpenSpec.ofChange gridStepsWrong)

/-- 'aditlaw3.GridOpen': WHATEVER THE INPUT: true; the input reads as it did. -/
def gridOpenSpec : ChangeSpec := { name := "gridOpen", fn := fun _ => fun
  | [d1, d2, d3] => { results := [.lit (.bool true)], args := [d1, d2, d3] }
  | _ => none }
def gridOpenRow : OpenClaim := { program := "ytjpcmpeigoikkaa", sum := "6edf8490859f813795c196c98807fe33acfb57805210e90595ec1d3154407460", func := "adit/aditlaw3.GridOpen", spec := "gridOpen", apart := false }
def GridOpenSaid : Prop := gridOpenRow.holds Try.pinned (OpenSpec.ofChange gridOpenSpec)

/-- ITS FALSE NEIGHBOUR: 'it returns false'. Refute it at one input. -/
def gridOpenWrong : ChangeSpec := { name := "gridOpen", fn := fun _ => fun
  | [d1, d2, d3] => { results := [.lit (.bool false)], args := [d1, d2, d3] }
  | _ => none }
def GridOpenWrongFalsely : Prop := gridOpenRow.holds Try.pinned (OpenSpec.ofChange gridOpenWrong)

/-- 'aditlaw3.GridWalls': WHATEVER THE INPUT: true; the input reads as it did. -/
def gridWallsSpec : ChangeSpec := { name := "gridWalls", fn := fun _ => fun
  | [d1, d2, d3] => { results := [.lit (.bool true)], args := [d1, d2, d3] }
  | _ => none }
def gridWallsRow : OpenClaim := { program := "ytjpcmpeigoikkaa", sum := "6edf8490859f813795c196c98807fe33acfb57805210e90595ec1d3154407460", func := "adit/aditlaw3.GridWalls", spec := "gridWalls", apart := false }
def GridWallsSaid : Prop := gridWallsRow.holds Try.pinned (OpenSpec.ofChange gridWallsSpec)

/-- ITS FALSE NEIGHBOUR: 'it returns false'. Refute it at one input. -/
def gridWallsWrong : ChangeSpec := { name := "gridWalls", fn := fun _ => fun
  | [d1, d2, d3] => { results := [.lit (.bool false)], args := [d1, d2, d3] }
  | _ => none }
def GridWallsWrongFalsely : Prop := gridWallsRow.holds Try.pinned (OpenSpec.ofChange gridWallsWrong)

/- THE SECOND FORM. 'bulk': how many values and letters a reading holds, each counted each time it is reached (what is shared counts as often as it is met; a slice's spare places count too). A statement '..UptoSaid' is the law's where the arguments, and the package variables that the reading takes, are together of bulk at most 1048576: NARROWER than '..Said'. Prove '..Said' where nothing that the law and all that it calls make is longer than what came in: it says more and counts as full. Else prove '..UptoSaid'. A law counts once. -/
mutual
def uptoBulk {H : Type} : DataW H → Nat
  | .lit (.string bytes) => bytes.length + 1
  | .lit _ => 1
  | .nil => 1
  | .ptr d => uptoBulk d + 1
  | .slice elems spare => uptoBulkAll elems + uptoBulkAll spare + 1
  | .agg parts => uptoBulkAll parts + 1
  | .iface _ d => uptoBulk d + 1
  | .map entries => uptoBulkEntries entries + 1
  | .held _ => 1
def uptoBulkAll {H : Type} : List (DataW H) → Nat
  | [] => 0
  | d :: r => uptoBulk d + uptoBulkAll r
def uptoBulkEntries {H : Type} : List (Lit × DataW H) → Nat
  | [] => 0
  | x :: r => uptoBulkEntry x + uptoBulkEntries r
def uptoBulkEntry {H : Type} : Lit × DataW H → Nat
  | (.string bytes, d) => bytes.length + uptoBulk d + 1
  | (_, d) => uptoBulk d + 1
 end
def uptoSmall : (H : Type) → List (DataW H) → Bool := fun _ ds => decide (uptoBulkAll ds ≤ 1048576)
def OpenSpec.upto (s : _root_.Go.ChangeSpec) : _root_.Go.OpenSpec := { _root_.Go.OpenSpec.ofChange s with cond := some uptoSmall }

/-- 'aditlaw3.GridLines', WHERE WHAT IT READS IS OF BULK AT MOST 1048576: true; the input reads as it did. -/
def gridLinesUptoRow : OpenClaim := { program := "ytjpcmpeigoikkaa", sum := "6edf8490859f813795c196c98807fe33acfb57805210e90595ec1d3154407460", func := "adit/aditlaw3.GridLines", spec := "gridLines", apart := false, narrowed := true }
def GridLinesUptoSaid : Prop := gridLinesUptoRow.holds Try.pinned (OpenSpec.upto gridLinesSpec)

/-- 'aditlaw3.GridSees', WHERE WHAT IT READS IS OF BULK AT MOST 1048576: true; the input reads as it did. -/
def gridSeesUptoRow : OpenClaim := { program := "ytjpcmpeigoikkaa", sum := "6edf8490859f813795c196c98807fe33acfb57805210e90595ec1d3154407460", func := "adit/aditlaw3.GridSees", spec := "gridSees", apart := false, narrowed := true }
def GridSeesUptoSaid : Prop := gridSeesUptoRow.holds Try.pinned (OpenSpec.upto gridSeesSpec)

/-- 'aditlaw3.GridFields', WHERE WHAT IT READS IS OF BULK AT MOST 1048576: true; the input reads as it did. -/
def gridFieldsUptoRow : OpenClaim := { program := "ytjpcmpeigoikkaa", sum := "6edf8490859f813795c196c98807fe33acfb57805210e90595ec1d3154407460", func := "adit/aditlaw3.GridFields", spec := "gridFields", apart := false, narrowed := true }
def GridFieldsUptoSaid : Prop := gridFieldsUptoRow.holds Try.pinned (OpenSpec.upto gridFieldsSpec)

/-- 'aditlaw3.GridSteps', WHERE WHAT IT READS IS OF BULK AT MOST 1048576: true; the input reads as it did. -/
def gridStepsUptoRow : OpenClaim := { program := "ytjpcmpeigoikkaa", sum := "6edf8490859f813795c196c98807fe33acfb57805210e90595ec1d3154407460", func := "adit/aditlaw3.GridSteps", spec := "gridSteps", apart := false, narrowed := true }
def GridStepsUptoSaid : Prop := gridStepsUptoRow.holds Try.pinned (OpenSpec.upto gridStepsSpec)

/-- 'aditlaw3.GridOpen', WHERE WHAT IT READS IS OF BULK AT MOST 1048576: true; the input reads as it did. -/
def gridOpenUptoRow : OpenClaim := { program := "ytjpcmpeigoikkaa", sum := "6edf8490859f813795c196c98807fe33acfb57805210e90595ec1d3154407460", func := "adit/aditlaw3.GridOpen", spec := "gridOpen", apart := false, narrowed := true }
def GridOpenUptoSaid : Prop := gridOpenUptoRow.holds Try.pinned (OpenSpec.upto gridOpenSpec)

/-- 'aditlaw3.GridWalls', WHERE WHAT IT READS IS OF BULK AT MOST 1048576: true; the input reads as it did. -/
def gridWallsUptoRow : OpenClaim := { program := "ytjpcmpeigoikkaa", sum := "6edf8490859f813795c196c98807fe33acfb57805210e90595ec1d3154407460", func := "adit/aditlaw3.GridWalls", spec := "gridWalls", apart := false, narrowed := true }
def GridWallsUptoSaid : Prop := gridWallsUptoRow.holds Try.pinned (OpenSpec.upto gridWallsSpec)

end Rows
end Go.Proofs.Ytjpcmpeigoikkaa

/-
  No cell of these rows narrows 'for every input' (looked for: loops, veiled, ifaces, maps, wideKeys, modest, calm, conditions, laid).
  DERIVED. THE GIVEN ROWS OF THIS SEAT. 5 by the template 'for every input the law returns true; each argument reads behind the call as it read before'; 0 by the template 'total and deterministic' (their statements: YtjmbmpeflhkngaaTotals.lean).
  GIVEN WITH THE SEED: the statements are not yours to turn. If you find one false, say at which input.
  Laid BY PROGRAM, IN A SANDBOX (cutbox-rows.mjs): the forced cells as the released guide's own fill.sh prints them over the translation 66c2853ef04f1fef… (all of the seat's roots in one cut). By AI agents, Wed Nov 11 2026. No macro, syntax, notation, axiom, sorry.
-/
import Derived.Test.YtjmbmpeflhkngaaChecked
import GoSem.Claim
import GoSem.ClaimJoined
import GoSem.ClaimMapViews
import Derived.JoinedTies
import Derived.KernelRfl
namespace Go.Proofs.Ytjmbmpeflhkngaa
/- THE CELL 'sum', in the pinned program and in every row, IS THE sha256 OF THE DUMP (.gsa) THAT YtjmbmpeflhkngaaProg.lean LOADS. Nothing in Lean hashes anything: it is a label: what it is worth is what the hold of that sum in a sandbox is worth. -/
noncomputable def Try.pinned : Pinned := { name := "ytjmbmpeflhkngaa", sum := "66c2853ef04f1fef6b4889ab130fa952b8eb3604b2442b3e83ccbb20e2127a3d", checked := Try.checked }
namespace Rows
def none {H : Type} : Left H := { results := [], args := [] }

/-- 'aditlaw9.MindsActs': WHATEVER THE INPUT: true; the input reads as it did. -/
def mindsActsSpec : ChangeSpec := { name := "mindsActs", fn := fun _ => fun
  | [d1, d2, d3, d4, d5, d6, d7] => { results := [.lit (.bool true)], args := [d1, d2, d3, d4, d5, d6, d7] }
  | _ => none }
def mindsActsRow : OpenClaim := { program := "ytjmbmpeflhkngaa", sum := "66c2853ef04f1fef6b4889ab130fa952b8eb3604b2442b3e83ccbb20e2127a3d", func := "adit/aditlaw9.MindsActs", spec := "mindsActs", unfollowed := true, recurses := true, apart := false }
def MindsActsSaid : Prop := mindsActsRow.holds Try.pinned (OpenSpec.ofChange mindsActsSpec)

/-- ITS FALSE NEIGHBOUR: 'it returns false'. Refute it at one input. -/
def mindsActsWrong : ChangeSpec := { name := "mindsActs", fn := fun _ => fun
  | [d1, d2, d3, d4, d5, d6, d7] => { results := [.lit (.bool false)], args := [d1, d2, d3, d4, d5, d6, d7] }
  | _ => none }
def MindsActsWrongFalsely : Prop := mindsActsRow.holds Try.pinned (OpenSpec.ofChange mindsActsWrong)

/-- 'aditlaw9.MindsMay': WHATEVER THE INPUT: true; the input reads as it did. -/
def mindsMaySpec : ChangeSpec := { name := "mindsMay", fn := fun _ => fun
  | [d1, d2, d3, d4, d5] => { results := [.lit (.bool true)], args := [d1, d2, d3, d4, d5] }
  | _ => none }
def mindsMayRow : OpenClaim := { program := "ytjmbmpeflhkngaa", sum := "66c2853ef04f1fef6b4889ab130fa952b8eb3604b2442b3e83ccbb20e2127a3d", func := "adit/aditlaw9.MindsMay", spec := "mindsMay", unfollowed := true, recurses := true, apart := false }
def MindsMaySaid : Prop := mindsMayRow.holds Try.pinned (OpenSpec.ofChange mindsMaySpec)

/-- ITS FALSE NEIGHBOUR: 'it returns false'. Refute it at one input. -/
def mindsMayWrong : ChangeSpec := { name := "mindsMay", fn := fun _ => fun
  | [d1, d2, d3, d4, d5] => { results := [.lit (.bool false)], args := [d1, d2, d3, d4, d5] }
  | _ => none }
def MindsMayWrongFalsely : Prop := mindsMayRow.holds Try.pinned (OpenSpec.ofChange mindsMayWrong)

/-- 'aditlaw9.MindsSight': WHATEVER THE INPUT: true; the input reads as it did. -/
def mindsSightSpec : ChangeSpec := { name := "mindsSight", fn := fun _ => fun
  | [d1, d2, d3, d4, d5] => { results := [.lit (.bool true)], args := [d1, d2, d3, d4, d5] }
  | _ => none }
def mindsSightRow : OpenClaim := { program := "ytjmbmpeflhkngaa", sum := "66c2853ef04f1fef6b4889ab130fa952b8eb3604b2442b3e83ccbb20e2127a3d", func := "adit/aditlaw9.MindsSight", spec := "mindsSight", unfollowed := true, recurses := true, apart := false }
def MindsSightSaid : Prop := mindsSightRow.holds Try.pinned (OpenSpec.ofChange mindsSightSpec)

/-- ITS FALSE NEIGHBOUR: 'it returns false'. Refute it at one input. -/
def mindsSightWrong : ChangeSpec := { name := "mindsSight", fn := fun _ => fun
  | [d1, d2, d3, d4, d5] => { results := [.lit (.bool false)], args := [d1, d2, d3, d4, d5] }
  | _ => none }
def MindsSightWrongFalsely : Prop := mindsSightRow.holds Try.pinned (OpenSpec.ofChange mindsSightWrong)

/-- 'aditlaw9.MindsGoal': WHATEVER THE INPUT: true; the input reads as it did. -/
def mindsGoalSpec : ChangeSpec := { name := "mindsGoal", fn := fun _ => fun
  | [d1, d2, d3] => { results := [.lit (.bool true)], args := [d1, d2, d3] }
  | _ => none }
def mindsGoalRow : OpenClaim := { program := "ytjmbmpeflhkngaa", sum := "66c2853ef04f1fef6b4889ab130fa952b8eb3604b2442b3e83ccbb20e2127a3d", func := "adit/aditlaw9.MindsGoal", spec := "mindsGoal", unfollowed := true, recurses := true, apart := false }
def MindsGoalSaid : Prop := mindsGoalRow.holds Try.pinned (OpenSpec.ofChange mindsGoalSpec)

/-- ITS FALSE NEIGHBOUR: 'it returns false'. Refute it at one input. -/
def mindsGoalWrong : ChangeSpec := { name := "mindsGoal", fn := fun _ => fun
  | [d1, d2, d3] => { results := [.lit (.bool false)], args := [d1, d2, d3] }
  | _ => none }
def MindsGoalWrongFalsely : Prop := mindsGoalRow.holds Try.pinned (OpenSpec.ofChange mindsGoalWrong)

/-- 'aditlaw9.MindsFirst': WHATEVER THE INPUT: true; the input reads as it did. -/
def mindsFirstSpec : ChangeSpec := { name := "mindsFirst", fn := fun _ => fun
  | [d1, d2, d3, d4, d5, d6] => { results := [.lit (.bool true)], args := [d1, d2, d3, d4, d5, d6] }
  | _ => none }
def mindsFirstRow : OpenClaim := { program := "ytjmbmpeflhkngaa", sum := "66c2853ef04f1fef6b4889ab130fa952b8eb3604b2442b3e83ccbb20e2127a3d", func := "adit/aditlaw9.MindsFirst", spec := "mindsFirst", unfollowed := true, recurses := true, apart := false }
def MindsFirstSaid : Prop := mindsFirstRow.holds Try.pinned (OpenSpec.ofChange mindsFirstSpec)

/-- ITS FALSE NEIGHBOUR: 'it returns false'. Refute it at one input. -/
def mindsFirstWrong : ChangeSpec := { name := "mindsFirst", fn := fun _ => fun
  | [d1, d2, d3, d4, d5, d6] => { results := [.lit (.bool false)], args := [d1, d2, d3, d4, d5, d6] }
  | _ => none }
def MindsFirstWrongFalsely : Prop := mindsFirstRow.holds Try.pinned (OpenSpec.ofChange mindsFirstWrong)

/- THE SECOND FORM. 'bulk': how many values and letters a reading holds, each counted each time it is reached (what is shared counts as often as it is met; a slice's spare places count too). A statement '..UptoSaid' is the law's where the arguments, and the package variables that the reading takes, are together of bulk at most 1048576: NARROWER than '..Said'. Prove '..Said' where nothing that the law and all that it calls make is longer than what came in: it says more and counts as full. Else prove '..UptoSaid'. A law counts once. -/
mutual
def uptoBulk {H : Type} : DataW H → Nat
  | .lit (.string bytes) => bytes.length + 1
  | .lit _ => 1
  | .nil => 1
  | .ptr d => uptoBulk d + 1
  | .slice elems spare => uptoBulkAll elems + uptoBulkAll spare + 1
  | .agg parts => uptoBulkAll parts + 1
  | .iface _ d => uptoBulk d + 1
  | .map entries => uptoBulkEntries entries + 1
  | .held _ => 1
def uptoBulkAll {H : Type} : List (DataW H) → Nat
  | [] => 0
  | d :: r => uptoBulk d + uptoBulkAll r
def uptoBulkEntries {H : Type} : List (Lit × DataW H) → Nat
  | [] => 0
  | x :: r => uptoBulkEntry x + uptoBulkEntries r
def uptoBulkEntry {H : Type} : Lit × DataW H → Nat
  | (.string bytes, d) => bytes.length + uptoBulk d + 1
  | (_, d) => uptoBulk d + 1
 end
def uptoSmall : (H : Type) → List (DataW H) → Bool := fun _ ds => decide (uptoBulkAll ds ≤ 1048576)
def OpenSpec.upto (s : _root_.Go.ChangeSpec) : _root_.Go.OpenSpec := { _root_.Go.OpenSpec.ofChange s with cond := some uptoSmall }

/-- 'aditlaw9.MindsActs', WHERE WHAT IT READS IS OF BULK AT MOST 1048576: true; the input reads as it did. -/
def mindsActsUptoRow : OpenClaim := { program := "ytjmbmpeflhkngaa", sum := "66c2853ef04f1fef6b4889ab130fa952b8eb3604b2442b3e83ccbb20e2127a3d", func := "adit/aditlaw9.MindsActs", spec := "mindsActs", unfollowed := true, recurses := true, apart := false, narrowed := true }
def MindsActsUptoSaid : Prop := mindsActsUptoRow.holds Try.pinned (OpenSpec.upto mindsActsSpec)

/-- 'aditlaw9.MindsMay', WHERE WHAT IT READS IS OF BULK AT MOST 1048576: true; the input reads as it did. -/
def mindsMayUptoRow : OpenClaim := { program := "ytjmbmpeflhkngaa", sum := "66c2853ef04f1fef6b4889ab130fa952b8eb3604b2442b3e83ccbb20e2127a3d", func := "adit/aditlaw9.MindsMay", spec := "mindsMay", unfollowed := true, recurses := true, apart := false, narrowed := true }
def MindsMayUptoSaid : Prop := mindsMayUptoRow.holds Try.pinned (OpenSpec.upto mindsMaySpec)

/-- 'aditlaw9.MindsSight', WHERE WHAT IT READS IS OF BULK AT MOST 1048576: true; the input reads as it did. -/
def mindsSightUptoRow : OpenClaim := { program := "ytjmbmpeflhkngaa", sum := "66c2853ef04f1fef6b4889ab130fa952b8eb3604b2442b3e83ccbb20e2127a3d", func := "adit/aditlaw9.MindsSight", spec := "mindsSight", unfollowed := true, recurses := true, apart := false, narrowed := true }
def MindsSightUptoSaid : Prop := mindsSightUptoRow.holds Try.pinned (OpenSpec.upto mindsSightSpec)

/-- 'aditlaw9.MindsGoal', WHERE WHAT IT READS IS OF BULK AT MOST 1048576: true; the input reads as it did. -/
def mindsGoalUptoRow : OpenClaim := { program := "ytjmbmpeflhkngaa", sum := "66c2853ef04f1fef6b4889ab130fa952b8eb3604b2442b3e83ccbb20e2127a3d", func := "adit/aditlaw9.MindsGoal", spec := "mindsGoal", unfollowed := true, recurses := true, apart := false, narrowed := true }
def MindsGoalUptoSaid : Prop := mindsGoalUptoRow.holds Try.pinned (OpenSpec.upto mindsGoalSpec)

/-- 'aditlaw9.MindsFirst', WHERE WHAT IT READS IS OF BULK AT MOST 1048576: true; the input reads as it did. -/
def mindsFirstUptoRow : OpenClaim := { program := "ytjmbmpeflhkngaa", sum := "66c2853ef04f1fef6b4889ab130fa952b8eb3604b2442b3e83ccbb20e2127a3d", func := "adit/aditlaw9.MindsFirst", spec := "mindsFirst", unfollowed := true, recurses := true, apart := false, narrowed := true }
def MindsFirstUptoSaid : Prop := mindsFirstUptoRow.holds Try.pinned (OpenSpec.upto mindsFirstSpec)

end Rows
end Go.Proofs.Ytjmbmpeflhkngaa

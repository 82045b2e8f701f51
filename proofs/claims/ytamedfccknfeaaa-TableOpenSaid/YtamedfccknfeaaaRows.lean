/-
  No cell of these rows narrows 'for every input' (looked for: loops, veiled, ifaces, maps, wideKeys, modest, calm, conditions, laid).
  DERIVED. THE GIVEN ROWS OF THIS SEAT. 7 by the template 'for every input the law returns true; each argument reads behind the call as it read before'; 0 by the template 'total and deterministic' (their statements: YtamedfccknfeaaaTotals.lean).
  GIVEN WITH THE SEED: the statements are not yours to turn. If you find one false, say at which input.
  Laid BY PROGRAM, IN A SANDBOX (cutbox-rows.mjs): the forced cells as the released guide's own fill.sh prints them over the translation 87ea45e5ac65bf73… (all of the seat's roots in one cut). By AI agents, Wed Nov 11 2026. No macro, syntax, notation, axiom, sorry.
-/
import Derived.Test.YtamedfccknfeaaaChecked
import GoSem.Claim
import GoSem.ClaimJoined
import GoSem.ClaimMapViews
import Derived.JoinedTies
import Derived.KernelRfl
namespace Go.Proofs.Ytamedfccknfeaaa
/- THE CELL 'sum', in the pinned program and in every row, IS THE sha256 OF THE DUMP (.gsa) THAT YtamedfccknfeaaaProg.lean LOADS. Nothing in Lean hashes anything: it is a label: what it is worth is what the hold of that sum in a sandbox is worth. -/
noncomputable def Try.pinned : Pinned := { name := "ytamedfccknfeaaa", sum := "87ea45e5ac65bf73c8c12f4198a3b14719438aa5aee0a8d18c677474ca78e2d0", checked := Try.checked }
namespace Rows
def none {H : Type} : Left H := { results := [], args := [] }

/-- 'aditlaw17.RingsGuess': WHATEVER THE INPUT: true; the input reads as it did. -/
def ringsGuessSpec : ChangeSpec := { name := "ringsGuess", fn := fun _ => fun
  | [d1, d2, d3] => { results := [.lit (.bool true)], args := [d1, d2, d3] }
  | _ => none }
def ringsGuessRow : OpenClaim := { program := "ytamedfccknfeaaa", sum := "87ea45e5ac65bf73c8c12f4198a3b14719438aa5aee0a8d18c677474ca78e2d0", func := "adit/aditlaw17.RingsGuess", spec := "ringsGuess", apart := false }
def RingsGuessSaid : Prop := ringsGuessRow.holds Try.pinned (OpenSpec.ofChange ringsGuessSpec)

/-- ITS FALSE NEIGHBOUR: 'it returns false'. Refute it at one input. -/
def ringsGuessWrong : ChangeSpec := { name := "ringsGuess", fn := fun _ => fun
  | [d1, d2, d3] => { results := [.lit (.bool false)], args := [d1, d2, d3] }
  | _ => none }
def RingsGuessWrongFalsely : Prop := ringsGuessRow.holds Try.pinned (OpenSpec.ofChange ringsGuessWrong)

/-- 'aditlaw17.RingsJoin': WHATEVER THE INPUT: true; the input reads as it did. -/
def ringsJoinSpec : ChangeSpec := { name := "ringsJoin", fn := fun _ => fun
  | [d1, d2, d3, d4] => { results := [.lit (.bool true)], args := [d1, d2, d3, d4] }
  | _ => none }
def ringsJoinRow : OpenClaim := { program := "ytamedfccknfeaaa", sum := "87ea45e5ac65bf73c8c12f4198a3b14719438aa5aee0a8d18c677474ca78e2d0", func := "adit/aditlaw17.RingsJoin", spec := "ringsJoin", apart := false }
def RingsJoinSaid : Prop := ringsJoinRow.holds Try.pinned (OpenSpec.ofChange ringsJoinSpec)

/-- ITS FALSE NEIGHBOUR: 'it returns false'. Refute it at one input. -/
def ringsJoinWrong : ChangeSpec := { name := "ringsJoin", fn := fun _ => fun
  | [d1, d2, d3, d4] => { results := [.lit (.bool false)], args := [d1, d2, d3, d4] }
  | _ => none }
def RingsJoinWrongFalsely : Prop := ringsJoinRow.holds Try.pinned (OpenSpec.ofChange ringsJoinWrong)

/-- 'aditlaw17.RingsForget': WHATEVER THE INPUT: true; the input reads as it did. -/
def ringsForgetSpec : ChangeSpec := { name := "ringsForget", fn := fun _ => fun
  | [d1, d2, d3, d4] => { results := [.lit (.bool true)], args := [d1, d2, d3, d4] }
  | _ => none }
def ringsForgetRow : OpenClaim := { program := "ytamedfccknfeaaa", sum := "87ea45e5ac65bf73c8c12f4198a3b14719438aa5aee0a8d18c677474ca78e2d0", func := "adit/aditlaw17.RingsForget", spec := "ringsForget", apart := false }
def RingsForgetSaid : Prop := ringsForgetRow.holds Try.pinned (OpenSpec.ofChange ringsForgetSpec)

/-- ITS FALSE NEIGHBOUR: 'it returns false'. Refute it at one input. -/
def ringsForgetWrong : ChangeSpec := { name := "ringsForget", fn := fun _ => fun
  | [d1, d2, d3, d4] => { results := [.lit (.bool false)], args := [d1, d2, d3, d4] }
  | _ => none }
def RingsForgetWrongFalsely : Prop := ringsForgetRow.holds Try.pinned (OpenSpec.ofChange ringsForgetWrong)

/-- 'aditlaw5.EntsFull': WHATEVER THE INPUT: true; the input reads as it did. -/
def entsFullSpec : ChangeSpec := { name := "entsFull", fn := fun _ => fun
  | [d1, d2] => { results := [.lit (.bool true)], args := [d1, d2] }
  | _ => none }
def entsFullRow : OpenClaim := { program := "ytamedfccknfeaaa", sum := "87ea45e5ac65bf73c8c12f4198a3b14719438aa5aee0a8d18c677474ca78e2d0", func := "adit/aditlaw5.EntsFull", spec := "entsFull", unfollowed := true, recurses := true, apart := false }
def EntsFullSaid : Prop := entsFullRow.holds Try.pinned (OpenSpec.ofChange entsFullSpec)

/-- ITS FALSE NEIGHBOUR: 'it returns false'. Refute it at one input. -/
def entsFullWrong : ChangeSpec := { name := "entsFull", fn := fun _ => fun
  | [d1, d2] => { results := [.lit (.bool false)], args := [d1, d2] }
  | _ => none }
def EntsFullWrongFalsely : Prop := entsFullRow.holds Try.pinned (OpenSpec.ofChange entsFullWrong)

/-- 'aditlaw5.EntsTurns': WHATEVER THE INPUT: true; the input reads as it did. -/
def entsTurnsSpec : ChangeSpec := { name := "entsTurns", fn := fun _ => fun
  | [d] => { results := [.lit (.bool true)], args := [d] }
  | _ => none }
def entsTurnsRow : OpenClaim := { program := "ytamedfccknfeaaa", sum := "87ea45e5ac65bf73c8c12f4198a3b14719438aa5aee0a8d18c677474ca78e2d0", func := "adit/aditlaw5.EntsTurns", spec := "entsTurns", unfollowed := true, recurses := true, apart := false }
def EntsTurnsSaid : Prop := entsTurnsRow.holds Try.pinned (OpenSpec.ofChange entsTurnsSpec)

/-- ITS FALSE NEIGHBOUR: 'it returns false'. Refute it at one input. -/
def entsTurnsWrong : ChangeSpec := { name := "entsTurns", fn := fun _ => fun
  | [d] => { results := [.lit (.bool false)], args := [d] }
  | _ => none }
def EntsTurnsWrongFalsely : Prop := entsTurnsRow.holds Try.pinned (OpenSpec.ofChange entsTurnsWrong)

/-- 'aditlaw16.TableOpen': WHATEVER THE INPUT: true; the input reads as it did. -/
def tableOpenSpec : ChangeSpec := { name := "tableOpen", fn := fun _ => fun
  | [d1, d2, d3] => { results := [.lit (.bool true)], args := [d1, d2, d3] }
  | _ => none }
def tableOpenRow : OpenClaim := { program := "ytamedfccknfeaaa", sum := "87ea45e5ac65bf73c8c12f4198a3b14719438aa5aee0a8d18c677474ca78e2d0", func := "adit/aditlaw16.TableOpen", spec := "tableOpen", unfollowed := true, recurses := true, apart := false }
def TableOpenSaid : Prop := tableOpenRow.holds Try.pinned (OpenSpec.ofChange tableOpenSpec)

/-- ITS FALSE NEIGHBOUR: 'it returns false'. Refute it at one input. -/
def tableOpenWrong : ChangeSpec := { name := "tableOpen", fn := fun _ => fun
  | [d1, d2, d3] => { results := [.lit (.bool false)], args := [d1, d2, d3] }
  | _ => none }
def TableOpenWrongFalsely : Prop := tableOpenRow.holds Try.pinned (OpenSpec.ofChange tableOpenWrong)

/-- 'aditlaw16.TableLives': WHATEVER THE INPUT: true; the input reads as it did. -/
def tableLivesSpec : ChangeSpec := { name := "tableLives", fn := fun _ => fun
  | [d1, d2] => { results := [.lit (.bool true)], args := [d1, d2] }
  | _ => none }
def tableLivesRow : OpenClaim := { program := "ytamedfccknfeaaa", sum := "87ea45e5ac65bf73c8c12f4198a3b14719438aa5aee0a8d18c677474ca78e2d0", func := "adit/aditlaw16.TableLives", spec := "tableLives", unfollowed := true, recurses := true, apart := false }
def TableLivesSaid : Prop := tableLivesRow.holds Try.pinned (OpenSpec.ofChange tableLivesSpec)

/-- ITS FALSE NEIGHBOUR: 'it returns false'. Refute it at one input. -/
def tableLivesWrong : ChangeSpec := { name := "tableLives", fn := fun _ => fun
  | [d1, d2] => { results := [.lit (.bool false)], args := [d1, d2] }
  | _ => none }
def TableLivesWrongFalsely : Prop := tableLivesRow.holds Try.pinned (OpenSpec.ofChange tableLivesWrong)

/- THE SECOND FORM. 'bulk': how many values and letters a reading holds, each counted each time it is reached (what is shared counts as often as it is met; a slice's spare places count too). A statement '..UptoSaid' is the law's where the arguments, and the package variables that the reading takes, are together of bulk at most 1048576: NARROWER than '..Said'. Prove '..Said' where nothing that the law and all that it calls make is longer than what came in: it says more and counts as full. Else prove '..UptoSaid'. A law counts once. -/
mutual
def uptoBulk {H : Type} : DataW H → Nat
  | .lit (.string bytes) => bytes.length + 1
  | .lit _ => 1
  | .nil => 1
  | .ptr d => uptoBulk d + 1
  | .slice elems spare => uptoBulkAll elems + uptoBulkAll spare + 1
  | .agg parts => uptoBulkAll parts + 1
  | .iface _ d => uptoBulk d + 1
  | .map entries => uptoBulkEntries entries + 1
  | .held _ => 1
def uptoBulkAll {H : Type} : List (DataW H) → Nat
  | [] => 0
  | d :: r => uptoBulk d + uptoBulkAll r
def uptoBulkEntries {H : Type} : List (Lit × DataW H) → Nat
  | [] => 0
  | x :: r => uptoBulkEntry x + uptoBulkEntries r
def uptoBulkEntry {H : Type} : Lit × DataW H → Nat
  | (.string bytes, d) => bytes.length + uptoBulk d + 1
  | (_, d) => uptoBulk d + 1
 end
def uptoSmall : (H : Type) → List (DataW H) → Bool := fun _ ds => decide (uptoBulkAll ds ≤ 1048576)
def OpenSpec.upto (s : _root_.Go.ChangeSpec) : _root_.Go.OpenSpec := { _root_.Go.OpenSpec.ofChange s with cond := some uptoSmall }

/-- 'aditlaw17.RingsGuess', WHERE WHAT IT READS IS OF BULK AT MOST 1048576: true; the input reads as it did. -/
def ringsGuessUptoRow : OpenClaim := { program := "ytamedfccknfeaaa", sum := "87ea45e5ac65bf73c8c12f4198a3b14719438aa5aee0a8d18c677474ca78e2d0", func := "adit/aditlaw17.RingsGuess", spec := "ringsGuess", apart := false, narrowed := true }
def RingsGuessUptoSaid : Prop := ringsGuessUptoRow.holds Try.pinned (OpenSpec.upto ringsGuessSpec)

/-- 'aditlaw17.RingsJoin', WHERE WHAT IT READS IS OF BULK AT MOST 1048576: true; the input reads as it did. -/
def ringsJoinUptoRow : OpenClaim := { program := "ytamedfccknfeaaa", sum := "87ea45e5ac65bf73c8c12f4198a3b14719438aa5aee0a8d18c677474ca78e2d0", func := "adit/aditlaw17.RingsJoin", spec := "ringsJoin", apart := false, narrowed := true }
def RingsJoinUptoSaid : Prop := ringsJoinUptoRow.holds Try.pinned (OpenSpec.upto ringsJoinSpec)

/-- 'aditlaw17.RingsForget', WHERE WHAT IT READS IS OF BULK AT MOST 1048576: true; the input reads as it did. -/
def ringsForgetUptoRow : OpenClaim := { program := "ytamedfccknfeaaa", sum := "87ea45e5ac65bf73c8c12f4198a3b14719438aa5aee0a8d18c677474ca78e2d0", func := "adit/aditlaw17.RingsForget", spec := "ringsForget", apart := false, narrowed := true }
def RingsForgetUptoSaid : Prop := ringsForgetUptoRow.holds Try.pinned (OpenSpec.upto ringsForgetSpec)

/-- 'aditlaw5.EntsFull', WHERE WHAT IT READS IS OF BULK AT MOST 1048576: true; the input reads as it did. -/
def entsFullUptoRow : OpenClaim := { program := "ytamedfccknfeaaa", sum := "87ea45e5ac65bf73c8c12f4198a3b14719438aa5aee0a8d18c677474ca78e2d0", func := "adit/aditlaw5.EntsFull", spec := "entsFull", unfollowed := true, recurses := true, apart := false, narrowed := true }
def EntsFullUptoSaid : Prop := entsFullUptoRow.holds Try.pinned (OpenSpec.upto entsFullSpec)

/-- 'aditlaw5.EntsTurns', WHERE WHAT IT READS IS OF BULK AT MOST 1048576: true; the input reads as it did. -/
def entsTurnsUptoRow : OpenClaim := { program := "ytamedfccknfeaaa", sum := "87ea45e5ac65bf73c8c12f4198a3b14719438aa5aee0a8d18c677474ca78e2d0", func := "adit/aditlaw5.EntsTurns", spec := "entsTurns", unfollowed := true, recurses := true, apart := false, narrowed := true }
def EntsTurnsUptoSaid : Prop := entsTurnsUptoRow.holds Try.pinned (OpenSpec.upto entsTurnsSpec)

/-- 'aditlaw16.TableOpen', WHERE WHAT IT READS IS OF BULK AT MOST 1048576: true; the input reads as it did. -/
def tableOpenUptoRow : OpenClaim := { program := "ytamedfccknfeaaa", sum := "87ea45e5ac65bf73c8c12f4198a3b14719438aa5aee0a8d18c677474ca78e2d0", func := "adit/aditlaw16.TableOpen", spec := "tableOpen", unfollowed := true, recurses := true, apart := false, narrowed := true }
def TableOpenUptoSaid : Prop := tableOpenUptoRow.holds Try.pinned (OpenSpec.upto tableOpenSpec)

/-- 'aditlaw16.TableLives', WHERE WHAT IT READS IS OF BULK AT MOST 1048576: true; the input reads as it did. -/
def tableLivesUptoRow : OpenClaim := { program := "ytamedfccknfeaaa", sum := "87ea45e5ac65bf73c8c12f4198a3b14719438aa5aee0a8d18c677474ca78e2d0", func := "adit/aditlaw16.TableLives", spec := "tableLives", unfollowed := true, recurses := true, apart := false, narrowed := true }
def TableLivesUptoSaid : Prop := tableLivesUptoRow.holds Try.pinned (OpenSpec.upto tableLivesSpec)

end Rows
end Go.Proofs.Ytamedfccknfeaaa

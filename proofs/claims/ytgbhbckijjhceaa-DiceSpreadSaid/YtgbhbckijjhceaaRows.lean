/-
  No cell of these rows narrows 'for every input' (looked for: loops, veiled, ifaces, maps, wideKeys, modest, calm, conditions, laid).
  DERIVED. THE GIVEN ROWS OF THIS SEAT. 3 by the template 'for every input the law returns true; each argument reads behind the call as it read before'; 0 by the template 'total and deterministic' (their statements: YtgbhbckijjhceaaTotals.lean).
  GIVEN WITH THE SEED: the statements are not yours to turn. If you find one false, say at which input.
  Laid BY PROGRAM, IN A SANDBOX (cutbox-rows.mjs): the forced cells as the released guide's own fill.sh prints them over the translation d0a64c092e41f7b1… (all of the seat's roots in one cut). By AI agents, Wed Nov 11 2026. No macro, syntax, notation, axiom, sorry.
-/
import Derived.Test.YtgbhbckijjhceaaChecked
import GoSem.Claim
import GoSem.ClaimJoined
import GoSem.ClaimMapViews
import Derived.JoinedTies
import Derived.KernelRfl
namespace Go.Proofs.Ytgbhbckijjhceaa
/- THE CELL 'sum', in the pinned program and in every row, IS THE sha256 OF THE DUMP (.gsa) THAT YtgbhbckijjhceaaProg.lean LOADS. Nothing in Lean hashes anything: it is a label: what it is worth is what the hold of that sum in a sandbox is worth. -/
noncomputable def Try.pinned : Pinned := { name := "ytgbhbckijjhceaa", sum := "d0a64c092e41f7b129edbae2b5794e6d627029adf054ffca64903bc5dd02082e", checked := Try.checked }
namespace Rows
def none {H : Type} : Left H := { results := [], args := [] }

/-- 'aditlaw2.DiceMixes': WHATEVER THE INPUT: true; the input reads as it did. -/
def diceMixesSpec : ChangeSpec := { name := "diceMixes", fn := fun _ => fun
  | [d1, d2, d3] => { results := [.lit (.bool true)], args := [d1, d2, d3] }
  | _ => none }
def diceMixesRow : OpenClaim := { program := "ytgbhbckijjhceaa", sum := "d0a64c092e41f7b129edbae2b5794e6d627029adf054ffca64903bc5dd02082e", func := "adit/aditlaw2.DiceMixes", spec := "diceMixes", apart := false }
def DiceMixesSaid : Prop := diceMixesRow.holds Try.pinned (OpenSpec.ofChange diceMixesSpec)

/-- ITS FALSE NEIGHBOUR: 'it returns false'. Refute it at one input. -/
def diceMixesWrong : ChangeSpec := { name := "diceMixes", fn := fun _ => fun
  | [d1, d2, d3] => { results := [.lit (.bool false)], args := [d1, d2, d3] }
  | _ => none }
def DiceMixesWrongFalsely : Prop := diceMixesRow.holds Try.pinned (OpenSpec.ofChange diceMixesWrong)

/-- 'aditlaw2.DiceSpread': WHATEVER THE INPUT: true; the input reads as it did. -/
def diceSpreadSpec : ChangeSpec := { name := "diceSpread", fn := fun _ => fun
  | [d1, d2, d3] => { results := [.lit (.bool true)], args := [d1, d2, d3] }
  | _ => none }
def diceSpreadRow : OpenClaim := { program := "ytgbhbckijjhceaa", sum := "d0a64c092e41f7b129edbae2b5794e6d627029adf054ffca64903bc5dd02082e", func := "adit/aditlaw2.DiceSpread", spec := "diceSpread", apart := false }
def DiceSpreadSaid : Prop := diceSpreadRow.holds Try.pinned (OpenSpec.ofChange diceSpreadSpec)

/-- ITS FALSE NEIGHBOUR: 'it returns false'. Refute it at one input. -/
def diceSpreadWrong : ChangeSpec := { name := "diceSpread", fn := fun _ => fun
  | [d1, d2, d3] => { results := [.lit (.bool false)], args := [d1, d2, d3] }
  | _ => none }
def DiceSpreadWrongFalsely : Prop := diceSpreadRow.holds Try.pinned (OpenSpec.ofChange diceSpreadWrong)

/-- 'aditlaw2.DiceSides': WHATEVER THE INPUT: true; the input reads as it did. -/
def diceSidesSpec : ChangeSpec := { name := "diceSides", fn := fun _ => fun
  | [d1, d2, d3] => { results := [.lit (.bool true)], args := [d1, d2, d3] }
  | _ => none }
def diceSidesRow : OpenClaim := { program := "ytgbhbckijjhceaa", sum := "d0a64c092e41f7b129edbae2b5794e6d627029adf054ffca64903bc5dd02082e", func := "adit/aditlaw2.DiceSides", spec := "diceSides", apart := false }
def DiceSidesSaid : Prop := diceSidesRow.holds Try.pinned (OpenSpec.ofChange diceSidesSpec)

/-- ITS FALSE NEIGHBOUR: 'it returns false'. Refute it at one input. -/
def diceSidesWrong : ChangeSpec := { name := "diceSides", fn := fun _ => fun
  | [d1, d2, d3] => { results := [.lit (.bool false)], args := [d1, d2, d3] }
  | _ => none }
def DiceSidesWrongFalsely : Prop := diceSidesRow.holds Try.pinned (OpenSpec.ofChange diceSidesWrong)

/- THE SECOND FORM. 'bulk': how many values and letters a reading holds, each counted each time it is reached (what is shared counts as often as it is met; a slice's spare places count too). A statement '..UptoSaid' is the law's where the arguments, and the package variables that the reading takes, are together of bulk at most 1048576: NARROWER than '..Said'. Prove '..Said' where nothing that the law and all that it calls make is longer than what came in: it says more and counts as full. Else prove '..UptoSaid'. A law counts once. -/
mutual
def uptoBulk {H : Type} : DataW H → Nat
  | .lit (.string bytes) => bytes.length + 1
  | .lit _ => 1
  | .nil => 1
  | .ptr d => uptoBulk d + 1
  | .slice elems spare => uptoBulkAll elems + uptoBulkAll spare + 1
  | .agg parts => uptoBulkAll parts + 1
  | .iface _ d => uptoBulk d + 1
  | .map entries => uptoBulkEntries entries + 1
  | .held _ => 1
def uptoBulkAll {H : Type} : List (DataW H) → Nat
  | [] => 0
  | d :: r => uptoBulk d + uptoBulkAll r
def uptoBulkEntries {H : Type} : List (Lit × DataW H) → Nat
  | [] => 0
  | x :: r => uptoBulkEntry x + uptoBulkEntries r
def uptoBulkEntry {H : Type} : Lit × DataW H → Nat
  | (.string bytes, d) => bytes.length + uptoBulk d + 1
  | (_, d) => uptoBulk d + 1
 end
def uptoSmall : (H : Type) → List (DataW H) → Bool := fun _ ds => decide (uptoBulkAll ds ≤ 1048576)
def OpenSpec.upto (s : _root_.Go.ChangeSpec) : _root_.Go.OpenSpec := { _root_.Go.OpenSpec.ofChange s with cond := some uptoSmall }

/-- 'aditlaw2.DiceMixes', WHERE WHAT IT READS IS OF BULK AT MOST 1048576: true; the input reads as it did. -/
def diceMixesUptoRow : OpenClaim := { program := "ytgbhbckijjhceaa", sum := "d0a64c092e41f7b129edbae2b5794e6d627029adf054ffca64903bc5dd02082e", func := "adit/aditlaw2.DiceMixes", spec := "diceMixes", apart := false, narrowed := true }
def DiceMixesUptoSaid : Prop := diceMixesUptoRow.holds Try.pinned (OpenSpec.upto diceMixesSpec)

/-- 'aditlaw2.DiceSpread', WHERE WHAT IT READS IS OF BULK AT MOST 1048576: true; the input reads as it did. -/
def diceSpreadUptoRow : OpenClaim := { program := "ytgbhbckijjhceaa", sum := "d0a64c092e41f7b129edbae2b5794e6d627029adf054ffca64903bc5dd02082e", func := "adit/aditlaw2.DiceSpread", spec := "diceSpread", apart := false, narrowed := true }
def DiceSpreadUptoSaid : Prop := diceSpreadUptoRow.holds Try.pinned (OpenSpec.upto diceSpreadSpec)

/-- 'aditlaw2.DiceSides', WHERE WHAT IT READS IS OF BULK AT MOST 1048576: true; the input reads as it did. -/
def diceSidesUptoRow : OpenClaim := { program := "ytgbhbckijjhceaa", sum := "d0a64c092e41f7b129edbae2b5794e6d627029adf054ffca64903bc5dd02082e", func := "adit/aditlaw2.DiceSides", spec := "diceSides", apart := false, narrowed := true }
def DiceSidesUptoSaid : Prop := diceSidesUptoRow.holds Try.pinned (OpenSpec.upto diceSidesSpec)

end Rows
end Go.Proofs.Ytgbhbckijjhceaa

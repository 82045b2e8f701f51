/-
  No cell of these rows narrows 'for every input' (looked for: loops, veiled, ifaces, maps, wideKeys, modest, calm, conditions, laid).
  DERIVED. THE GIVEN ROWS OF THIS SEAT. 4 by the template 'for every input the law returns true; each argument reads behind the call as it read before'; 0 by the template 'total and deterministic' (their statements: YteaglfpppihpjaaTotals.lean).
  GIVEN WITH THE SEED: the statements are not yours to turn. If you find one false, say at which input.
  Laid BY PROGRAM, IN A SANDBOX (cutbox-rows.mjs): the forced cells as the released guide's own fill.sh prints them over the translation 44cb1a7639743dea… (all of the seat's roots in one cut). By AI agents, Wed Nov 11 2026. No macro, syntax, notation, axiom, sorry.
-/
import Derived.Test.YteaglfpppihpjaaChecked
import GoSem.Claim
import GoSem.ClaimJoined
import GoSem.ClaimMapViews
import Derived.JoinedTies
import Derived.KernelRfl
namespace Go.Proofs.Yteaglfpppihpjaa
/- THE CELL 'sum', in the pinned program and in every row, IS THE sha256 OF THE DUMP (.gsa) THAT YteaglfpppihpjaaProg.lean LOADS. Nothing in Lean hashes anything: it is a label: what it is worth is what the hold of that sum in a sandbox is worth. -/
noncomputable def Try.pinned : Pinned := { name := "yteaglfpppihpjaa", sum := "44cb1a7639743dea8f7103cced735a2dbfa44cbdbff62ae04365164e0869b389", checked := Try.checked }
namespace Rows
def none {H : Type} : Left H := { results := [], args := [] }

/-- 'aditlaw8.FightArms': WHATEVER THE INPUT: true; the input reads as it did. -/
def fightArmsSpec : ChangeSpec := { name := "fightArms", fn := fun _ => fun
  | [d1, d2, d3, d4, d5, d6] => { results := [.lit (.bool true)], args := [d1, d2, d3, d4, d5, d6] }
  | _ => none }
def fightArmsRow : OpenClaim := { program := "yteaglfpppihpjaa", sum := "44cb1a7639743dea8f7103cced735a2dbfa44cbdbff62ae04365164e0869b389", func := "adit/aditlaw8.FightArms", spec := "fightArms", unfollowed := true, recurses := true, apart := false }
def FightArmsSaid : Prop := fightArmsRow.holds Try.pinned (OpenSpec.ofChange fightArmsSpec)

/-- ITS FALSE NEIGHBOUR: 'it returns false'. Refute it at one input. -/
def fightArmsWrong : ChangeSpec := { name := "fightArms", fn := fun _ => fun
  | [d1, d2, d3, d4, d5, d6] => { results := [.lit (.bool false)], args := [d1, d2, d3, d4, d5, d6] }
  | _ => none }
def FightArmsWrongFalsely : Prop := fightArmsRow.holds Try.pinned (OpenSpec.ofChange fightArmsWrong)

/-- 'aditlaw8.FightBlows': WHATEVER THE INPUT: true; the input reads as it did. -/
def fightBlowsSpec : ChangeSpec := { name := "fightBlows", fn := fun _ => fun
  | [d1, d2, d3, d4, d5, d6, d7] => { results := [.lit (.bool true)], args := [d1, d2, d3, d4, d5, d6, d7] }
  | _ => none }
def fightBlowsRow : OpenClaim := { program := "yteaglfpppihpjaa", sum := "44cb1a7639743dea8f7103cced735a2dbfa44cbdbff62ae04365164e0869b389", func := "adit/aditlaw8.FightBlows", spec := "fightBlows", unfollowed := true, recurses := true, apart := false }
def FightBlowsSaid : Prop := fightBlowsRow.holds Try.pinned (OpenSpec.ofChange fightBlowsSpec)

/-- ITS FALSE NEIGHBOUR: 'it returns false'. Refute it at one input. -/
def fightBlowsWrong : ChangeSpec := { name := "fightBlows", fn := fun _ => fun
  | [d1, d2, d3, d4, d5, d6, d7] => { results := [.lit (.bool false)], args := [d1, d2, d3, d4, d5, d6, d7] }
  | _ => none }
def FightBlowsWrongFalsely : Prop := fightBlowsRow.holds Try.pinned (OpenSpec.ofChange fightBlowsWrong)

/-- 'aditlaw8.FightBounds': WHATEVER THE INPUT: true; the input reads as it did. -/
def fightBoundsSpec : ChangeSpec := { name := "fightBounds", fn := fun _ => fun
  | [d1, d2, d3, d4, d5, d6, d7] => { results := [.lit (.bool true)], args := [d1, d2, d3, d4, d5, d6, d7] }
  | _ => none }
def fightBoundsRow : OpenClaim := { program := "yteaglfpppihpjaa", sum := "44cb1a7639743dea8f7103cced735a2dbfa44cbdbff62ae04365164e0869b389", func := "adit/aditlaw8.FightBounds", spec := "fightBounds", unfollowed := true, recurses := true, apart := false }
def FightBoundsSaid : Prop := fightBoundsRow.holds Try.pinned (OpenSpec.ofChange fightBoundsSpec)

/-- ITS FALSE NEIGHBOUR: 'it returns false'. Refute it at one input. -/
def fightBoundsWrong : ChangeSpec := { name := "fightBounds", fn := fun _ => fun
  | [d1, d2, d3, d4, d5, d6, d7] => { results := [.lit (.bool false)], args := [d1, d2, d3, d4, d5, d6, d7] }
  | _ => none }
def FightBoundsWrongFalsely : Prop := fightBoundsRow.holds Try.pinned (OpenSpec.ofChange fightBoundsWrong)

/-- 'aditlaw8.FightPoison': WHATEVER THE INPUT: true; the input reads as it did. -/
def fightPoisonSpec : ChangeSpec := { name := "fightPoison", fn := fun _ => fun
  | [d1, d2, d3, d4, d5] => { results := [.lit (.bool true)], args := [d1, d2, d3, d4, d5] }
  | _ => none }
def fightPoisonRow : OpenClaim := { program := "yteaglfpppihpjaa", sum := "44cb1a7639743dea8f7103cced735a2dbfa44cbdbff62ae04365164e0869b389", func := "adit/aditlaw8.FightPoison", spec := "fightPoison", unfollowed := true, recurses := true, apart := false }
def FightPoisonSaid : Prop := fightPoisonRow.holds Try.pinned (OpenSpec.ofChange fightPoisonSpec)

/-- ITS FALSE NEIGHBOUR: 'it returns false'. Refute it at one input. -/
def fightPoisonWrong : ChangeSpec := { name := "fightPoison", fn := fun _ => fun
  | [d1, d2, d3, d4, d5] => { results := [.lit (.bool false)], args := [d1, d2, d3, d4, d5] }
  | _ => none }
def FightPoisonWrongFalsely : Prop := fightPoisonRow.holds Try.pinned (OpenSpec.ofChange fightPoisonWrong)

/- THE SECOND FORM. 'bulk': how many values and letters a reading holds, each counted each time it is reached (what is shared counts as often as it is met; a slice's spare places count too). A statement '..UptoSaid' is the law's where the arguments, and the package variables that the reading takes, are together of bulk at most 1048576: NARROWER than '..Said'. Prove '..Said' where nothing that the law and all that it calls make is longer than what came in: it says more and counts as full. Else prove '..UptoSaid'. A law counts once. -/
mutual
def uptoBulk {H : Type} : DataW H → Nat
  | .lit (.string bytes) => bytes.length + 1
  | .lit _ => 1
  | .nil => 1
  | .ptr d => uptoBulk d + 1
  | .slice elems spare => uptoBulkAll elems + uptoBulkAll spare + 1
  | .agg parts => uptoBulkAll parts + 1
  | .iface _ d => uptoBulk d + 1
  | .map entries => uptoBulkEntries entries + 1
  | .held _ => 1
def uptoBulkAll {H : Type} : List (DataW H) → Nat
  | [] => 0
  | d :: r => uptoBulk d + uptoBulkAll r
def uptoBulkEntries {H : Type} : List (Lit × DataW H) → Nat
  | [] => 0
  | x :: r => uptoBulkEntry x + uptoBulkEntries r
def uptoBulkEntry {H : Type} : Lit × DataW H → Nat
  | (.string bytes, d) => bytes.length + uptoBulk d + 1
  | (_, d) => uptoBulk d + 1
 end
def uptoSmall : (H : Type) → List (DataW H) → Bool := fun _ ds => decide (uptoBulkAll ds ≤ 1048576)
def OpenSpec.upto (s : _root_.Go.ChangeSpec) : _root_.Go.OpenSpec := { _root_.Go.OpenSpec.ofChange s with cond := some uptoSmall }

/-- 'aditlaw8.FightArms', WHERE WHAT IT READS IS OF BULK AT MOST 1048576: true; the input reads as it did. -/
def fightArmsUptoRow : OpenClaim := { program := "yteaglfpppihpjaa", sum := "44cb1a7639743dea8f7103cced735a2dbfa44cbdbff62ae04365164e0869b389", func := "adit/aditlaw8.FightArms", spec := "fightArms", unfollowed := true, recurses := true, apart := false, narrowed := true }
def FightArmsUptoSaid : Prop := fightArmsUptoRow.holds Try.pinned (OpenSpec.upto fightArmsSpec)

/-- 'aditlaw8.FightBlows', WHERE WHAT IT READS IS OF BULK AT MOST 1048576: true; the input reads as it did. -/
def fightBlowsUptoRow : OpenClaim := { program := "yteaglfpppihpjaa", sum := "44cb1a7639743dea8f7103cced735a2dbfa44cbdbff62ae04365164e0869b389", func := "adit/aditlaw8.FightBlows", spec := "fightBlows", unfollowed := true, recurses := true, apart := false, narrowed := true }
def FightBlowsUptoSaid : Prop := fightBlowsUptoRow.holds Try.pinned (OpenSpec.upto fightBlowsSpec)

/-- 'aditlaw8.FightBounds', WHERE WHAT IT READS IS OF BULK AT MOST 1048576: true; the input reads as it did. -/
def fightBoundsUptoRow : OpenClaim := { program := "yteaglfpppihpjaa", sum := "44cb1a7639743dea8f7103cced735a2dbfa44cbdbff62ae04365164e0869b389", func := "adit/aditlaw8.FightBounds", spec := "fightBounds", unfollowed := true, recurses := true, apart := false, narrowed := true }
def FightBoundsUptoSaid : Prop := fightBoundsUptoRow.holds Try.pinned (OpenSpec.upto fightBoundsSpec)

/-- 'aditlaw8.FightPoison', WHERE WHAT IT READS IS OF BULK AT MOST 1048576: true; the input reads as it did. -/
def fightPoisonUptoRow : OpenClaim := { program := "yteaglfpppihpjaa", sum := "44cb1a7639743dea8f7103cced735a2dbfa44cbdbff62ae04365164e0869b389", func := "adit/aditlaw8.FightPoison", spec := "fightPoison", unfollowed := true, recurses := true, apart := false, narrowed := true }
def FightPoisonUptoSaid : Prop := fightPoisonUptoRow.holds Try.pinned (OpenSpec.upto fightPoisonSpec)

end Rows
end Go.Proofs.Yteaglfpppihpjaa

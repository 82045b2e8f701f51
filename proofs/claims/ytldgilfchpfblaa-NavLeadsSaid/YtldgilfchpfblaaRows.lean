/-
  No cell of these rows narrows 'for every input' (looked for: loops, veiled, ifaces, maps, wideKeys, modest, calm, conditions, laid).
  DERIVED. THE GIVEN ROWS OF THIS SEAT. 7 by the template 'for every input the law returns true; each argument reads behind the call as it read before'; 0 by the template 'total and deterministic' (their statements: YtldgilfchpfblaaTotals.lean).
  GIVEN WITH THE SEED: the statements are not yours to turn. If you find one false, say at which input.
  Laid BY PROGRAM, IN A SANDBOX (cutbox-rows.mjs): the forced cells as the released guide's own fill.sh prints them over the translation 4a8ea37abb269f76… (all of the seat's roots in one cut). By AI agents, Wed Nov 11 2026. No macro, syntax, notation, axiom, sorry.
-/
import Derived.Test.YtldgilfchpfblaaChecked
import GoSem.Claim
import GoSem.ClaimJoined
import GoSem.ClaimMapViews
import Derived.JoinedTies
import Derived.KernelRfl
namespace Go.Proofs.Ytldgilfchpfblaa
/- THE CELL 'sum', in the pinned program and in every row, IS THE sha256 OF THE DUMP (.gsa) THAT YtldgilfchpfblaaProg.lean LOADS. Nothing in Lean hashes anything: it is a label: what it is worth is what the hold of that sum in a sandbox is worth. -/
noncomputable def Try.pinned : Pinned := { name := "ytldgilfchpfblaa", sum := "4a8ea37abb269f76aa41a640c039790ee521ac1f6a913e981987adcb9aaf636d", checked := Try.checked }
namespace Rows
def none {H : Type} : Left H := { results := [], args := [] }

/-- 'aditlaw6.NavLeads': WHATEVER THE INPUT: true; the input reads as it did. -/
def navLeadsSpec : ChangeSpec := { name := "navLeads", fn := fun _ => fun
  | [d1, d2, d3, d4] => { results := [.lit (.bool true)], args := [d1, d2, d3, d4] }
  | _ => none }
def navLeadsRow : OpenClaim := { program := "ytldgilfchpfblaa", sum := "4a8ea37abb269f76aa41a640c039790ee521ac1f6a913e981987adcb9aaf636d", func := "adit/aditlaw6.NavLeads", spec := "navLeads", apart := false }
def NavLeadsSaid : Prop := navLeadsRow.holds Try.pinned (OpenSpec.ofChange navLeadsSpec)

/-- ITS FALSE NEIGHBOUR: 'it returns false'. Refute it at one input. -/
def navLeadsWrong : ChangeSpec := { name := "navLeads", fn := fun _ => fun
  | [d1, d2, d3, d4] => { results := [.lit (.bool false)], args := [d1, d2, d3, d4] }
  | _ => none }
def NavLeadsWrongFalsely : Prop := navLeadsRow.holds Try.pinned (OpenSpec.ofChange navLeadsWrong)

/-- 'aditlaw6.NavFree': WHATEVER THE INPUT: true; the input reads as it did. -/
def navFreeSpec : ChangeSpec := { name := "navFree", fn := fun _ => fun
  | [d1, d2, d3, d4, d5] => { results := [.lit (.bool true)], args := [d1, d2, d3, d4, d5] }
  | _ => none }
def navFreeRow : OpenClaim := { program := "ytldgilfchpfblaa", sum := "4a8ea37abb269f76aa41a640c039790ee521ac1f6a913e981987adcb9aaf636d", func := "adit/aditlaw6.NavFree", spec := "navFree", apart := false }
def NavFreeSaid : Prop := navFreeRow.holds Try.pinned (OpenSpec.ofChange navFreeSpec)

/-- ITS FALSE NEIGHBOUR: 'it returns false'. Refute it at one input. -/
def navFreeWrong : ChangeSpec := { name := "navFree", fn := fun _ => fun
  | [d1, d2, d3, d4, d5] => { results := [.lit (.bool false)], args := [d1, d2, d3, d4, d5] }
  | _ => none }
def NavFreeWrongFalsely : Prop := navFreeRow.holds Try.pinned (OpenSpec.ofChange navFreeWrong)

/-- 'aditlaw6.NavAsks': WHATEVER THE INPUT: true; the input reads as it did. -/
def navAsksSpec : ChangeSpec := { name := "navAsks", fn := fun _ => fun
  | [d1, d2, d3, d4, d5, d6, d7, d8] => { results := [.lit (.bool true)], args := [d1, d2, d3, d4, d5, d6, d7, d8] }
  | _ => none }
def navAsksRow : OpenClaim := { program := "ytldgilfchpfblaa", sum := "4a8ea37abb269f76aa41a640c039790ee521ac1f6a913e981987adcb9aaf636d", func := "adit/aditlaw6.NavAsks", spec := "navAsks", unfollowed := true, recurses := true, apart := false }
def NavAsksSaid : Prop := navAsksRow.holds Try.pinned (OpenSpec.ofChange navAsksSpec)

/-- ITS FALSE NEIGHBOUR: 'it returns false'. Refute it at one input. -/
def navAsksWrong : ChangeSpec := { name := "navAsks", fn := fun _ => fun
  | [d1, d2, d3, d4, d5, d6, d7, d8] => { results := [.lit (.bool false)], args := [d1, d2, d3, d4, d5, d6, d7, d8] }
  | _ => none }
def NavAsksWrongFalsely : Prop := navAsksRow.holds Try.pinned (OpenSpec.ofChange navAsksWrong)

/-- 'aditlaw8.FightArms': WHATEVER THE INPUT: true; the input reads as it did. -/
def fightArmsSpec : ChangeSpec := { name := "fightArms", fn := fun _ => fun
  | [d1, d2, d3, d4, d5, d6] => { results := [.lit (.bool true)], args := [d1, d2, d3, d4, d5, d6] }
  | _ => none }
def fightArmsRow : OpenClaim := { program := "ytldgilfchpfblaa", sum := "4a8ea37abb269f76aa41a640c039790ee521ac1f6a913e981987adcb9aaf636d", func := "adit/aditlaw8.FightArms", spec := "fightArms", unfollowed := true, recurses := true, apart := false }
def FightArmsSaid : Prop := fightArmsRow.holds Try.pinned (OpenSpec.ofChange fightArmsSpec)

/-- ITS FALSE NEIGHBOUR: 'it returns false'. Refute it at one input. -/
def fightArmsWrong : ChangeSpec := { name := "fightArms", fn := fun _ => fun
  | [d1, d2, d3, d4, d5, d6] => { results := [.lit (.bool false)], args := [d1, d2, d3, d4, d5, d6] }
  | _ => none }
def FightArmsWrongFalsely : Prop := fightArmsRow.holds Try.pinned (OpenSpec.ofChange fightArmsWrong)

/-- 'aditlaw8.FightBlows': WHATEVER THE INPUT: true; the input reads as it did. -/
def fightBlowsSpec : ChangeSpec := { name := "fightBlows", fn := fun _ => fun
  | [d1, d2, d3, d4, d5, d6, d7] => { results := [.lit (.bool true)], args := [d1, d2, d3, d4, d5, d6, d7] }
  | _ => none }
def fightBlowsRow : OpenClaim := { program := "ytldgilfchpfblaa", sum := "4a8ea37abb269f76aa41a640c039790ee521ac1f6a913e981987adcb9aaf636d", func := "adit/aditlaw8.FightBlows", spec := "fightBlows", unfollowed := true, recurses := true, apart := false }
def FightBlowsSaid : Prop := fightBlowsRow.holds Try.pinned (OpenSpec.ofChange fightBlowsSpec)

/-- ITS FALSE NEIGHBOUR: 'it returns false'. Refute it at one input. -/
def fightBlowsWrong : ChangeSpec := { name := "fightBlows", fn := fun _ => fun
  | [d1, d2, d3, d4, d5, d6, d7] => { results := [.lit (.bool false)], args := [d1, d2, d3, d4, d5, d6, d7] }
  | _ => none }
def FightBlowsWrongFalsely : Prop := fightBlowsRow.holds Try.pinned (OpenSpec.ofChange fightBlowsWrong)

/-- 'aditlaw8.FightBounds': WHATEVER THE INPUT: true; the input reads as it did. -/
def fightBoundsSpec : ChangeSpec := { name := "fightBounds", fn := fun _ => fun
  | [d1, d2, d3, d4, d5, d6, d7] => { results := [.lit (.bool true)], args := [d1, d2, d3, d4, d5, d6, d7] }
  | _ => none }
def fightBoundsRow : OpenClaim := { program := "ytldgilfchpfblaa", sum := "4a8ea37abb269f76aa41a640c039790ee521ac1f6a913e981987adcb9aaf636d", func := "adit/aditlaw8.FightBounds", spec := "fightBounds", unfollowed := true, recurses := true, apart := false }
def FightBoundsSaid : Prop := fightBoundsRow.holds Try.pinned (OpenSpec.ofChange fightBoundsSpec)

/-- ITS FALSE NEIGHBOUR: 'it returns false'. Refute it at one input. -/
def fightBoundsWrong : ChangeSpec := { name := "fightBounds", fn := fun _ => fun
  | [d1, d2, d3, d4, d5, d6, d7] => { results := [.lit (.bool false)], args := [d1, d2, d3, d4, d5, d6, d7] }
  | _ => none }
def FightBoundsWrongFalsely : Prop := fightBoundsRow.holds Try.pinned (OpenSpec.ofChange fightBoundsWrong)

/-- 'aditlaw8.FightPoison': WHATEVER THE INPUT: true; the input reads as it did. -/
def fightPoisonSpec : ChangeSpec := { name := "fightPoison", fn := fun _ => fun
  | [d1, d2, d3, d4, d5] => { results := [.lit (.bool true)], args := [d1, d2, d3, d4, d5] }
  | _ => none }
def fightPoisonRow : OpenClaim := { program := "ytldgilfchpfblaa", sum := "4a8ea37abb269f76aa41a640c039790ee521ac1f6a913e981987adcb9aaf636d", func := "adit/aditlaw8.FightPoison", spec := "fightPoison", unfollowed := true, recurses := true, apart := false }
def FightPoisonSaid : Prop := fightPoisonRow.holds Try.pinned (OpenSpec.ofChange fightPoisonSpec)

/-- ITS FALSE NEIGHBOUR: 'it returns false'. Refute it at one input. -/
def fightPoisonWrong : ChangeSpec := { name := "fightPoison", fn := fun _ => fun
  | [d1, d2, d3, d4, d5] => { results := [.lit (.bool false)], args := [d1, d2, d3, d4, d5] }
  | _ => none }
def FightPoisonWrongFalsely : Prop := fightPoisonRow.holds Try.pinned (OpenSpec.ofChange fightPoisonWrong)

/- THE SECOND FORM. 'bulk': how many values and letters a reading holds, each counted each time it is reached (what is shared counts as often as it is met; a slice's spare places count too). A statement '..UptoSaid' is the law's where the arguments, and the package variables that the reading takes, are together of bulk at most 1048576: NARROWER than '..Said'. Prove '..Said' where nothing that the law and all that it calls make is longer than what came in: it says more and counts as full. Else prove '..UptoSaid'. A law counts once. -/
mutual
def uptoBulk {H : Type} : DataW H → Nat
  | .lit (.string bytes) => bytes.length + 1
  | .lit _ => 1
  | .nil => 1
  | .ptr d => uptoBulk d + 1
  | .slice elems spare => uptoBulkAll elems + uptoBulkAll spare + 1
  | .agg parts => uptoBulkAll parts + 1
  | .iface _ d => uptoBulk d + 1
  | .map entries => uptoBulkEntries entries + 1
  | .held _ => 1
def uptoBulkAll {H : Type} : List (DataW H) → Nat
  | [] => 0
  | d :: r => uptoBulk d + uptoBulkAll r
def uptoBulkEntries {H : Type} : List (Lit × DataW H) → Nat
  | [] => 0
  | x :: r => uptoBulkEntry x + uptoBulkEntries r
def uptoBulkEntry {H : Type} : Lit × DataW H → Nat
  | (.string bytes, d) => bytes.length + uptoBulk d + 1
  | (_, d) => uptoBulk d + 1
 end
def uptoSmall : (H : Type) → List (DataW H) → Bool := fun _ ds => decide (uptoBulkAll ds ≤ 1048576)
def OpenSpec.upto (s : _root_.Go.ChangeSpec) : _root_.Go.OpenSpec := { _root_.Go.OpenSpec.ofChange s with cond := some uptoSmall }

/-- 'aditlaw6.NavLeads', WHERE WHAT IT READS IS OF BULK AT MOST 1048576: true; the input reads as it did. -/
def navLeadsUptoRow : OpenClaim := { program := "ytldgilfchpfblaa", sum := "4a8ea37abb269f76aa41a640c039790ee521ac1f6a913e981987adcb9aaf636d", func := "adit/aditlaw6.NavLeads", spec := "navLeads", apart := false, narrowed := true }
def NavLeadsUptoSaid : Prop := navLeadsUptoRow.holds Try.pinned (OpenSpec.upto navLeadsSpec)

/-- 'aditlaw6.NavFree', WHERE WHAT IT READS IS OF BULK AT MOST 1048576: true; the input reads as it did. -/
def navFreeUptoRow : OpenClaim := { program := "ytldgilfchpfblaa", sum := "4a8ea37abb269f76aa41a640c039790ee521ac1f6a913e981987adcb9aaf636d", func := "adit/aditlaw6.NavFree", spec := "navFree", apart := false, narrowed := true }
def NavFreeUptoSaid : Prop := navFreeUptoRow.holds Try.pinned (OpenSpec.upto navFreeSpec)

/-- 'aditlaw6.NavAsks', WHERE WHAT IT READS IS OF BULK AT MOST 1048576: true; the input reads as it did. -/
def navAsksUptoRow : OpenClaim := { program := "ytldgilfchpfblaa", sum := "4a8ea37abb269f76aa41a640c039790ee521ac1f6a913e981987adcb9aaf636d", func := "adit/aditlaw6.NavAsks", spec := "navAsks", unfollowed := true, recurses := true, apart := false, narrowed := true }
def NavAsksUptoSaid : Prop := navAsksUptoRow.holds Try.pinned (OpenSpec.upto navAsksSpec)

/-- 'aditlaw8.FightArms', WHERE WHAT IT READS IS OF BULK AT MOST 1048576: true; the input reads as it did. -/
def fightArmsUptoRow : OpenClaim := { program := "ytldgilfchpfblaa", sum := "4a8ea37abb269f76aa41a640c039790ee521ac1f6a913e981987adcb9aaf636d", func := "adit/aditlaw8.FightArms", spec := "fightArms", unfollowed := true, recurses := true, apart := false, narrowed := true }
def FightArmsUptoSaid : Prop := fightArmsUptoRow.holds Try.pinned (OpenSpec.upto fightArmsSpec)

/-- 'aditlaw8.FightBlows', WHERE WHAT IT READS IS OF BULK AT MOST 1048576: true; the input reads as it did. -/
def fightBlowsUptoRow : OpenClaim := { program := "ytldgilfchpfblaa", sum := "4a8ea37abb269f76aa41a640c039790ee521ac1f6a913e981987adcb9aaf636d", func := "adit/aditlaw8.FightBlows", spec := "fightBlows", unfollowed := true, recurses := true, apart := false, narrowed := true }
def FightBlowsUptoSaid : Prop := fightBlowsUptoRow.holds Try.pinned (OpenSpec.upto fightBlowsSpec)

/-- 'aditlaw8.FightBounds', WHERE WHAT IT READS IS OF BULK AT MOST 1048576: true; the input reads as it did. -/
def fightBoundsUptoRow : OpenClaim := { program := "ytldgilfchpfblaa", sum := "4a8ea37abb269f76aa41a640c039790ee521ac1f6a913e981987adcb9aaf636d", func := "adit/aditlaw8.FightBounds", spec := "fightBounds", unfollowed := true, recurses := true, apart := false, narrowed := true }
def FightBoundsUptoSaid : Prop := fightBoundsUptoRow.holds Try.pinned (OpenSpec.upto fightBoundsSpec)

/-- 'aditlaw8.FightPoison', WHERE WHAT IT READS IS OF BULK AT MOST 1048576: true; the input reads as it did. -/
def fightPoisonUptoRow : OpenClaim := { program := "ytldgilfchpfblaa", sum := "4a8ea37abb269f76aa41a640c039790ee521ac1f6a913e981987adcb9aaf636d", func := "adit/aditlaw8.FightPoison", spec := "fightPoison", unfollowed := true, recurses := true, apart := false, narrowed := true }
def FightPoisonUptoSaid : Prop := fightPoisonUptoRow.holds Try.pinned (OpenSpec.upto fightPoisonSpec)

end Rows
end Go.Proofs.Ytldgilfchpfblaa

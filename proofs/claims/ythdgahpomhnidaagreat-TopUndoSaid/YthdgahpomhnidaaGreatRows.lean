/-
  No cell of these rows narrows 'for every input' (looked for: loops, veiled, ifaces, maps, wideKeys, modest, calm, conditions, laid).
  DERIVED. THE GIVEN ROWS OF THIS SEAT. 7 by the template 'for every input the law returns true; each argument reads behind the call as it read before'; 0 by the template 'total and deterministic' (their statements: YthdgahpomhnidaaGreatTotals.lean).
  GIVEN WITH THE SEED: the statements are not yours to turn. If you find one false, say at which input.
  Laid BY PROGRAM, IN A SANDBOX (cutbox-rows.mjs): the forced cells as the released guide's own fill.sh prints them over the translation 5ac99aa3b7bdda85… (all of the seat's roots in one cut). By AI agents, Wed Nov 11 2026. No macro, syntax, notation, axiom, sorry.
-/
import Derived.Test.YthdgahpomhnidaaGreatChecked
import GoSem.Claim
import GoSem.ClaimJoined
import GoSem.ClaimMapViews
import Derived.JoinedTies
import Derived.KernelRfl
namespace Go.Proofs.YthdgahpomhnidaaGreat
/- THE CELL 'sum', in the pinned program and in every row, IS THE sha256 OF THE DUMP (.gsa) THAT YthdgahpomhnidaaGreatProg.lean LOADS. Nothing in Lean hashes anything: it is a label: what it is worth is what the hold of that sum in a sandbox is worth. -/
noncomputable def Tryz.pinned : Pinned := { name := "ythdgahpomhnidaagreat", sum := "5ac99aa3b7bdda8550b28521a8ccb274a0a07e28880489a3c85f9b8c7e472793", checked := Tryz.checked }
namespace Rows
def none {H : Type} : Left H := { results := [], args := [] }

/-- 'adittop.TopWays': WHATEVER THE INPUT: true; the input reads as it did. -/
def topWaysSpec : ChangeSpec := { name := "topWays", fn := fun _ => fun
  | [d1, d2, d3] => { results := [.lit (.bool true)], args := [d1, d2, d3] }
  | _ => none }
def topWaysRow : OpenClaim := { program := "ythdgahpomhnidaagreat", sum := "5ac99aa3b7bdda8550b28521a8ccb274a0a07e28880489a3c85f9b8c7e472793", func := "adit/adittop.TopWays", spec := "topWays", inPlace := ["internal/bytealg.IndexByte", "internal/bytealg.Count", "internal/bytealg.Index"], unfollowed := true, recurses := true, named := ["internal/bytealg.MaxLen"], plainKeys := false, apart := false }
def TopWaysSaid : Prop := topWaysRow.holds Tryz.pinned (OpenSpec.ofChange topWaysSpec)

/-- ITS FALSE NEIGHBOUR: 'it returns false'. Refute it at one input. -/
def topWaysWrong : ChangeSpec := { name := "topWays", fn := fun _ => fun
  | [d1, d2, d3] => { results := [.lit (.bool false)], args := [d1, d2, d3] }
  | _ => none }
def TopWaysWrongFalsely : Prop := topWaysRow.holds Tryz.pinned (OpenSpec.ofChange topWaysWrong)

/-- 'adittop.TopHeroes': WHATEVER THE INPUT: true; the input reads as it did. -/
def topHeroesSpec : ChangeSpec := { name := "topHeroes", fn := fun _ => fun
  | [d1, d2] => { results := [.lit (.bool true)], args := [d1, d2] }
  | _ => none }
def topHeroesRow : OpenClaim := { program := "ythdgahpomhnidaagreat", sum := "5ac99aa3b7bdda8550b28521a8ccb274a0a07e28880489a3c85f9b8c7e472793", func := "adit/adittop.TopHeroes", spec := "topHeroes", inPlace := ["internal/bytealg.IndexByte", "internal/bytealg.Count", "internal/bytealg.Index"], unfollowed := true, recurses := true, named := ["internal/bytealg.MaxLen"], plainKeys := false, apart := false }
def TopHeroesSaid : Prop := topHeroesRow.holds Tryz.pinned (OpenSpec.ofChange topHeroesSpec)

/-- ITS FALSE NEIGHBOUR: 'it returns false'. Refute it at one input. -/
def topHeroesWrong : ChangeSpec := { name := "topHeroes", fn := fun _ => fun
  | [d1, d2] => { results := [.lit (.bool false)], args := [d1, d2] }
  | _ => none }
def TopHeroesWrongFalsely : Prop := topHeroesRow.holds Tryz.pinned (OpenSpec.ofChange topHeroesWrong)

/-- 'adittop.TopBots': WHATEVER THE INPUT: true; the input reads as it did. -/
def topBotsSpec : ChangeSpec := { name := "topBots", fn := fun _ => fun
  | [d1, d2, d3] => { results := [.lit (.bool true)], args := [d1, d2, d3] }
  | _ => none }
def topBotsRow : OpenClaim := { program := "ythdgahpomhnidaagreat", sum := "5ac99aa3b7bdda8550b28521a8ccb274a0a07e28880489a3c85f9b8c7e472793", func := "adit/adittop.TopBots", spec := "topBots", inPlace := ["internal/bytealg.IndexByte", "internal/bytealg.Count", "internal/bytealg.Index"], unfollowed := true, recurses := true, named := ["internal/bytealg.MaxLen"], plainKeys := false, apart := false }
def TopBotsSaid : Prop := topBotsRow.holds Tryz.pinned (OpenSpec.ofChange topBotsSpec)

/-- ITS FALSE NEIGHBOUR: 'it returns false'. Refute it at one input. -/
def topBotsWrong : ChangeSpec := { name := "topBots", fn := fun _ => fun
  | [d1, d2, d3] => { results := [.lit (.bool false)], args := [d1, d2, d3] }
  | _ => none }
def TopBotsWrongFalsely : Prop := topBotsRow.holds Tryz.pinned (OpenSpec.ofChange topBotsWrong)

/-- 'adittop.TopFloors': WHATEVER THE INPUT: true; the input reads as it did. -/
def topFloorsSpec : ChangeSpec := { name := "topFloors", fn := fun _ => fun
  | [d1, d2] => { results := [.lit (.bool true)], args := [d1, d2] }
  | _ => none }
def topFloorsRow : OpenClaim := { program := "ythdgahpomhnidaagreat", sum := "5ac99aa3b7bdda8550b28521a8ccb274a0a07e28880489a3c85f9b8c7e472793", func := "adit/adittop.TopFloors", spec := "topFloors", inPlace := ["internal/bytealg.IndexByte", "internal/bytealg.Count", "internal/bytealg.Index"], unfollowed := true, recurses := true, named := ["internal/bytealg.MaxLen"], plainKeys := false, apart := false }
def TopFloorsSaid : Prop := topFloorsRow.holds Tryz.pinned (OpenSpec.ofChange topFloorsSpec)

/-- ITS FALSE NEIGHBOUR: 'it returns false'. Refute it at one input. -/
def topFloorsWrong : ChangeSpec := { name := "topFloors", fn := fun _ => fun
  | [d1, d2] => { results := [.lit (.bool false)], args := [d1, d2] }
  | _ => none }
def TopFloorsWrongFalsely : Prop := topFloorsRow.holds Tryz.pinned (OpenSpec.ofChange topFloorsWrong)

/-- 'adittop.TopGuess': WHATEVER THE INPUT: true; the input reads as it did. -/
def topGuessSpec : ChangeSpec := { name := "topGuess", fn := fun _ => fun
  | [d1, d2, d3] => { results := [.lit (.bool true)], args := [d1, d2, d3] }
  | _ => none }
def topGuessRow : OpenClaim := { program := "ythdgahpomhnidaagreat", sum := "5ac99aa3b7bdda8550b28521a8ccb274a0a07e28880489a3c85f9b8c7e472793", func := "adit/adittop.TopGuess", spec := "topGuess", inPlace := ["internal/bytealg.IndexByte", "internal/bytealg.Count", "internal/bytealg.Index"], unfollowed := true, recurses := true, named := ["internal/bytealg.MaxLen"], plainKeys := false, apart := false }
def TopGuessSaid : Prop := topGuessRow.holds Tryz.pinned (OpenSpec.ofChange topGuessSpec)

/-- ITS FALSE NEIGHBOUR: 'it returns false'. Refute it at one input. -/
def topGuessWrong : ChangeSpec := { name := "topGuess", fn := fun _ => fun
  | [d1, d2, d3] => { results := [.lit (.bool false)], args := [d1, d2, d3] }
  | _ => none }
def TopGuessWrongFalsely : Prop := topGuessRow.holds Tryz.pinned (OpenSpec.ofChange topGuessWrong)

/-- 'adittop.TopChance': WHATEVER THE INPUT: true; the input reads as it did. -/
def topChanceSpec : ChangeSpec := { name := "topChance", fn := fun _ => fun
  | [d1, d2, d3] => { results := [.lit (.bool true)], args := [d1, d2, d3] }
  | _ => none }
def topChanceRow : OpenClaim := { program := "ythdgahpomhnidaagreat", sum := "5ac99aa3b7bdda8550b28521a8ccb274a0a07e28880489a3c85f9b8c7e472793", func := "adit/adittop.TopChance", spec := "topChance", inPlace := ["internal/bytealg.IndexByte", "internal/bytealg.Count", "internal/bytealg.Index"], unfollowed := true, recurses := true, named := ["internal/bytealg.MaxLen"], plainKeys := false, apart := false }
def TopChanceSaid : Prop := topChanceRow.holds Tryz.pinned (OpenSpec.ofChange topChanceSpec)

/-- ITS FALSE NEIGHBOUR: 'it returns false'. Refute it at one input. -/
def topChanceWrong : ChangeSpec := { name := "topChance", fn := fun _ => fun
  | [d1, d2, d3] => { results := [.lit (.bool false)], args := [d1, d2, d3] }
  | _ => none }
def TopChanceWrongFalsely : Prop := topChanceRow.holds Tryz.pinned (OpenSpec.ofChange topChanceWrong)

/-- 'adittop.TopUndo': WHATEVER THE INPUT: true; the input reads as it did. -/
def topUndoSpec : ChangeSpec := { name := "topUndo", fn := fun _ => fun
  | [d1, d2, d3] => { results := [.lit (.bool true)], args := [d1, d2, d3] }
  | _ => none }
def topUndoRow : OpenClaim := { program := "ythdgahpomhnidaagreat", sum := "5ac99aa3b7bdda8550b28521a8ccb274a0a07e28880489a3c85f9b8c7e472793", func := "adit/adittop.TopUndo", spec := "topUndo", inPlace := ["internal/bytealg.IndexByte", "internal/bytealg.Count", "internal/bytealg.Index"], unfollowed := true, recurses := true, named := ["internal/bytealg.MaxLen"], plainKeys := false, apart := false }
def TopUndoSaid : Prop := topUndoRow.holds Tryz.pinned (OpenSpec.ofChange topUndoSpec)

/-- ITS FALSE NEIGHBOUR: 'it returns false'. Refute it at one input. -/
def topUndoWrong : ChangeSpec := { name := "topUndo", fn := fun _ => fun
  | [d1, d2, d3] => { results := [.lit (.bool false)], args := [d1, d2, d3] }
  | _ => none }
def TopUndoWrongFalsely : Prop := topUndoRow.holds Tryz.pinned (OpenSpec.ofChange topUndoWrong)

/- THE SECOND FORM. 'bulk': how many values and letters a reading holds, each counted each time it is reached (what is shared counts as often as it is met; a slice's spare places count too). A statement '..UptoSaid' is the law's where the arguments, and the package variables that the reading takes, are together of bulk at most 1048576: NARROWER than '..Said'. Prove '..Said' where nothing that the law and all that it calls make is longer than what came in: it says more and counts as full. Else prove '..UptoSaid'. A law counts once. -/
mutual
def uptoBulk {H : Type} : DataW H → Nat
  | .lit (.string bytes) => bytes.length + 1
  | .lit _ => 1
  | .nil => 1
  | .ptr d => uptoBulk d + 1
  | .slice elems spare => uptoBulkAll elems + uptoBulkAll spare + 1
  | .agg parts => uptoBulkAll parts + 1
  | .iface _ d => uptoBulk d + 1
  | .map entries => uptoBulkEntries entries + 1
  | .held _ => 1
def uptoBulkAll {H : Type} : List (DataW H) → Nat
  | [] => 0
  | d :: r => uptoBulk d + uptoBulkAll r
def uptoBulkEntries {H : Type} : List (Lit × DataW H) → Nat
  | [] => 0
  | x :: r => uptoBulkEntry x + uptoBulkEntries r
def uptoBulkEntry {H : Type} : Lit × DataW H → Nat
  | (.string bytes, d) => bytes.length + uptoBulk d + 1
  | (_, d) => uptoBulk d + 1
 end
def uptoSmall : (H : Type) → List (DataW H) → Bool := fun _ ds => decide (uptoBulkAll ds ≤ 1048576)
def OpenSpec.upto (s : _root_.Go.ChangeSpec) : _root_.Go.OpenSpec := { _root_.Go.OpenSpec.ofChange s with cond := some uptoSmall }

/-- 'adittop.TopWays', WHERE WHAT IT READS IS OF BULK AT MOST 1048576: true; the input reads as it did. -/
def topWaysUptoRow : OpenClaim := { program := "ythdgahpomhnidaagreat", sum := "5ac99aa3b7bdda8550b28521a8ccb274a0a07e28880489a3c85f9b8c7e472793", func := "adit/adittop.TopWays", spec := "topWays", inPlace := ["internal/bytealg.IndexByte", "internal/bytealg.Count", "internal/bytealg.Index"], unfollowed := true, recurses := true, named := ["internal/bytealg.MaxLen"], plainKeys := false, apart := false, narrowed := true }
def TopWaysUptoSaid : Prop := topWaysUptoRow.holds Tryz.pinned (OpenSpec.upto topWaysSpec)

/-- 'adittop.TopHeroes', WHERE WHAT IT READS IS OF BULK AT MOST 1048576: true; the input reads as it did. -/
def topHeroesUptoRow : OpenClaim := { program := "ythdgahpomhnidaagreat", sum := "5ac99aa3b7bdda8550b28521a8ccb274a0a07e28880489a3c85f9b8c7e472793", func := "adit/adittop.TopHeroes", spec := "topHeroes", inPlace := ["internal/bytealg.IndexByte", "internal/bytealg.Count", "internal/bytealg.Index"], unfollowed := true, recurses := true, named := ["internal/bytealg.MaxLen"], plainKeys := false, apart := false, narrowed := true }
def TopHeroesUptoSaid : Prop := topHeroesUptoRow.holds Tryz.pinned (OpenSpec.upto topHeroesSpec)

/-- 'adittop.TopBots', WHERE WHAT IT READS IS OF BULK AT MOST 1048576: true; the input reads as it did. -/
def topBotsUptoRow : OpenClaim := { program := "ythdgahpomhnidaagreat", sum := "5ac99aa3b7bdda8550b28521a8ccb274a0a07e28880489a3c85f9b8c7e472793", func := "adit/adittop.TopBots", spec := "topBots", inPlace := ["internal/bytealg.IndexByte", "internal/bytealg.Count", "internal/bytealg.Index"], unfollowed := true, recurses := true, named := ["internal/bytealg.MaxLen"], plainKeys := false, apart := false, narrowed := true }
def TopBotsUptoSaid : Prop := topBotsUptoRow.holds Tryz.pinned (OpenSpec.upto topBotsSpec)

/-- 'adittop.TopFloors', WHERE WHAT IT READS IS OF BULK AT MOST 1048576: true; the input reads as it did. -/
def topFloorsUptoRow : OpenClaim := { program := "ythdgahpomhnidaagreat", sum := "5ac99aa3b7bdda8550b28521a8ccb274a0a07e28880489a3c85f9b8c7e472793", func := "adit/adittop.TopFloors", spec := "topFloors", inPlace := ["internal/bytealg.IndexByte", "internal/bytealg.Count", "internal/bytealg.Index"], unfollowed := true, recurses := true, named := ["internal/bytealg.MaxLen"], plainKeys := false, apart := false, narrowed := true }
def TopFloorsUptoSaid : Prop := topFloorsUptoRow.holds Tryz.pinned (OpenSpec.upto topFloorsSpec)

/-- 'adittop.TopGuess', WHERE WHAT IT READS IS OF BULK AT MOST 1048576: true; the input reads as it did. -/
def topGuessUptoRow : OpenClaim := { program := "ythdgahpomhnidaagreat", sum := "5ac99aa3b7bdda8550b28521a8ccb274a0a07e28880489a3c85f9b8c7e472793", func := "adit/adittop.TopGuess", spec := "topGuess", inPlace := ["internal/bytealg.IndexByte", "internal/bytealg.Count", "internal/bytealg.Index"], unfollowed := true, recurses := true, named := ["internal/bytealg.MaxLen"], plainKeys := false, apart := false, narrowed := true }
def TopGuessUptoSaid : Prop := topGuessUptoRow.holds Tryz.pinned (OpenSpec.upto topGuessSpec)

/-- 'adittop.TopChance', WHERE WHAT IT READS IS OF BULK AT MOST 1048576: true; the input reads as it did. -/
def topChanceUptoRow : OpenClaim := { program := "ythdgahpomhnidaagreat", sum := "5ac99aa3b7bdda8550b28521a8ccb274a0a07e28880489a3c85f9b8c7e472793", func := "adit/adittop.TopChance", spec := "topChance", inPlace := ["internal/bytealg.IndexByte", "internal/bytealg.Count", "internal/bytealg.Index"], unfollowed := true, recurses := true, named := ["internal/bytealg.MaxLen"], plainKeys := false, apart := false, narrowed := true }
def TopChanceUptoSaid : Prop := topChanceUptoRow.holds Tryz.pinned (OpenSpec.upto topChanceSpec)

/-- 'adittop.TopUndo', WHERE WHAT IT READS IS OF BULK AT MOST 1048576: true; the input reads as it did. -/
def topUndoUptoRow : OpenClaim := { program := "ythdgahpomhnidaagreat", sum := "5ac99aa3b7bdda8550b28521a8ccb274a0a07e28880489a3c85f9b8c7e472793", func := "adit/adittop.TopUndo", spec := "topUndo", inPlace := ["internal/bytealg.IndexByte", "internal/bytealg.Count", "internal/bytealg.Index"], unfollowed := true, recurses := true, named := ["internal/bytealg.MaxLen"], plainKeys := false, apart := false, narrowed := true }
def TopUndoUptoSaid : Prop := topUndoUptoRow.holds Tryz.pinned (OpenSpec.upto topUndoSpec)

end Rows
end Go.Proofs.YthdgahpomhnidaaGreat

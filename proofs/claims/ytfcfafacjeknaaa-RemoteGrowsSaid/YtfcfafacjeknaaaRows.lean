/-
  No cell of these rows narrows 'for every input' (looked for: loops, veiled, ifaces, maps, wideKeys, modest, calm, conditions, laid).
  DERIVED. THE GIVEN ROWS OF THIS SEAT. 9 by the template 'for every input the law returns true; each argument reads behind the call as it read before'; 0 by the template 'total and deterministic' (their statements: YtfcfafacjeknaaaTotals.lean).
  GIVEN WITH THE SEED: the statements are not yours to turn. If you find one false, say at which input.
  Laid BY PROGRAM, IN A SANDBOX (cutbox-rows.mjs): the forced cells as the released guide's own fill.sh prints them over the translation f3b466f4b45700f6… (all of the seat's roots in one cut). By AI agents, Wed Nov 11 2026. No macro, syntax, notation, axiom, sorry.
-/
import Derived.Test.YtfcfafacjeknaaaChecked
import GoSem.Claim
import GoSem.ClaimJoined
import GoSem.ClaimMapViews
import Derived.JoinedTies
import Derived.KernelRfl
namespace Go.Proofs.Ytfcfafacjeknaaa
/- THE CELL 'sum', in the pinned program and in every row, IS THE sha256 OF THE DUMP (.gsa) THAT YtfcfafacjeknaaaProg.lean LOADS. Nothing in Lean hashes anything: it is a label: what it is worth is what the hold of that sum in a sandbox is worth. -/
noncomputable def Try.pinned : Pinned := { name := "ytfcfafacjeknaaa", sum := "f3b466f4b45700f6859919060370a9506691b098c422e178d6effc29197e50fc", checked := Try.checked }
namespace Rows
def none {H : Type} : Left H := { results := [], args := [] }

/-- 'aditlaw12.ChunkSends': WHATEVER THE INPUT: true; the input reads as it did. -/
def chunkSendsSpec : ChangeSpec := { name := "chunkSends", fn := fun _ => fun
  | [d1, d2, d3] => { results := [.lit (.bool true)], args := [d1, d2, d3] }
  | _ => none }
def chunkSendsRow : OpenClaim := { program := "ytfcfafacjeknaaa", sum := "f3b466f4b45700f6859919060370a9506691b098c422e178d6effc29197e50fc", func := "adit/aditlaw12.ChunkSends", spec := "chunkSends", apart := false }
def ChunkSendsSaid : Prop := chunkSendsRow.holds Try.pinned (OpenSpec.ofChange chunkSendsSpec)

/-- ITS FALSE NEIGHBOUR: 'it returns false'. Refute it at one input. -/
def chunkSendsWrong : ChangeSpec := { name := "chunkSends", fn := fun _ => fun
  | [d1, d2, d3] => { results := [.lit (.bool false)], args := [d1, d2, d3] }
  | _ => none }
def ChunkSendsWrongFalsely : Prop := chunkSendsRow.holds Try.pinned (OpenSpec.ofChange chunkSendsWrong)

/-- 'aditlaw12.ChunkRounds': WHATEVER THE INPUT: true; the input reads as it did. -/
def chunkRoundsSpec : ChangeSpec := { name := "chunkRounds", fn := fun _ => fun
  | [d1, d2, d3] => { results := [.lit (.bool true)], args := [d1, d2, d3] }
  | _ => none }
def chunkRoundsRow : OpenClaim := { program := "ytfcfafacjeknaaa", sum := "f3b466f4b45700f6859919060370a9506691b098c422e178d6effc29197e50fc", func := "adit/aditlaw12.ChunkRounds", spec := "chunkRounds", apart := false }
def ChunkRoundsSaid : Prop := chunkRoundsRow.holds Try.pinned (OpenSpec.ofChange chunkRoundsSpec)

/-- ITS FALSE NEIGHBOUR: 'it returns false'. Refute it at one input. -/
def chunkRoundsWrong : ChangeSpec := { name := "chunkRounds", fn := fun _ => fun
  | [d1, d2, d3] => { results := [.lit (.bool false)], args := [d1, d2, d3] }
  | _ => none }
def ChunkRoundsWrongFalsely : Prop := chunkRoundsRow.holds Try.pinned (OpenSpec.ofChange chunkRoundsWrong)

/-- 'aditlaw12.ChunkSplits': WHATEVER THE INPUT: true; the input reads as it did. -/
def chunkSplitsSpec : ChangeSpec := { name := "chunkSplits", fn := fun _ => fun
  | [d] => { results := [.lit (.bool true)], args := [d] }
  | _ => none }
def chunkSplitsRow : OpenClaim := { program := "ytfcfafacjeknaaa", sum := "f3b466f4b45700f6859919060370a9506691b098c422e178d6effc29197e50fc", func := "adit/aditlaw12.ChunkSplits", spec := "chunkSplits", apart := false }
def ChunkSplitsSaid : Prop := chunkSplitsRow.holds Try.pinned (OpenSpec.ofChange chunkSplitsSpec)

/-- ITS FALSE NEIGHBOUR: 'it returns false'. Refute it at one input. -/
def chunkSplitsWrong : ChangeSpec := { name := "chunkSplits", fn := fun _ => fun
  | [d] => { results := [.lit (.bool false)], args := [d] }
  | _ => none }
def ChunkSplitsWrongFalsely : Prop := chunkSplitsRow.holds Try.pinned (OpenSpec.ofChange chunkSplitsWrong)

/-- 'aditlaw12.ChunkTakes': WHATEVER THE INPUT: true; the input reads as it did. -/
def chunkTakesSpec : ChangeSpec := { name := "chunkTakes", fn := fun _ => fun
  | [d] => { results := [.lit (.bool true)], args := [d] }
  | _ => none }
def chunkTakesRow : OpenClaim := { program := "ytfcfafacjeknaaa", sum := "f3b466f4b45700f6859919060370a9506691b098c422e178d6effc29197e50fc", func := "adit/aditlaw12.ChunkTakes", spec := "chunkTakes", apart := false }
def ChunkTakesSaid : Prop := chunkTakesRow.holds Try.pinned (OpenSpec.ofChange chunkTakesSpec)

/-- ITS FALSE NEIGHBOUR: 'it returns false'. Refute it at one input. -/
def chunkTakesWrong : ChangeSpec := { name := "chunkTakes", fn := fun _ => fun
  | [d] => { results := [.lit (.bool false)], args := [d] }
  | _ => none }
def ChunkTakesWrongFalsely : Prop := chunkTakesRow.holds Try.pinned (OpenSpec.ofChange chunkTakesWrong)

/-- 'aditlaw12.ChunkBits': WHATEVER THE INPUT: true; the input reads as it did. -/
def chunkBitsSpec : ChangeSpec := { name := "chunkBits", fn := fun _ => fun
  | [d1, d2] => { results := [.lit (.bool true)], args := [d1, d2] }
  | _ => none }
def chunkBitsRow : OpenClaim := { program := "ytfcfafacjeknaaa", sum := "f3b466f4b45700f6859919060370a9506691b098c422e178d6effc29197e50fc", func := "adit/aditlaw12.ChunkBits", spec := "chunkBits", apart := false }
def ChunkBitsSaid : Prop := chunkBitsRow.holds Try.pinned (OpenSpec.ofChange chunkBitsSpec)

/-- ITS FALSE NEIGHBOUR: 'it returns false'. Refute it at one input. -/
def chunkBitsWrong : ChangeSpec := { name := "chunkBits", fn := fun _ => fun
  | [d1, d2] => { results := [.lit (.bool false)], args := [d1, d2] }
  | _ => none }
def ChunkBitsWrongFalsely : Prop := chunkBitsRow.holds Try.pinned (OpenSpec.ofChange chunkBitsWrong)

/-- 'aditlaw12.ChunkComes': WHATEVER THE INPUT: true; the input reads as it did. -/
def chunkComesSpec : ChangeSpec := { name := "chunkComes", fn := fun _ => fun
  | [d1, d2, d3, d4] => { results := [.lit (.bool true)], args := [d1, d2, d3, d4] }
  | _ => none }
def chunkComesRow : OpenClaim := { program := "ytfcfafacjeknaaa", sum := "f3b466f4b45700f6859919060370a9506691b098c422e178d6effc29197e50fc", func := "adit/aditlaw12.ChunkComes", spec := "chunkComes", apart := false }
def ChunkComesSaid : Prop := chunkComesRow.holds Try.pinned (OpenSpec.ofChange chunkComesSpec)

/-- ITS FALSE NEIGHBOUR: 'it returns false'. Refute it at one input. -/
def chunkComesWrong : ChangeSpec := { name := "chunkComes", fn := fun _ => fun
  | [d1, d2, d3, d4] => { results := [.lit (.bool false)], args := [d1, d2, d3, d4] }
  | _ => none }
def ChunkComesWrongFalsely : Prop := chunkComesRow.holds Try.pinned (OpenSpec.ofChange chunkComesWrong)

/-- 'aditlaw19.RemoteLate': WHATEVER THE INPUT: true; the input reads as it did. -/
def remoteLateSpec : ChangeSpec := { name := "remoteLate", fn := fun _ => fun
  | [d1, d2, d3, d4, d5] => { results := [.lit (.bool true)], args := [d1, d2, d3, d4, d5] }
  | _ => none }
def remoteLateRow : OpenClaim := { program := "ytfcfafacjeknaaa", sum := "f3b466f4b45700f6859919060370a9506691b098c422e178d6effc29197e50fc", func := "adit/aditlaw19.RemoteLate", spec := "remoteLate", apart := false }
def RemoteLateSaid : Prop := remoteLateRow.holds Try.pinned (OpenSpec.ofChange remoteLateSpec)

/-- ITS FALSE NEIGHBOUR: 'it returns false'. Refute it at one input. -/
def remoteLateWrong : ChangeSpec := { name := "remoteLate", fn := fun _ => fun
  | [d1, d2, d3, d4, d5] => { results := [.lit (.bool false)], args := [d1, d2, d3, d4, d5] }
  | _ => none }
def RemoteLateWrongFalsely : Prop := remoteLateRow.holds Try.pinned (OpenSpec.ofChange remoteLateWrong)

/-- 'aditlaw19.RemoteGrows': WHATEVER THE INPUT: true; the input reads as it did. -/
def remoteGrowsSpec : ChangeSpec := { name := "remoteGrows", fn := fun _ => fun
  | [d1, d2] => { results := [.lit (.bool true)], args := [d1, d2] }
  | _ => none }
def remoteGrowsRow : OpenClaim := { program := "ytfcfafacjeknaaa", sum := "f3b466f4b45700f6859919060370a9506691b098c422e178d6effc29197e50fc", func := "adit/aditlaw19.RemoteGrows", spec := "remoteGrows", apart := false }
def RemoteGrowsSaid : Prop := remoteGrowsRow.holds Try.pinned (OpenSpec.ofChange remoteGrowsSpec)

/-- ITS FALSE NEIGHBOUR: 'it returns false'. Refute it at one input. -/
def remoteGrowsWrong : ChangeSpec := { name := "remoteGrows", fn := fun _ => fun
  | [d1, d2] => { results := [.lit (.bool false)], args := [d1, d2] }
  | _ => none }
def RemoteGrowsWrongFalsely : Prop := remoteGrowsRow.holds Try.pinned (OpenSpec.ofChange remoteGrowsWrong)

/-- 'aditlaw19.RemoteStages': WHATEVER THE INPUT: true; the input reads as it did. -/
def remoteStagesSpec : ChangeSpec := { name := "remoteStages", fn := fun _ => fun
  | [d1, d2, d3, d4] => { results := [.lit (.bool true)], args := [d1, d2, d3, d4] }
  | _ => none }
def remoteStagesRow : OpenClaim := { program := "ytfcfafacjeknaaa", sum := "f3b466f4b45700f6859919060370a9506691b098c422e178d6effc29197e50fc", func := "adit/aditlaw19.RemoteStages", spec := "remoteStages", apart := false }
def RemoteStagesSaid : Prop := remoteStagesRow.holds Try.pinned (OpenSpec.ofChange remoteStagesSpec)

/-- ITS FALSE NEIGHBOUR: 'it returns false'. Refute it at one input. -/
def remoteStagesWrong : ChangeSpec := { name := "remoteStages", fn := fun _ => fun
  | [d1, d2, d3, d4] => { results := [.lit (.bool false)], args := [d1, d2, d3, d4] }
  | _ => none }
def RemoteStagesWrongFalsely : Prop := remoteStagesRow.holds Try.pinned (OpenSpec.ofChange remoteStagesWrong)

/- THE SECOND FORM. 'bulk': how many values and letters a reading holds, each counted each time it is reached (what is shared counts as often as it is met; a slice's spare places count too). A statement '..UptoSaid' is the law's where the arguments, and the package variables that the reading takes, are together of bulk at most 1048576: NARROWER than '..Said'. Prove '..Said' where nothing that the law and all that it calls make is longer than what came in: it says more and counts as full. Else prove '..UptoSaid'. A law counts once. -/
mutual
def uptoBulk {H : Type} : DataW H → Nat
  | .lit (.string bytes) => bytes.length + 1
  | .lit _ => 1
  | .nil => 1
  | .ptr d => uptoBulk d + 1
  | .slice elems spare => uptoBulkAll elems + uptoBulkAll spare + 1
  | .agg parts => uptoBulkAll parts + 1
  | .iface _ d => uptoBulk d + 1
  | .map entries => uptoBulkEntries entries + 1
  | .held _ => 1
def uptoBulkAll {H : Type} : List (DataW H) → Nat
  | [] => 0
  | d :: r => uptoBulk d + uptoBulkAll r
def uptoBulkEntries {H : Type} : List (Lit × DataW H) → Nat
  | [] => 0
  | x :: r => uptoBulkEntry x + uptoBulkEntries r
def uptoBulkEntry {H : Type} : Lit × DataW H → Nat
  | (.string bytes, d) => bytes.length + uptoBulk d + 1
  | (_, d) => uptoBulk d + 1
 end
def uptoSmall : (H : Type) → List (DataW H) → Bool := fun _ ds => decide (uptoBulkAll ds ≤ 1048576)
def OpenSpec.upto (s : _root_.Go.ChangeSpec) : _root_.Go.OpenSpec := { _root_.Go.OpenSpec.ofChange s with cond := some uptoSmall }

/-- 'aditlaw12.ChunkSends', WHERE WHAT IT READS IS OF BULK AT MOST 1048576: true; the input reads as it did. -/
def chunkSendsUptoRow : OpenClaim := { program := "ytfcfafacjeknaaa", sum := "f3b466f4b45700f6859919060370a9506691b098c422e178d6effc29197e50fc", func := "adit/aditlaw12.ChunkSends", spec := "chunkSends", apart := false, narrowed := true }
def ChunkSendsUptoSaid : Prop := chunkSendsUptoRow.holds Try.pinned (OpenSpec.upto chunkSendsSpec)

/-- 'aditlaw12.ChunkRounds', WHERE WHAT IT READS IS OF BULK AT MOST 1048576: true; the input reads as it did. -/
def chunkRoundsUptoRow : OpenClaim := { program := "ytfcfafacjeknaaa", sum := "f3b466f4b45700f6859919060370a9506691b098c422e178d6effc29197e50fc", func := "adit/aditlaw12.ChunkRounds", spec := "chunkRounds", apart := false, narrowed := true }
def ChunkRoundsUptoSaid : Prop := chunkRoundsUptoRow.holds Try.pinned (OpenSpec.upto chunkRoundsSpec)

/-- 'aditlaw12.ChunkSplits', WHERE WHAT IT READS IS OF BULK AT MOST 1048576: true; the input reads as it did. -/
def chunkSplitsUptoRow : OpenClaim := { program := "ytfcfafacjeknaaa", sum := "f3b466f4b45700f6859919060370a9506691b098c422e178d6effc29197e50fc", func := "adit/aditlaw12.ChunkSplits", spec := "chunkSplits", apart := false, narrowed := true }
def ChunkSplitsUptoSaid : Prop := chunkSplitsUptoRow.holds Try.pinned (OpenSpec.upto chunkSplitsSpec)

/-- 'aditlaw12.ChunkTakes', WHERE WHAT IT READS IS OF BULK AT MOST 1048576: true; the input reads as it did. -/
def chunkTakesUptoRow : OpenClaim := { program := "ytfcfafacjeknaaa", sum := "f3b466f4b45700f6859919060370a9506691b098c422e178d6effc29197e50fc", func := "adit/aditlaw12.ChunkTakes", spec := "chunkTakes", apart := false, narrowed := true }
def ChunkTakesUptoSaid : Prop := chunkTakesUptoRow.holds Try.pinned (OpenSpec.upto chunkTakesSpec)

/-- 'aditlaw12.ChunkBits', WHERE WHAT IT READS IS OF BULK AT MOST 1048576: true; the input reads as it did. -/
def chunkBitsUptoRow : OpenClaim := { program := "ytfcfafacjeknaaa", sum := "f3b466f4b45700f6859919060370a9506691b098c422e178d6effc29197e50fc", func := "adit/aditlaw12.ChunkBits", spec := "chunkBits", apart := false, narrowed := true }
def ChunkBitsUptoSaid : Prop := chunkBitsUptoRow.holds Try.pinned (OpenSpec.upto chunkBitsSpec)

/-- 'aditlaw12.ChunkComes', WHERE WHAT IT READS IS OF BULK AT MOST 1048576: true; the input reads as it did. -/
def chunkComesUptoRow : OpenClaim := { program := "ytfcfafacjeknaaa", sum := "f3b466f4b45700f6859919060370a9506691b098c422e178d6effc29197e50fc", func := "adit/aditlaw12.ChunkComes", spec := "chunkComes", apart := false, narrowed := true }
def ChunkComesUptoSaid : Prop := chunkComesUptoRow.holds Try.pinned (OpenSpec.upto chunkComesSpec)

/-- 'aditlaw19.RemoteLate', WHERE WHAT IT READS IS OF BULK AT MOST 1048576: true; the input reads as it did. -/
def remoteLateUptoRow : OpenClaim := { program := "ytfcfafacjeknaaa", sum := "f3b466f4b45700f6859919060370a9506691b098c422e178d6effc29197e50fc", func := "adit/aditlaw19.RemoteLate", spec := "remoteLate", apart := false, narrowed := true }
def RemoteLateUptoSaid : Prop := remoteLateUptoRow.holds Try.pinned (OpenSpec.upto remoteLateSpec)

/-- 'aditlaw19.RemoteGrows', WHERE WHAT IT READS IS OF BULK AT MOST 1048576: true; the input reads as it did. -/
def remoteGrowsUptoRow : OpenClaim := { program := "ytfcfafacjeknaaa", sum := "f3b466f4b45700f6859919060370a9506691b098c422e178d6effc29197e50fc", func := "adit/aditlaw19.RemoteGrows", spec := "remoteGrows", apart := false, narrowed := true }
def RemoteGrowsUptoSaid : Prop := remoteGrowsUptoRow.holds Try.pinned (OpenSpec.upto remoteGrowsSpec)

/-- 'aditlaw19.RemoteStages', WHERE WHAT IT READS IS OF BULK AT MOST 1048576: true; the input reads as it did. -/
def remoteStagesUptoRow : OpenClaim := { program := "ytfcfafacjeknaaa", sum := "f3b466f4b45700f6859919060370a9506691b098c422e178d6effc29197e50fc", func := "adit/aditlaw19.RemoteStages", spec := "remoteStages", apart := false, narrowed := true }
def RemoteStagesUptoSaid : Prop := remoteStagesUptoRow.holds Try.pinned (OpenSpec.upto remoteStagesSpec)

end Rows
end Go.Proofs.Ytfcfafacjeknaaa

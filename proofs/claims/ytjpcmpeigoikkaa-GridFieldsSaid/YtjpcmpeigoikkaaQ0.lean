/- By a program of this session's own, over the translation and the contracts by hand: each function's answers as a Lean function, and that the code comes to them. -/
import Derived.Test.YtjpcmpeigoikkaaProg
import Derived.Below
import Derived.Deep.Draws
import Derived.Deep.AppendLies
import Derived.Maps.AppendAt
import Derived.OwnWalk
import Derived.Laws.BytesArg
import Derived.Laws.MakeOwn
import Derived.Laws.OwnMore
import Derived.Deep.OwnRows
import Derived.Tactics
import Derived.Lib.ConvBytes
import Derived.Laws.Slices
import Derived.WalkKit
import Derived.KernelRfl
import Derived.RowKit3
import Derived.Deep.LoopGhost
import Derived.Deep.QuietTactic
import Derived.BigQuiet
import Derived.WideLaws
import Derived.Deep.DeepCutAuto
import Derived.Deep.CutBlock
import Derived.Deep.RegionHeld3
import Derived.Laws.Rows
import Derived.Lib.AppendStr
import Derived.ArgAppend
import Derived.Laws.IdiomCopy
import Derived.OrdersHeld
import Derived.Laws.BitsLemmas
import Derived.RowKit
import Derived.Test.YtjpcmpeigoikkaaIdx
import Derived.Test.YtjpcmpeigoikkaaScope
import Derived.Test.YtjpcmpeigoikkaaWWords
import Derived.Test.YtjpcmpeigoikkaaWLast
import Derived.Test.YtjpcmpeigoikkaaWTab
import Derived.Test.YtjpcmpeigoikkaaWFour
import Derived.Test.YtjpcmpeigoikkaaWQPut
import Derived.Test.YtjpcmpeigoikkaaWApart
import Derived.Test.YtjpcmpeigoikkaaWArr
import Derived.Test.YtjpcmpeigoikkaaWZeros
import Derived.Test.YtjpcmpeigoikkaaWFoot
import Derived.Test.YtjpcmpeigoikkaaWKept
import Derived.Test.YtjpcmpeigoikkaaWShare
import Derived.Test.YtjpcmpeigoikkaaWN
import Derived.Test.YtjpcmpeigoikkaaWFootNe
import Derived.Test.YtjpcmpeigoikkaaWAt
import Derived.Test.YtjpcmpeigoikkaaWEqStruct
import Derived.Test.YtjpcmpeigoikkaaWRepsOne
import Derived.Test.YtjpcmpeigoikkaaWInv
import Derived.Test.YtjpcmpeigoikkaaWInvWords
import Derived.Test.YtjpcmpeigoikkaaWGuard
import Derived.Test.YtjpcmpeigoikkaaWNEv
import Derived.Test.YtjpcmpeigoikkaaWMore
namespace Go.Proofs.Ytjpcmpeigoikkaa.Q
open Go.RowKit Go.Proofs.YtjpcmpeigoikkaaW.PrintWords Go.Proofs.YtjpcmpeigoikkaaW.PrintLast Go.Proofs.YtjpcmpeigoikkaaW.PrintMore
attribute [local go_sem] max2_int min2_int max_two min_two max_three min_three max_four min_four   -- for this text's walks alone
set_option linter.unusedVariables false
set_option linter.unusedSimpArgs false



def errW : Option Int → Value
  | none => .nilIface
  | some c => .iface 0 (.int .i64 c)
theorem errW_none : errW none = .nilIface := rfl
theorem errW_some (c : Int) : errW (some c) = .iface 0 (.int .i64 c) := rfl

theorem info3 : (Try.prog.info? 3).map (fun i => (i.zero, i.size, i.bytes)) = some (some (.int .i64 0), 1, 8) := by kernel_rfl
theorem info4 : (Try.prog.info? 4).map (fun i => (i.zero, i.size, i.bytes)) = some (some (.bool false), 1, 1) := by kernel_rfl
theorem info5 : (Try.prog.info? 5).map (fun i => (i.zero, i.size, i.bytes)) = some (some (.int .u8 0), 1, 1) := by kernel_rfl
-- the values' own types

end Go.Proofs.Ytjpcmpeigoikkaa.Q

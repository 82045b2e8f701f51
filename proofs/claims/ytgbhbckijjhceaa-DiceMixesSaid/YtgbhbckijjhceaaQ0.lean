/- By a program of this session's own, over the translation and the contracts by hand: each function's answers as a Lean function, and that the code comes to them. -/
import Derived.Test.YtgbhbckijjhceaaProg
import Derived.Below
import Derived.Deep.Draws
import Derived.Deep.AppendLies
import Derived.Maps.AppendAt
import Derived.OwnWalk
import Derived.Laws.BytesArg
import Derived.Laws.MakeOwn
import Derived.Laws.OwnMore
import Derived.Deep.OwnRows
import Derived.Tactics
import Derived.Lib.ConvBytes
import Derived.Laws.Slices
import Derived.WalkKit
import Derived.KernelRfl
import Derived.RowKit3
import Derived.Deep.LoopGhost
import Derived.Deep.QuietTactic
import Derived.BigQuiet
import Derived.WideLaws
import Derived.Deep.DeepCutAuto
import Derived.Deep.CutBlock
import Derived.Deep.RegionHeld3
import Derived.Laws.Rows
import Derived.Lib.AppendStr
import Derived.ArgAppend
import Derived.Laws.IdiomCopy
import Derived.OrdersHeld
import Derived.Laws.BitsLemmas
import Derived.RowKit
import Derived.Test.YtgbhbckijjhceaaWWords
import Derived.Test.YtgbhbckijjhceaaWLast
import Derived.Test.YtgbhbckijjhceaaWTab
import Derived.Test.YtgbhbckijjhceaaWFour
import Derived.Test.YtgbhbckijjhceaaWQPut
import Derived.Test.YtgbhbckijjhceaaWApart
import Derived.Test.YtgbhbckijjhceaaWArr
import Derived.Test.YtgbhbckijjhceaaWZeros
import Derived.Test.YtgbhbckijjhceaaWFoot
import Derived.Test.YtgbhbckijjhceaaWKept
import Derived.Test.YtgbhbckijjhceaaWShare
import Derived.Test.YtgbhbckijjhceaaWN
import Derived.Test.YtgbhbckijjhceaaWFootNe
import Derived.Test.YtgbhbckijjhceaaWAt
import Derived.Test.YtgbhbckijjhceaaWEqStruct
import Derived.Test.YtgbhbckijjhceaaWRepsOne
import Derived.Test.YtgbhbckijjhceaaWInv
import Derived.Test.YtgbhbckijjhceaaWInvWords
import Derived.Test.YtgbhbckijjhceaaWGuard
import Derived.Test.YtgbhbckijjhceaaWNEv
import Derived.Test.YtgbhbckijjhceaaWMore
namespace Go.Proofs.Ytgbhbckijjhceaa.Q
open Go.RowKit Go.Proofs.YtgbhbckijjhceaaW.PrintWords Go.Proofs.YtgbhbckijjhceaaW.PrintLast Go.Proofs.YtgbhbckijjhceaaW.PrintMore
attribute [local go_sem] max2_int min2_int max_two min_two max_three min_three max_four min_four   -- for this text's walks alone
set_option linter.unusedVariables false
set_option linter.unusedSimpArgs false



def errW : Option Int → Value
  | none => .nilIface
  | some c => .iface 0 (.int .i64 c)
theorem errW_none : errW none = .nilIface := rfl
theorem errW_some (c : Int) : errW (some c) = .iface 0 (.int .i64 c) := rfl

theorem info3 : (Try.prog.info? 3).map (fun i => (i.zero, i.size, i.bytes)) = some (some (.int .i64 0), 1, 8) := by kernel_rfl
-- the values' own types

end Go.Proofs.Ytgbhbckijjhceaa.Q

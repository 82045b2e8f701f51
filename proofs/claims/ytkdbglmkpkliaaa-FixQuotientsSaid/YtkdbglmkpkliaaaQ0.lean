/- By a program of this session's own, over the translation and the contracts by hand: each function's answers as a Lean function, and that the code comes to them. -/
import Derived.Test.YtkdbglmkpkliaaaProg
import Derived.Below
import Derived.Deep.Draws
import Derived.Deep.AppendLies
import Derived.Maps.AppendAt
import Derived.OwnWalk
import Derived.Laws.BytesArg
import Derived.Laws.MakeOwn
import Derived.Laws.OwnMore
import Derived.Deep.OwnRows
import Derived.Tactics
import Derived.Lib.ConvBytes
import Derived.Laws.Slices
import Derived.WalkKit
import Derived.KernelRfl
import Derived.RowKit3
import Derived.Deep.LoopGhost
import Derived.Deep.QuietTactic
import Derived.BigQuiet
import Derived.WideLaws
import Derived.Deep.DeepCutAuto
import Derived.Deep.CutBlock
import Derived.Deep.RegionHeld3
import Derived.Laws.Rows
import Derived.Lib.AppendStr
import Derived.ArgAppend
import Derived.Laws.IdiomCopy
import Derived.OrdersHeld
import Derived.Laws.BitsLemmas
import Derived.RowKit
import Derived.Test.YtkdbglmkpkliaaaShelf
import Derived.Test.YtkdbglmkpkliaaaFloat
import Derived.Lib.Hide
import Derived.Laws.Cover3
import Derived.Test.YtkdbglmkpkliaaaWWords
import Derived.Test.YtkdbglmkpkliaaaWLast
import Derived.Test.YtkdbglmkpkliaaaWTab
import Derived.Test.YtkdbglmkpkliaaaWFour
import Derived.Test.YtkdbglmkpkliaaaWQPut
import Derived.Test.YtkdbglmkpkliaaaWApart
import Derived.Test.YtkdbglmkpkliaaaWArr
import Derived.Test.YtkdbglmkpkliaaaWZeros
import Derived.Test.YtkdbglmkpkliaaaWFoot
import Derived.Test.YtkdbglmkpkliaaaWKept
import Derived.Test.YtkdbglmkpkliaaaWShare
import Derived.Test.YtkdbglmkpkliaaaWN
import Derived.Test.YtkdbglmkpkliaaaWFootNe
import Derived.Test.YtkdbglmkpkliaaaWAt
import Derived.Test.YtkdbglmkpkliaaaWEqStruct
import Derived.Test.YtkdbglmkpkliaaaWRepsOne
import Derived.Test.YtkdbglmkpkliaaaWInv
import Derived.Test.YtkdbglmkpkliaaaWInvWords
import Derived.Test.YtkdbglmkpkliaaaWGuard
import Derived.Test.YtkdbglmkpkliaaaWNEv
import Derived.Test.YtkdbglmkpkliaaaWMore
namespace Go.Proofs.Ytkdbglmkpkliaaa.Q
open Go.RowKit Go.Proofs.YtkdbglmkpkliaaaW.PrintWords Go.Proofs.YtkdbglmkpkliaaaW.PrintLast Go.Proofs.YtkdbglmkpkliaaaW.PrintMore
attribute [local go_sem] max2_int min2_int max_two min_two max_three min_three max_four min_four   -- for this text's walks alone
set_option linter.unusedVariables false
set_option linter.unusedSimpArgs false



def errW : Option Int → Value
  | none => .nilIface
  | some c => .iface 0 (.int .i64 c)
theorem errW_none : errW none = .nilIface := rfl
theorem errW_some (c : Int) : errW (some c) = .iface 0 (.int .i64 c) := rfl

-- the values' own types

end Go.Proofs.Ytkdbglmkpkliaaa.Q

-- Our own text, written by wip/qprint.py over the kit's print.
import Derived.Test.YtmocablibmkebaaProg
import Derived.Below
import Derived.Deep.Draws
import Derived.Deep.AppendLies
import Derived.Maps.AppendAt
import Derived.OwnWalk
import Derived.Laws.BytesArg
import Derived.Laws.MakeOwn
import Derived.Laws.OwnMore
import Derived.Deep.OwnRows
import Derived.Tactics
import Derived.Lib.ConvBytes
import Derived.Laws.Slices
import Derived.WalkKit
import Derived.KernelRfl
import Derived.RowKit3
import Derived.Deep.LoopGhost
import Derived.Deep.QuietTactic
import Derived.BigQuiet
import Derived.WideLaws
import Derived.Deep.DeepCutAuto
import Derived.Deep.CutBlock
import Derived.Deep.RegionHeld3
import Derived.Laws.Rows
import Derived.Lib.AppendStr
import Derived.ArgAppend
import Derived.Laws.IdiomCopy
import Derived.OrdersHeld
import Derived.Laws.BitsLemmas
import Derived.RowKit
import Derived.Test.YtmocablibmkebaaWWords
import Derived.Test.YtmocablibmkebaaWLast
import Derived.Test.YtmocablibmkebaaWTab
import Derived.Test.YtmocablibmkebaaWFour
import Derived.Test.YtmocablibmkebaaWQPut
import Derived.Test.YtmocablibmkebaaWApart
import Derived.Test.YtmocablibmkebaaWArr
import Derived.Test.YtmocablibmkebaaWZeros
import Derived.Test.YtmocablibmkebaaWFoot
import Derived.Test.YtmocablibmkebaaWKept
import Derived.Test.YtmocablibmkebaaWShare
import Derived.Test.YtmocablibmkebaaWN
import Derived.Test.YtmocablibmkebaaWFootNe
import Derived.Test.YtmocablibmkebaaWAt
import Derived.Test.YtmocablibmkebaaWEqStruct
import Derived.Test.YtmocablibmkebaaWRepsOne
import Derived.Test.YtmocablibmkebaaWInv
import Derived.Test.YtmocablibmkebaaWInvWords
import Derived.Test.YtmocablibmkebaaWGuard
import Derived.Test.YtmocablibmkebaaWNEv
import Derived.Test.YtmocablibmkebaaWMore
namespace Go.Proofs.Ytmocablibmkebaa.Qi
open Go.RowKit Go.Proofs.YtmocablibmkebaaW.PrintWords Go.Proofs.YtmocablibmkebaaW.PrintLast Go.Proofs.YtmocablibmkebaaW.PrintMore
attribute [local go_sem] max2_int min2_int max_two min_two max_three min_three max_four min_four   -- for this text's walks alone
set_option linter.unusedVariables false
set_option linter.unusedSimpArgs false



def errW : Option Int → Value
  | none => .nilIface
  | some c => .iface 0 (.int .i64 c)
theorem errW_none : errW none = .nilIface := rfl
theorem errW_some (c : Int) : errW (some c) = .iface 0 (.int .i64 c) := rfl

-- the values' own types

end Go.Proofs.Ytmocablibmkebaa.Qi

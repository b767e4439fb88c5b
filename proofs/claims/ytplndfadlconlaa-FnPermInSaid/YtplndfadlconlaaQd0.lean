-- Our own text, written by wip/qprint.py over the kit's print.
import Derived.Test.YtplndfadlconlaaProg
import Derived.Below
import Derived.Deep.Draws
import Derived.Deep.AppendLies
import Derived.Maps.AppendAt
import Derived.OwnWalk
import Derived.Laws.BytesArg
import Derived.Laws.MakeOwn
import Derived.Laws.OwnMore
import Derived.Deep.OwnRows
import Derived.Tactics
import Derived.Lib.ConvBytes
import Derived.Laws.Slices
import Derived.WalkKit
import Derived.KernelRfl
import Derived.RowKit3
import Derived.Deep.LoopGhost
import Derived.Deep.QuietTactic
import Derived.BigQuiet
import Derived.WideLaws
import Derived.Deep.DeepCutAuto
import Derived.Deep.CutBlock
import Derived.Deep.RegionHeld3
import Derived.Laws.Rows
import Derived.Lib.AppendStr
import Derived.ArgAppend
import Derived.Laws.IdiomCopy
import Derived.OrdersHeld
import Derived.Laws.BitsLemmas
import Derived.RowKit
import Derived.Test.YtplndfadlconlaaClone
import Derived.Test.YtplndfadlconlaaPairs
import Derived.Test.YtplndfadlconlaaSorted
import Derived.Test.YtplndfadlconlaaWWords
import Derived.Test.YtplndfadlconlaaWLast
import Derived.Test.YtplndfadlconlaaWTab
import Derived.Test.YtplndfadlconlaaWFour
import Derived.Test.YtplndfadlconlaaWQPut
import Derived.Test.YtplndfadlconlaaWApart
import Derived.Test.YtplndfadlconlaaWArr
import Derived.Test.YtplndfadlconlaaWZeros
import Derived.Test.YtplndfadlconlaaWFoot
import Derived.Test.YtplndfadlconlaaWKept
import Derived.Test.YtplndfadlconlaaWShare
import Derived.Test.YtplndfadlconlaaWN
import Derived.Test.YtplndfadlconlaaWFootNe
import Derived.Test.YtplndfadlconlaaWAt
import Derived.Test.YtplndfadlconlaaWEqStruct
import Derived.Test.YtplndfadlconlaaWRepsOne
import Derived.Test.YtplndfadlconlaaWInv
import Derived.Test.YtplndfadlconlaaWInvWords
import Derived.Test.YtplndfadlconlaaWGuard
import Derived.Test.YtplndfadlconlaaWNEv
import Derived.Test.YtplndfadlconlaaWMore
namespace Go.Proofs.Ytplndfadlconlaa.Qd
open Go.RowKit Go.Proofs.Ytplndfadlconlaa.S Go.Proofs.YtplndfadlconlaaW.PrintWords Go.Proofs.YtplndfadlconlaaW.PrintLast Go.Proofs.YtplndfadlconlaaW.PrintMore
attribute [local go_sem] max2_int min2_int max_two min_two max_three min_three max_four min_four   -- for this text's walks alone
set_option linter.unusedVariables false
set_option linter.unusedSimpArgs false



def errW : Option Int → Value
  | none => .nilIface
  | some c => .iface 0 (.int .i64 c)
theorem errW_none : errW none = .nilIface := rfl
theorem errW_some (c : Int) : errW (some c) = .iface 0 (.int .i64 c) := rfl

theorem info3 : (Try.prog.info? 3).map (fun i => (i.zero, i.size, i.bytes)) = some (some (.int .i64 0), 1, 8) := by kernel_rfl
-- the values' own types

end Go.Proofs.Ytplndfadlconlaa.Qd

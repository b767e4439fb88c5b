-- Our own text, written by wip/qprint.py over the kit's print.
import Derived.Test.YtpilppppkjenaaaProg
import Derived.Below
import Derived.Deep.Draws
import Derived.Deep.AppendLies
import Derived.Maps.AppendAt
import Derived.OwnWalk
import Derived.Laws.BytesArg
import Derived.Laws.MakeOwn
import Derived.Laws.OwnMore
import Derived.Deep.OwnRows
import Derived.Tactics
import Derived.Lib.ConvBytes
import Derived.Laws.Slices
import Derived.WalkKit
import Derived.KernelRfl
import Derived.RowKit3
import Derived.Deep.LoopGhost
import Derived.Deep.QuietTactic
import Derived.BigQuiet
import Derived.WideLaws
import Derived.Deep.DeepCutAuto
import Derived.Deep.CutBlock
import Derived.Deep.RegionHeld3
import Derived.Laws.Rows
import Derived.Lib.AppendStr
import Derived.ArgAppend
import Derived.Laws.IdiomCopy
import Derived.OrdersHeld
import Derived.Laws.BitsLemmas
import Derived.RowKit
import Derived.Test.YtpilppppkjenaaaMv2
import Derived.Test.YtpilppppkjenaaaWWords
import Derived.Test.YtpilppppkjenaaaWLast
import Derived.Test.YtpilppppkjenaaaWTab
import Derived.Test.YtpilppppkjenaaaWFour
import Derived.Test.YtpilppppkjenaaaWQPut
import Derived.Test.YtpilppppkjenaaaWApart
import Derived.Test.YtpilppppkjenaaaWArr
import Derived.Test.YtpilppppkjenaaaWZeros
import Derived.Test.YtpilppppkjenaaaWFoot
import Derived.Test.YtpilppppkjenaaaWKept
import Derived.Test.YtpilppppkjenaaaWShare
import Derived.Test.YtpilppppkjenaaaWN
import Derived.Test.YtpilppppkjenaaaWFootNe
import Derived.Test.YtpilppppkjenaaaWAt
import Derived.Test.YtpilppppkjenaaaWEqStruct
import Derived.Test.YtpilppppkjenaaaWRepsOne
import Derived.Test.YtpilppppkjenaaaWInv
import Derived.Test.YtpilppppkjenaaaWInvWords
import Derived.Test.YtpilppppkjenaaaWGuard
import Derived.Test.YtpilppppkjenaaaWNEv
import Derived.Test.YtpilppppkjenaaaWMore
namespace Go.Proofs.Ytpilppppkjenaaa.Qa
open Go.RowKit Go.Proofs.Ytpilppppkjenaaa.S Go.Proofs.YtpilppppkjenaaaW.PrintWords Go.Proofs.YtpilppppkjenaaaW.PrintLast Go.Proofs.YtpilppppkjenaaaW.PrintMore
attribute [local go_sem] max2_int min2_int max_two min_two max_three min_three max_four min_four   -- for this text's walks alone
set_option linter.unusedVariables false
set_option linter.unusedSimpArgs false



def errW : Option Int → Value
  | none => .nilIface
  | some c => .iface 0 (.int .i64 c)
theorem errW_none : errW none = .nilIface := rfl
theorem errW_some (c : Int) : errW (some c) = .iface 0 (.int .i64 c) := rfl

theorem info5 : (Try.prog.info? 5).map (fun i => (i.zero, i.size, i.bytes)) = some (some (.int .u8 0), 1, 1) := by kernel_rfl
theorem info9 : (Try.prog.info? 9).map (fun i => (i.zero, i.size, i.bytes)) = some (some (.string ⟨#[]⟩), 1, 16) := by kernel_rfl
-- the values' own types

end Go.Proofs.Ytpilppppkjenaaa.Qa

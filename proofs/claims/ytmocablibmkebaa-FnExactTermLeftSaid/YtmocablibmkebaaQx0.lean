-- Our own text, written by wip/qprint.py over the kit's print.
import Derived.Test.YtmocablibmkebaaProg
import Derived.Below
import Derived.Test.YtmocablibmkebaaQs0
import Derived.Deep.Draws
import Derived.Deep.AppendLies
import Derived.Maps.AppendAt
import Derived.OwnWalk
import Derived.Laws.BytesArg
import Derived.Laws.MakeOwn
import Derived.Laws.OwnMore
import Derived.Deep.OwnRows
import Derived.Tactics
import Derived.Lib.ConvBytes
import Derived.Laws.Slices
import Derived.WalkKit
import Derived.KernelRfl
import Derived.RowKit3
import Derived.Deep.LoopGhost
import Derived.Deep.QuietTactic
import Derived.BigQuiet
import Derived.WideLaws
import Derived.Deep.DeepCutAuto
import Derived.Deep.CutBlock
import Derived.Deep.RegionHeld3
import Derived.Laws.Rows
import Derived.Lib.AppendStr
import Derived.ArgAppend
import Derived.Laws.IdiomCopy
import Derived.OrdersHeld
import Derived.Laws.BitsLemmas
import Derived.RowKit
import Derived.Test.YtmocablibmkebaaWWords
import Derived.Test.YtmocablibmkebaaWLast
import Derived.Test.YtmocablibmkebaaWTab
import Derived.Test.YtmocablibmkebaaWFour
import Derived.Test.YtmocablibmkebaaWQPut
import Derived.Test.YtmocablibmkebaaWApart
import Derived.Test.YtmocablibmkebaaWArr
import Derived.Test.YtmocablibmkebaaWZeros
import Derived.Test.YtmocablibmkebaaWFoot
import Derived.Test.YtmocablibmkebaaWKept
import Derived.Test.YtmocablibmkebaaWShare
import Derived.Test.YtmocablibmkebaaWN
import Derived.Test.YtmocablibmkebaaWFootNe
import Derived.Test.YtmocablibmkebaaWAt
import Derived.Test.YtmocablibmkebaaWEqStruct
import Derived.Test.YtmocablibmkebaaWRepsOne
import Derived.Test.YtmocablibmkebaaWInv
import Derived.Test.YtmocablibmkebaaWInvWords
import Derived.Test.YtmocablibmkebaaWGuard
import Derived.Test.YtmocablibmkebaaWNEv
import Derived.Test.YtmocablibmkebaaWMore
namespace Go.Proofs.Ytmocablibmkebaa.Qx
open Go.RowKit Go.Proofs.Ytmocablibmkebaa.Qs Go.Proofs.YtmocablibmkebaaW.PrintWords Go.Proofs.YtmocablibmkebaaW.PrintLast Go.Proofs.YtmocablibmkebaaW.PrintMore
attribute [local go_sem] max2_int min2_int max_two min_two max_three min_three max_four min_four   -- for this text's walks alone
set_option linter.unusedVariables false
set_option linter.unusedSimpArgs false



def errW : Option Int → Value
  | none => .nilIface
  | some c => .iface 0 (.int .i64 c)
theorem errW_none : errW none = .nilIface := rfl
theorem errW_some (c : Int) : errW (some c) = .iface 0 (.int .i64 c) := rfl

theorem info32 : (Try.prog.info? 32).map (fun i => (i.zero, i.size, i.bytes)) = some (some (.agg #[(.int .u8 0), (.slice none 0 0)]), 2, 32) := by kernel_rfl
-- the values' own types
/-! #### struct type 32, nested in itself -/
theorem k32_openF {W : World} {ok : Nat → Prop} {x : S32} {cs : List Value} (h : Kd.FK k32 W ok x cs) : ∃ A1 c1, cs = [.int .u8 x.f0, .slice A1 x.f1.length c1] ∧ x.f1.length ≤ c1 ∧ Kd.F k32 W ok A1 x.f1.length x.f1 := by
  obtain ⟨A1, c1, rfl, l1, _⟩ := k32_open (Kd.FK_now h)
  exact ⟨A1, c1, rfl, l1, (fun W' hW => by obtain ⟨A1_, c1_, he, l1_, g1_⟩ := k32_open (h W' hW); injection (Option.some.inj (show some (Value.slice A1 x.f1.length c1) = some (Value.slice A1_ x.f1.length c1_) from congrArg (fun l => l[1]?) he)) with ha_ _ _; rw [ha_]; exact g1_)⟩
theorem k32_mkF (W : World) (ok : Nat → Prop) (x : S32) {A1 : Option Addr} {c1 : Nat} (l1 : x.f1.length ≤ c1) (g1 : Kd.F k32 W ok A1 x.f1.length x.f1) : Kd.FK k32 W ok x [.int .u8 x.f0, .slice A1 x.f1.length c1] := fun W2 hW => k32_mk W2 x l1 (g1 W2 hW)
end Go.Proofs.Ytmocablibmkebaa.Qx

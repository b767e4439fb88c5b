/- PermLooseCount returns what the reference returns, for all arguments. -/
import Derived.Test.YtgehkabfjpifiaaLQc
namespace Go.Proofs.Ytgehkabfjpifiaa.Pure
open Go.RowKit Go.Proofs.Ytgehkabfjpifiaa.Qc Go.Proofs.YtgehkabfjpifiaaW.PrintWords Go.Proofs.YtgehkabfjpifiaaW.PrintLast Go.Proofs.YtgehkabfjpifiaaW.PrintMore
open Go.Proofs.Ytgehkabfjpifiaa.QcL
set_option linter.unusedVariables false
set_option linter.unusedSimpArgs false

theorem FnExactPermLooseCount : laws_FnExactPermLooseCount.Pure := by
  intro n _
  refine ⟨20000, ?_⟩
  unfold laws_FnExactPermLooseCount.f
  rw [spec_loosecount_eq n _ (by omega)]
  simp only [Option.bind_some]
  have e : Go.Proofs.Ytgehkabfjpifiaa.S.impl_PermLooseCount.f n = some (Go.Proofs.Ytgehkabfjpifiaa.S.cnt Go.Proofs.Ytgehkabfjpifiaa.S.looseB n) := rfl
  rw [e]
  simp

end Go.Proofs.Ytgehkabfjpifiaa.Pure

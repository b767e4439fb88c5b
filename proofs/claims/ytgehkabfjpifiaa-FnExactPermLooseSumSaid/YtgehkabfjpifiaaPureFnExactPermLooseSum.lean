/- PermLooseSum returns what the reference returns, for all arguments. -/
import Derived.Test.YtgehkabfjpifiaaLQb
namespace Go.Proofs.Ytgehkabfjpifiaa.Pure
open Go.RowKit Go.Proofs.Ytgehkabfjpifiaa.Qb Go.Proofs.YtgehkabfjpifiaaW.PrintWords Go.Proofs.YtgehkabfjpifiaaW.PrintLast Go.Proofs.YtgehkabfjpifiaaW.PrintMore
open Go.Proofs.Ytgehkabfjpifiaa.QbL
set_option linter.unusedVariables false
set_option linter.unusedSimpArgs false

theorem FnExactPermLooseSum : laws_FnExactPermLooseSum.Pure := by
  intro n _
  refine ⟨60, ?_⟩
  unfold laws_FnExactPermLooseSum.f
  rw [spec_loosesum_eq, impl_loosesum_eq]
  simp

end Go.Proofs.Ytgehkabfjpifiaa.Pure

/- PermFairSum returns what the reference returns, for all arguments. -/
import Derived.Test.YtgehkabfjpifiaaLQa
namespace Go.Proofs.Ytgehkabfjpifiaa.Pure
open Go.RowKit Go.Proofs.Ytgehkabfjpifiaa.Qa Go.Proofs.YtgehkabfjpifiaaW.PrintWords Go.Proofs.YtgehkabfjpifiaaW.PrintLast Go.Proofs.YtgehkabfjpifiaaW.PrintMore
open Go.Proofs.Ytgehkabfjpifiaa.QaL
set_option linter.unusedVariables false
set_option linter.unusedSimpArgs false

theorem FnExactPermFairSum : laws_FnExactPermFairSum.Pure := by
  intro n _
  refine ⟨40, ?_⟩
  unfold laws_FnExactPermFairSum.f
  rw [spec_fairsum_eq, impl_fairsum_eq]
  by_cases h : 1 ≤ n ∧ n ≤ 7
  · rw [if_pos h]; simp
  · rw [if_neg h]; simp

end Go.Proofs.Ytgehkabfjpifiaa.Pure

/- Fair ones grow (P63): for every code. -/
import Derived.Test.YtgehkabfjpifiaaLQa
namespace Go.Proofs.Ytgehkabfjpifiaa.Pure
open Go.RowKit Go.Proofs.Ytgehkabfjpifiaa.Qa Go.Proofs.YtgehkabfjpifiaaW.PrintWords Go.Proofs.YtgehkabfjpifiaaW.PrintLast Go.Proofs.YtgehkabfjpifiaaW.PrintMore
open Go.Proofs.Ytgehkabfjpifiaa.QaL
set_option linter.unusedVariables false
set_option linter.unusedSimpArgs false

theorem FnFairSum : laws_FnFairSum.Pure := by
  intro l _ _ hwf
  refine ⟨40, ?_⟩
  unfold laws_FnFairSum.f
  by_cases h0 : (l.length : Int) > 1048576
  · rw [if_pos h0]
  rw [if_neg h0]
  obtain ⟨n, hr, n0, n1⟩ := draw_number l (bytes_of_wf hwf) 40 (by omega)
  unfold spec_DrawPermFairSum.f
  rw [hr]
  simp only [Option.bind_some]
  rw [impl_fairsum_eq, spec_fairsum_eq, w64 (n - 1) (by omega), impl_fairsum_eq]
  by_cases h : 1 ≤ n ∧ n ≤ 7
  · rw [if_pos h]
    have : n = 1 ∨ n = 2 ∨ n = 3 ∨ n = 4 ∨ n = 5 ∨ n = 6 ∨ n = 7 := by omega
    rcases this with rfl | rfl | rfl | rfl | rfl | rfl | rfl <;> decide
  · rw [if_neg h]
    simp

end Go.Proofs.Ytgehkabfjpifiaa.Pure

/- Loose ones are even in number from two on (P65): for every code. -/
import Derived.Test.YtgehkabfjpifiaaLQb
namespace Go.Proofs.Ytgehkabfjpifiaa.Pure
open Go.RowKit Go.Proofs.Ytgehkabfjpifiaa.Qb Go.Proofs.YtgehkabfjpifiaaW.PrintWords Go.Proofs.YtgehkabfjpifiaaW.PrintLast Go.Proofs.YtgehkabfjpifiaaW.PrintMore
open Go.Proofs.Ytgehkabfjpifiaa.QbL
set_option linter.unusedVariables false
set_option linter.unusedSimpArgs false

theorem FnLooseSum : laws_FnLooseSum.Pure := by
  intro l _ _ hwf
  refine ⟨60, ?_⟩
  unfold laws_FnLooseSum.f
  by_cases h0 : (l.length : Int) > 1048576
  · rw [if_pos h0]
  rw [if_neg h0]
  obtain ⟨n, hr, n0, n1⟩ := draw_number l (bytes_of_wf hwf) 60 (by omega)
  unfold spec_DrawPermLooseSum.f
  rw [hr]
  simp only [Option.bind_some]
  rw [spec_loosesum_eq, impl_loosesum_eq]
  by_cases h : 1 ≤ n ∧ n ≤ 7
  · rw [if_pos h]
    have : n = 1 ∨ n = 2 ∨ n = 3 ∨ n = 4 ∨ n = 5 ∨ n = 6 ∨ n = 7 := by omega
    rcases this with rfl | rfl | rfl | rfl | rfl | rfl | rfl <;> decide
  · rw [if_neg h]
    simp

end Go.Proofs.Ytgehkabfjpifiaa.Pure

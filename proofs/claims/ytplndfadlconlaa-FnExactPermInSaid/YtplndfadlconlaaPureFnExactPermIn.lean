/- PermIn returns what the reference returns, for every list. -/
import Derived.Test.YtplndfadlconlaaLQa
namespace Go.Proofs.Ytplndfadlconlaa.Pure
open Go.RowKit Go.Proofs.Ytplndfadlconlaa.Qa Go.Proofs.YtplndfadlconlaaW.PrintWords Go.Proofs.YtplndfadlconlaaW.PrintLast Go.Proofs.YtplndfadlconlaaW.PrintMore
open Go.Proofs.Ytplndfadlconlaa.QaL
set_option linter.unusedVariables false
set_option linter.unusedSimpArgs false

theorem FnExactPermIn : laws_FnExactPermIn.Pure := by
  intro l _ _ _
  refine ⟨1048600, ?_⟩
  unfold laws_FnExactPermIn.f
  by_cases h0 : (l.length : Int) > 1048576
  · rw [if_pos h0]
  rw [if_neg h0]
  have hb : l.length ≤ 1048576 := by omega
  rw [toInt_eq l hb _ (by omega)]
  simp only [Option.bind_some]
  rw [spec_permin_eq l hb _ (by omega)]
  simp only [Option.bind_some]
  rw [impl_permin_eq l _ (by omega)]
  simp only [Option.bind_some]
  rw [if_neg (by simp), eqInt_self l hb _ (by omega)]
  rfl

end Go.Proofs.Ytplndfadlconlaa.Pure

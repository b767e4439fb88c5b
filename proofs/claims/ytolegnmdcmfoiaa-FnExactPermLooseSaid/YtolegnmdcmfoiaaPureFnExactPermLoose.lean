/- PermLoose returns what the reference returns, for every list. -/
import Derived.Test.YtolegnmdcmfoiaaLQe
namespace Go.Proofs.Ytolegnmdcmfoiaa.Pure
open Go.RowKit Go.Proofs.Ytolegnmdcmfoiaa.Qe Go.Proofs.YtolegnmdcmfoiaaW.PrintWords Go.Proofs.YtolegnmdcmfoiaaW.PrintLast Go.Proofs.YtolegnmdcmfoiaaW.PrintMore
open Go.Proofs.Ytolegnmdcmfoiaa.QeL
set_option linter.unusedVariables false
set_option linter.unusedSimpArgs false

theorem FnExactPermLoose : laws_FnExactPermLoose.Pure := by
  intro l _ _ _
  refine ⟨1048600, ?_⟩
  unfold laws_FnExactPermLoose.f
  by_cases h0 : (l.length : Int) > 1048576
  · rw [if_pos h0]
  rw [if_neg h0]
  have hb : l.length ≤ 1048576 := by omega
  rw [toInt_eq l hb _ (by omega)]
  simp only [Option.bind_some]
  rw [spec_permloose_eq l hb _ (by omega) (by omega)]
  simp only [Option.bind_some]
  rw [impl_permloose_eq l _ (by omega)]
  simp only [Option.bind_some]
  rw [if_neg (by simp), eqInt_self l hb _ (by omega)]
  simp only [Option.bind_some, if_true]

end Go.Proofs.Ytolegnmdcmfoiaa.Pure

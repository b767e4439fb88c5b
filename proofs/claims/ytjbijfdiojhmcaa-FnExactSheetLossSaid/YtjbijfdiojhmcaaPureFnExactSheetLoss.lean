/- SheetLoss returns what the reference's returns: for all arguments. -/
import Derived.Test.YtjbijfdiojhmcaaLQb
namespace Go.Proofs.Ytjbijfdiojhmcaa.Pure
open Go.RowKit Go.Proofs.Ytjbijfdiojhmcaa.Qb Go.Proofs.YtjbijfdiojhmcaaW.PrintWords Go.Proofs.YtjbijfdiojhmcaaW.PrintLast Go.Proofs.YtjbijfdiojhmcaaW.PrintMore
open Go.Proofs.Ytjbijfdiojhmcaa.QbL
set_option linter.unusedVariables false
set_option linter.unusedSimpArgs false

theorem FnExactSheetLoss : laws_FnExactSheetLoss.Pure := by
  intro w h a b _ _ _ _
  obtain ⟨n, hn⟩ := spec_loss_eq w h a b
  refine ⟨n, ?_⟩
  unfold laws_FnExactSheetLoss.f
  rw [hn n (Nat.le_refl _), impl_loss_eq]
  simp

end Go.Proofs.Ytjbijfdiojhmcaa.Pure

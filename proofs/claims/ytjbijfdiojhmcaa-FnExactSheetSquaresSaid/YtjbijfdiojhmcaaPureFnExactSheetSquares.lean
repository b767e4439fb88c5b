/- SheetSquares returns what the reference's returns: for all arguments. -/
import Derived.Test.YtjbijfdiojhmcaaLQb
namespace Go.Proofs.Ytjbijfdiojhmcaa.Pure
open Go.RowKit Go.Proofs.Ytjbijfdiojhmcaa.Qb Go.Proofs.YtjbijfdiojhmcaaW.PrintWords Go.Proofs.YtjbijfdiojhmcaaW.PrintLast Go.Proofs.YtjbijfdiojhmcaaW.PrintMore
open Go.Proofs.Ytjbijfdiojhmcaa.QbL
set_option linter.unusedVariables false
set_option linter.unusedSimpArgs false

theorem FnExactSheetSquares : laws_FnExactSheetSquares.Pure := by
  intro w h _ _
  obtain ⟨n, hn⟩ := spec_squares_eq w h
  refine ⟨n, ?_⟩
  unfold laws_FnExactSheetSquares.f
  rw [hn n (Nat.le_refl _)]
  unfold Go.Proofs.Ytjbijfdiojhmcaa.S.impl_SheetSquares.f
  simp

end Go.Proofs.Ytjbijfdiojhmcaa.Pure

/- SheetGreedy returns what the reference returns, for all arguments. -/
import Derived.Test.YtjbijfdiojhmcaaLQa
namespace Go.Proofs.Ytjbijfdiojhmcaa.Pure
open Go.RowKit Go.Proofs.Ytjbijfdiojhmcaa.Qa Go.Proofs.YtjbijfdiojhmcaaW.PrintWords Go.Proofs.YtjbijfdiojhmcaaW.PrintLast Go.Proofs.YtjbijfdiojhmcaaW.PrintMore
open Go.Proofs.Ytjbijfdiojhmcaa.QaL

theorem FnExactSheetGreedy : laws_FnExactSheetGreedy.Pure := by
  intro w h _ _
  refine ⟨50, ?_⟩
  unfold laws_FnExactSheetGreedy.f
  rw [spec_greedy_eq 50 (by omega), impl_greedy_eq 50 (by omega)]
  by_cases hh : (inS w && inS h) = true
  · rw [if_pos hh]; simp
  · rw [if_neg hh]; simp

end Go.Proofs.Ytjbijfdiojhmcaa.Pure

/- SheetValue returns what the reference's returns, and changes none of its lists: for all arguments. -/
import Derived.Test.YtjbijfdiojhmcaaLQc
namespace Go.Proofs.Ytjbijfdiojhmcaa.Pure
open Go.RowKit Go.Proofs.Ytjbijfdiojhmcaa.Qc Go.Proofs.YtjbijfdiojhmcaaW.PrintWords Go.Proofs.YtjbijfdiojhmcaaW.PrintLast Go.Proofs.YtjbijfdiojhmcaaW.PrintMore
open Go.Proofs.Ytjbijfdiojhmcaa.QcL
set_option linter.unusedVariables false
set_option linter.unusedSimpArgs false

open Go.Proofs.Ytjbijfdiojhmcaa.S (valueOk)

theorem FnExactSheetValue : laws_FnExactSheetValue.Pure := by
  intro a b l2 l3 l4 _ _ _ _ _ _ _ _ _ _ _
  by_cases g2 : (l2.length : Int) > 1048576
  · exact ⟨0, by unfold laws_FnExactSheetValue.f; rw [if_pos g2]⟩
  by_cases g3 : (l3.length : Int) > 1048576
  · exact ⟨0, by unfold laws_FnExactSheetValue.f; rw [if_neg g2, if_pos g3]⟩
  by_cases g4 : (l4.length : Int) > 1048576
  · exact ⟨0, by unfold laws_FnExactSheetValue.f; rw [if_neg g2, if_neg g3, if_pos g4]⟩
  obtain ⟨n, hn⟩ := spec_value_eq a b l2 l3 l4 (by omega)
  refine ⟨n + 1048600, ?_⟩
  unfold laws_FnExactSheetValue.f
  rw [if_neg g2, if_neg g3, if_neg g4, toInt_eq l2 (by omega) _ (by omega), toInt_eq l3 (by omega) _ (by omega), toInt_eq l4 (by omega) _ (by omega)]
  simp only [Option.bind_some]
  rw [hn _ (by omega), impl_value_eq]
  simp only [Option.bind_some]
  generalize (if valueOk a b l2 l3 l4 = true then (valueV a b l2 l3 l4, true) else (0, false)) = R
  have hne : (R.2 != R.2) = false := by simp
  have e1 : n + 1048600 = (n + 1048599) + 1 := rfl
  rw [if_pos trivial, hne, e1]
  simp only [laws_FnExactSheetValue.j0]
  rw [if_neg (by simp), toInt_eq l2 (by omega) _ (by omega), toInt_eq l3 (by omega) _ (by omega), toInt_eq l4 (by omega) _ (by omega)]
  simp only [Option.bind_some]
  rw [eqInt_self l2 (by omega) _ (by omega), eqInt_self l3 (by omega) _ (by omega), eqInt_self l4 (by omega) _ (by omega)]
  simp

end Go.Proofs.Ytjbijfdiojhmcaa.Pure

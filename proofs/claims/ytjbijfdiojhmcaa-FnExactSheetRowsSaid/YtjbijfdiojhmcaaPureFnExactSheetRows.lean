/- SheetRows returns what the reference returns, for all arguments. -/
import Derived.Test.YtjbijfdiojhmcaaLQa
namespace Go.Proofs.Ytjbijfdiojhmcaa.Pure
open Go.RowKit Go.Proofs.Ytjbijfdiojhmcaa.Qa Go.Proofs.YtjbijfdiojhmcaaW.PrintWords Go.Proofs.YtjbijfdiojhmcaaW.PrintLast Go.Proofs.YtjbijfdiojhmcaaW.PrintMore
open Go.Proofs.Ytjbijfdiojhmcaa.QaL

theorem FnExactSheetRows : laws_FnExactSheetRows.Pure := by
  intro a b c d _ _ _ _
  refine ⟨5, ?_⟩
  unfold laws_FnExactSheetRows.f spec_SheetRows.f impl_SheetRows.f
  rw [l9Sheet_eq, l9Sheet_eq, sized_eq _ (by simp) 5 (by simp)]
  simp only [Option.bind_some, List.all_cons, List.all_nil, Bool.and_true]
  cases h1 : inS a && inS b
  · rw [if_neg (by simp)]
    have : (inS a && (inS b && (inS c && inS d))) = false := by rw [← Bool.and_assoc, h1]; rfl
    rw [if_neg (by rw [this]; simp)]
    simp
  · cases h2 : inS c && inS d
    · rw [if_pos rfl, if_neg (by simp)]
      have : (inS a && (inS b && false)) = false := by simp
      rw [if_neg (by rw [this]; simp)]
      simp
    · simp only [Bool.and_eq_true, inS_iff] at h1 h2
      have hc : ¬ c = 0 := by omega
      have hd : ¬ d = 0 := by omega
      rw [if_pos rfl, if_pos rfl]
      rw [if_pos (show (inS a && (inS b && true)) = true by simp [inS_iff]; omega)]
      simp only [if_neg hc, if_neg hd, Option.bind_some, if_true]
      simp

end Go.Proofs.Ytjbijfdiojhmcaa.Pure

import Derived.Test.YtmocablibmkebaaQt1
import Derived.Test.YtmocablibmkebaaAgree
namespace Go.Proofs.Ytmocablibmkebaa.Pure
open Go.RowKit Go.Proofs.Ytmocablibmkebaa.S Go.Proofs.Ytmocablibmkebaa.Qt Go.Proofs.YtmocablibmkebaaW.PrintWords Go.Proofs.YtmocablibmkebaaW.PrintLast

theorem FnExactTermIn : laws_FnExactTermIn.Pure := by
  intro a0 _
  refine ⟨0, ?_⟩
  unfold laws_FnExactTermIn.f
  by_cases h : (a0.size : Int) > 1048576
  · rw [if_pos h]
  · rw [if_neg h]
    have e : (ofI a0.data.toList).isSome = (ofS a0).2 := by
      rw [of_agree]
      cases (ofS a0).2 <;> rfl
    simp only [spec_TermIn.f, spec_l11Of.f, impl_TermIn.f, Option.bind_some, e]
    cases (ofS a0).2 <;> rfl
end Go.Proofs.Ytmocablibmkebaa.Pure

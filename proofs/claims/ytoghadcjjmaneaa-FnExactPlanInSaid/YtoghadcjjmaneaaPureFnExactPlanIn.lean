/- PlanIn tells what the reference tells, for every list of texts. -/
import Derived.Test.YtoghadcjjmaneaaLIn
namespace Go.Proofs.Ytoghadcjjmaneaa.Pure
open Go.RowKit Go.Proofs.Ytoghadcjjmaneaa.S Go.Proofs.Ytoghadcjjmaneaa.Qa Go.Proofs.Ytoghadcjjmaneaa.QaL Go.Proofs.YtoghadcjjmaneaaW.PrintWords Go.Proofs.YtoghadcjjmaneaaW.PrintLast Go.Proofs.YtoghadcjjmaneaaW.PrintMore
set_option linter.unusedVariables false
set_option linter.unusedSimpArgs false

theorem FnExactPlanIn (l : List ByteArray) (hl : l.length ≤ maxLen) (hs : ∀ s ∈ l, s.size ≤ maxLen) : ∃ k, laws_FnExactPlanIn.f k l = some true := by
  refine Ends.get ?_
  obtain ⟨r, hr, hd⟩ := sz_ends l hl hs
  refine Ends.bind hr ?_
  rcases hd with hn | hsm
  · exact Ends.yes hn (Ends.all (fun k => rfl))
  · by_cases hn : r < 0
    · exact Ends.yes hn (Ends.all (fun k => rfl))
    refine Ends.no hn ?_
    obtain ⟨b1, b2⟩ := small_out hsm
    refine Ends.bind (copy_ends l b1) (Ends.bind (planin_ends l b1 b2) (Ends.bind (copy_ends l b1) (Ends.bind (r := ffine l) (Ends.all (fun k => ?_)) ?_)))
    · unfold impl_PlanIn.f
      rw [if_pos hsm]
    · refine Ends.no (by simp) (Ends.bind (copy_ends l b1) (Ends.bind (refl_ends l b1) (Ends.yes rfl (Ends.all (fun k => rfl)))))
end Go.Proofs.Ytoghadcjjmaneaa.Pure

/- Wider sheets have no fewer pieces (P78): for every code, of any length. -/
import Derived.Test.YtjbijfdiojhmcaaLQb
namespace Go.Proofs.Ytjbijfdiojhmcaa.Pure
open Go.RowKit Go.Proofs.Ytjbijfdiojhmcaa.Qb Go.Proofs.YtjbijfdiojhmcaaW.PrintWords Go.Proofs.YtjbijfdiojhmcaaW.PrintLast Go.Proofs.YtjbijfdiojhmcaaW.PrintMore
open Go.Proofs.Ytjbijfdiojhmcaa.QbL
set_option linter.unusedVariables false
set_option linter.unusedSimpArgs false

theorem FnMostMore : laws_FnMostMore.Pure := by
  intro l _ _ hwf
  by_cases h0 : (l.length : Int) > 1048576
  · exact ⟨0, by unfold laws_FnMostMore.f; rw [if_pos h0]⟩
  obtain ⟨⟨w, h, a, b⟩, hr⟩ := draw_sheet_all l (bytes_of_wf hwf)
  obtain ⟨n, hn⟩ := spec_most_eq w h a b
  refine ⟨n + 1, ?_⟩
  unfold laws_FnMostMore.f
  rw [if_neg h0]
  unfold spec_DrawSheetMost.f
  rw [hr (n + 1) (by omega)]
  simp only [Option.bind_some]
  rw [hn (n + 1) (by omega), impl_most_eq, impl_most_eq]
  simp only [Option.bind_some]
  by_cases hh : (inS w && inS h && inS a && inS b) = true
  · simp only [if_pos hh]
    simp only [Bool.and_eq_true, inS_iff] at hh
    obtain ⟨⟨⟨hw, hh⟩, ha⟩, hb⟩ := hh
    rw [if_neg (by simp), if_pos trivial, if_pos trivial]
    by_cases e : w = 12
    · rw [if_pos e]
    · rw [if_neg e, w64 _ (by omega)]
      have c : (inS (w + 1) && inS h && inS a && inS b) = true := by simp only [Bool.and_eq_true, inS_iff]; exact ⟨⟨⟨by omega, hh⟩, ha⟩, hb⟩
      simp only [if_pos c]
      have f := (mostV_facts w h a b hw hh ha hb).2.2.2.2.2.2.2.1 (by omega)
      rw [if_pos trivial, decide_eq_true f]
  · simp only [if_neg hh]
    simp

end Go.Proofs.Ytjbijfdiojhmcaa.Pure

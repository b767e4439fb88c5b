/- Losses are what pieces leave (P80): for every code, of any length. -/
import Derived.Test.YtjbijfdiojhmcaaLQb
namespace Go.Proofs.Ytjbijfdiojhmcaa.Pure
open Go.RowKit Go.Proofs.Ytjbijfdiojhmcaa.Qb Go.Proofs.YtjbijfdiojhmcaaW.PrintWords Go.Proofs.YtjbijfdiojhmcaaW.PrintLast Go.Proofs.YtjbijfdiojhmcaaW.PrintMore
open Go.Proofs.Ytjbijfdiojhmcaa.QbL
set_option linter.unusedVariables false
set_option linter.unusedSimpArgs false

theorem FnLoss : laws_FnLoss.Pure := by
  intro l _ _ hwf
  by_cases h0 : (l.length : Int) > 1048576
  · exact ⟨0, by unfold laws_FnLoss.f; rw [if_pos h0]⟩
  obtain ⟨⟨w, h, a, b⟩, hr⟩ := draw_sheet_all l (bytes_of_wf hwf)
  obtain ⟨n, hn⟩ := spec_loss_eq w h a b
  refine ⟨n + 1, ?_⟩
  unfold laws_FnLoss.f
  rw [if_neg h0]
  unfold spec_DrawSheetLoss.f
  rw [hr (n + 1) (by omega)]
  simp only [Option.bind_some]
  rw [hn (n + 1) (by omega), impl_loss_eq, impl_most_eq]
  simp only [Option.bind_some]
  by_cases hh : (inS w && inS h && inS a && inS b) = true
  · simp only [if_pos hh]
    simp only [Bool.and_eq_true, inS_iff] at hh
    obtain ⟨⟨⟨hw, hh⟩, ha⟩, hb⟩ := hh
    obtain ⟨f1, f2, f3, f4, f5, f6, f7, f8, f9, f10, f11, f12⟩ := mostV_facts w h a b hw hh ha hb
    have e : mostV w h a b * a * b = mostV w h a b * (a * b) := Int.mul_assoc _ _ _
    have g1 : 0 ≤ mostV w h a b * (a * b) := Int.mul_nonneg f1 (by omega)
    have g2 : 0 ≤ mostV w h a b * a := Int.mul_nonneg f1 (by omega)
    have g3 : mostV w h a b * a ≤ 144 * 12 := Int.mul_le_mul f2 (by omega) (by omega) (by omega)
    have g4 : lossV w h a b = w * h - mostV w h a b * (a * b) := rfl
    rw [if_neg (by simp), if_pos trivial, if_pos trivial, if_pos trivial, if_pos (by omega), w64 (mostV w h a b * a) (by omega), e, w64 (mostV w h a b * (a * b)) (by omega), w64 (w * h) (by omega), w64 _ (by omega), g4]
    simp
  · simp only [if_neg hh]
    simp

end Go.Proofs.Ytjbijfdiojhmcaa.Pure

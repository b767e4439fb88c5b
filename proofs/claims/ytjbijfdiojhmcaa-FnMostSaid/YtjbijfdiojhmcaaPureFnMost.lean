/- Cut sheets have at least as many pieces as rows and columns (P77): for every code, of any length. -/
import Derived.Test.YtjbijfdiojhmcaaLQb
namespace Go.Proofs.Ytjbijfdiojhmcaa.Pure
open Go.RowKit Go.Proofs.Ytjbijfdiojhmcaa.Qb Go.Proofs.YtjbijfdiojhmcaaW.PrintWords Go.Proofs.YtjbijfdiojhmcaaW.PrintLast Go.Proofs.YtjbijfdiojhmcaaW.PrintMore
open Go.Proofs.Ytjbijfdiojhmcaa.QbL
set_option linter.unusedVariables false
set_option linter.unusedSimpArgs false

theorem FnMost : laws_FnMost.Pure := by
  intro l _ _ hwf
  by_cases h0 : (l.length : Int) > 1048576
  · exact ⟨0, by unfold laws_FnMost.f; rw [if_pos h0]⟩
  obtain ⟨⟨w, h, a, b⟩, hr⟩ := draw_sheet_all l (bytes_of_wf hwf)
  obtain ⟨n, hn⟩ := spec_most_eq w h a b
  refine ⟨n + 6, ?_⟩
  unfold laws_FnMost.f
  rw [if_neg h0]
  unfold spec_DrawSheetMost.f
  rw [hr (n + 6) (by omega)]
  simp only [Option.bind_some]
  rw [hn (n + 6) (by omega), impl_most_eq]
  simp only [Option.bind_some]
  by_cases hh : (inS w && inS h && inS a && inS b) = true
  · simp only [if_pos hh]
    simp only [Bool.and_eq_true, inS_iff] at hh
    obtain ⟨⟨⟨hw, hh⟩, ha⟩, hb⟩ := hh
    have c1 : (inS h && inS w && inS a && inS b) = true := by simp only [Bool.and_eq_true, inS_iff]; exact ⟨⟨⟨hh, hw⟩, ha⟩, hb⟩
    have c2 : (inS w && inS h && inS b && inS a) = true := by simp only [Bool.and_eq_true, inS_iff]; exact ⟨⟨⟨hw, hh⟩, hb⟩, ha⟩
    have c3 : (inS w && inS h && inS a && inS b) = true := by simp only [Bool.and_eq_true, inS_iff]; exact ⟨⟨⟨hw, hh⟩, ha⟩, hb⟩
    obtain ⟨f1, f2, f3, f4, f5, f6, f7, f8, f9, f10, f11, f12⟩ := mostV_facts w h a b hw hh ha hb
    have hle : sRows w h a b ≤ mostV w h a b := by
      rw [sRows_eq w h a b hw hh ha hb]
      unfold mx
      split <;> omega
    have e : mostV w h a b * a * b = mostV w h a b * (a * b) := Int.mul_assoc _ _ _
    have g1 : 0 ≤ mostV w h a b * (a * b) := Int.mul_nonneg f1 (by omega)
    have g2 : 0 ≤ mostV w h a b * a := Int.mul_nonneg f1 (by omega)
    have g3 : mostV w h a b * a ≤ 144 * 12 := Int.mul_le_mul f2 (by omega) (by omega) (by omega)
    rw [if_neg (by simp), if_pos trivial]
    simp only [laws_FnMost.j0]
    rw [if_neg (by simp), impl_most_eq, impl_most_eq, if_pos c1, if_pos c2, impl_rows_eq (n + 5) (by omega) w h a b, if_pos c3]
    simp only [Option.bind_some]
    rw [if_pos trivial, if_pos trivial, if_pos trivial, if_pos f3, if_pos f4, if_pos hle, w64 (mostV w h a b * a) (by omega), e, w64 (mostV w h a b * (a * b)) (by omega), w64 (w * h) (by omega), decide_eq_true f5]
  · simp only [if_neg hh]
    simp [laws_FnMost.j0]

end Go.Proofs.Ytjbijfdiojhmcaa.Pure

/- Greedy squares are those of sheets without their greatest square (P82): for every code, of any length. -/
import Derived.Test.YtjbijfdiojhmcaaLQa
namespace Go.Proofs.Ytjbijfdiojhmcaa.Pure
open Go.RowKit Go.Proofs.Ytjbijfdiojhmcaa.Qa Go.Proofs.YtjbijfdiojhmcaaW.PrintWords Go.Proofs.YtjbijfdiojhmcaaW.PrintLast Go.Proofs.YtjbijfdiojhmcaaW.PrintMore
open Go.Proofs.Ytjbijfdiojhmcaa.QaL

theorem FnGreedy : laws_FnGreedy.Pure := by
  intro l _ _ hwf
  refine ⟨60, ?_⟩
  unfold laws_FnGreedy.f
  by_cases h0 : (l.length : Int) > 1048576
  · rw [if_pos h0]
  rw [if_neg h0]
  obtain ⟨r, hr⟩ := draw_squares l (bytes_of_wf hwf) 60 (by omega)
  unfold spec_DrawSheetGreedy.f
  rw [hr]
  obtain ⟨w, h⟩ := r
  simp only [Option.bind_some]
  rw [impl_greedy_eq 60 (by omega), spec_greedy_eq 60 (by omega)]
  by_cases hh : (inS w && inS h) = true
  · rw [if_pos hh]
    simp only [Option.bind_some]
    simp only [Bool.and_eq_true, inS_iff] at hh
    obtain ⟨hw, hh⟩ := hh
    rw [if_neg (by simp), if_pos trivial]
    simp only [laws_FnGreedy.j0]
    rw [if_neg (by simp)]
    have g := gr_int w h hw hh
    by_cases c : w ≤ h
    · rw [if_pos c, impl_greedy_eq 59 (by omega), if_pos (by simp only [Bool.and_eq_true, inS_iff]; exact ⟨hh, hw⟩)]
      simp only [Option.bind_some]
      rw [if_pos trivial, g.1]
      simp
    · have ew : wrap64 (w - h) = w - h := by unfold wrap64; omega
      rw [if_neg c, ew, impl_greedy_eq 59 (by omega), if_pos (by simp only [Bool.and_eq_true, inS_iff]; omega)]
      simp only [Option.bind_some]
      have g2 := g.2.1 (by omega)
      have g3 := g.2.2
      have ew2 : wrap64 (gr 24 (w - h) h + 1) = gr 24 w h := by rw [g2]; unfold wrap64; omega
      rw [if_pos trivial, ew2]
      simp
  · rw [if_neg hh]
    simp [laws_FnGreedy.j0]

end Go.Proofs.Ytjbijfdiojhmcaa.Pure

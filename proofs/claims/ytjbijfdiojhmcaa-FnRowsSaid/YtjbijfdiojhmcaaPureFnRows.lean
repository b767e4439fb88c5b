/- Pieces in rows are at least as many as one way tells (P79): for every code, of any length. -/
import Derived.Test.YtjbijfdiojhmcaaLQa
namespace Go.Proofs.Ytjbijfdiojhmcaa.Pure
open Go.RowKit Go.Proofs.Ytjbijfdiojhmcaa.Qa Go.Proofs.YtjbijfdiojhmcaaW.PrintWords Go.Proofs.YtjbijfdiojhmcaaW.PrintLast Go.Proofs.YtjbijfdiojhmcaaW.PrintMore
open Go.Proofs.Ytjbijfdiojhmcaa.QaL

theorem FnRows : laws_FnRows.Pure := by
  intro l _ _ hwf
  refine ⟨5, ?_⟩
  unfold laws_FnRows.f
  by_cases h0 : (l.length : Int) > 1048576
  · rw [if_pos h0]
  rw [if_neg h0]
  obtain ⟨r, hr⟩ := draw_sheet l (bytes_of_wf hwf) 5 (by omega)
  unfold spec_DrawSheetRows.f
  rw [hr]
  obtain ⟨w, h, a, b⟩ := r
  simp only [Option.bind_some]
  rw [impl_rows_eq 5 (by omega) w h a b, spec_rows_eq]
  by_cases hh : (inS w && inS h && inS a && inS b) = true
  · rw [if_pos hh]
    simp only [Option.bind_some]
    simp only [Bool.and_eq_true, inS_iff] at hh
    obtain ⟨⟨⟨hw, hh⟩, ha⟩, hb⟩ := hh
    rw [if_neg (by simp), if_pos trivial, if_pos trivial]
    rw [impl_rows_eq 5 (by omega) h w a b, if_pos (by simp only [Bool.and_eq_true, inS_iff]; exact ⟨⟨⟨hh, hw⟩, ha⟩, hb⟩)]
    simp only [Option.bind_some]
    rw [if_pos trivial, if_pos (sRows_turn w h a b hw hh ha hb)]
    have hz := sRows_zero w h a b hw hh ha hb
    generalize sRows w h a b = s at hz
    by_cases c1 : a > w
    · rw [if_pos c1]
      by_cases c2 : a > h
      · rw [if_pos c2]
        have : s = 0 := hz.2 (by omega)
        simp [this]
      · rw [if_neg c2]
        by_cases c3 : b > w
        · have : s = 0 := hz.2 (by omega)
          simp [this, c3]
        · have : ¬ s = 0 := fun e => by have := hz.1 e; omega
          have e1 : (s == 0) = false := by simp [this]
          have e2 : decide (b > w) = false := decide_eq_false c3
          rw [e1, e2]; rfl
    · rw [if_neg c1]
      by_cases c2 : b > h
      · rw [if_pos c2]
        by_cases c4 : a > h
        · rw [if_pos c4]
          have : s = 0 := hz.2 (by omega)
          simp [this]
        · rw [if_neg c4]
          by_cases c3 : b > w
          · have : s = 0 := hz.2 (by omega)
            simp [this, c3]
          · have : ¬ s = 0 := fun e => by have := hz.1 e; omega
            have e1 : (s == 0) = false := by simp [this]
            have e2 : decide (b > w) = false := decide_eq_false c3
            rw [e1, e2]; rfl
      · rw [if_neg c2]
        have : ¬ s = 0 := fun e => by have := hz.1 e; omega
        simp [this]
  · rw [if_neg hh]
    simp

end Go.Proofs.Ytjbijfdiojhmcaa.Pure

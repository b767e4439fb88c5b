/- Squares are as few as the greedy ones at most (P81): for every code, of any length. -/
import Derived.Test.YtjbijfdiojhmcaaLQb
namespace Go.Proofs.Ytjbijfdiojhmcaa.Pure
open Go.RowKit Go.Proofs.Ytjbijfdiojhmcaa.Qb Go.Proofs.YtjbijfdiojhmcaaW.PrintWords Go.Proofs.YtjbijfdiojhmcaaW.PrintLast Go.Proofs.YtjbijfdiojhmcaaW.PrintMore
open Go.Proofs.Ytjbijfdiojhmcaa.QbL
set_option linter.unusedVariables false
set_option linter.unusedSimpArgs false

open Go.Proofs.Ytjbijfdiojhmcaa.S (sq_greedy sq_two sq_one Vt_turn_min alSquare_turn Vt alSquare minI Vt_square_bound impl_SheetSquares.f)

def sqV (a b : Int) : Int := Vt alSquare minI a.toNat b.toNat
theorem impl_squares_eq (a b : Int) : impl_SheetSquares.f a b = some (if (inS a && inS b) = true then (sqV a b, true) else (0, false)) := rfl

theorem gr_self : ((List.range 13).all fun w => decide (w = 0) || decide (1 ≤ gr 24 (w : Int) (w : Int))) = true := by decide +kernel

theorem sqV_facts (a b : Int) (ha : 1 ≤ a ∧ a ≤ 12) (hb : 1 ≤ b ∧ b ≤ 12) : sqV b a = sqV a b ∧ sqV a b ≤ gr 24 a b ∧ 1 ≤ sqV a b ∧ (sqV a b = 1 ↔ a = b) := by
  obtain ⟨x, rfl⟩ := Int.eq_ofNat_of_zero_le (show 0 ≤ a by omega)
  obtain ⟨y, rfl⟩ := Int.eq_ofNat_of_zero_le (show 0 ≤ b by omega)
  refine ⟨Vt_turn_min alSquare alSquare_turn x y (by omega) (by omega) (by omega) (by omega), ?_, (Vt_square_bound x y (by omega) (by omega) (by omega) (by omega)).1, ?_⟩
  · refine sq_greedy (fun x y => gr 24 (x : Int) (y : Int)) ?_ ?_ ?_ (x + y) x y (Nat.le_refl _) (by omega) (by omega) (by omega) (by omega)
    · intro x a b
      have g := List.all_eq_true.1 gr_self x (List.mem_range.2 (by omega))
      simp only [Bool.or_eq_true, decide_eq_true_eq] at g
      exact g.resolve_left (by omega)
    · intro x y a b c d
      exact (gr_int x y (by omega) (by omega)).1
    · intro x y a b c
      have := (gr_int x y (by omega) (by omega)).2.1 (by omega)
      rw [show (x : Int) - (y : Int) = ((x - y : Nat) : Int) by omega] at this
      exact this
  · constructor
    · intro h
      have h : Vt alSquare minI x y = 1 := h
      by_cases e : x = y
      · rw [e]
      · have := sq_two x y (by omega) (by omega) (by omega) (by omega) e
        omega
    · intro h
      obtain rfl : x = y := by omega
      exact sq_one x (by omega) (by omega)

theorem FnSquares : laws_FnSquares.Pure := by
  intro l _ _ hwf
  by_cases h0 : (l.length : Int) > 1048576
  · exact ⟨0, by unfold laws_FnSquares.f; rw [if_pos h0]⟩
  obtain ⟨⟨w, h⟩, hr⟩ := draw_squares_all l (bytes_of_wf hwf)
  obtain ⟨n, hn⟩ := spec_squares_eq w h
  refine ⟨n + 51, ?_⟩
  unfold laws_FnSquares.f
  rw [if_neg h0, hr (n + 51) (by omega)]
  simp only [Option.bind_some]
  rw [hn (n + 51) (by omega), impl_squares_eq]
  simp only [Option.bind_some]
  by_cases hh : (inS w && inS h) = true
  · simp only [if_pos hh]
    simp only [Bool.and_eq_true, inS_iff] at hh
    obtain ⟨hw, hh⟩ := hh
    have c1 : (inS h && inS w) = true := by simp only [Bool.and_eq_true, inS_iff]; exact ⟨hh, hw⟩
    have c2 : (inS w && inS h) = true := by simp only [Bool.and_eq_true, inS_iff]; exact ⟨hw, hh⟩
    obtain ⟨f1, f2, f3, f4⟩ := sqV_facts w h hw hh
    rw [if_neg (by simp), if_pos trivial]
    simp only [laws_FnSquares.j0]
    rw [if_neg (by simp), impl_squares_eq, if_pos c1, impl_greedy_eq (n + 50) (by omega), if_pos c2]
    simp only [Option.bind_some]
    rw [if_pos trivial, if_pos trivial, if_pos f1, if_pos f2, if_pos f3]
    by_cases e : w = h
    · rw [f4.2 e, e]; simp
    · have e1 : (sqV w h == 1) = false := by rw [beq_eq_false_iff_ne]; exact fun z => e (f4.1 z)
      have e2 : (w == h) = false := by rw [beq_eq_false_iff_ne]; exact e
      rw [e1, e2]; rfl
  · simp only [if_neg hh]
    simp [laws_FnSquares.j0]

end Go.Proofs.Ytjbijfdiojhmcaa.Pure

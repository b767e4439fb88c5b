/- Permutations put below are those put aside, backwards (P61): for every code. -/
import Derived.Test.YtplndfadlconlaaLQc
namespace Go.Proofs.Ytplndfadlconlaa.Pure
open Go.RowKit Go.Proofs.Ytplndfadlconlaa.Qc Go.Proofs.YtplndfadlconlaaW.PrintWords Go.Proofs.YtplndfadlconlaaW.PrintLast Go.Proofs.YtplndfadlconlaaW.PrintMore
open Go.Proofs.Ytplndfadlconlaa.QcL
set_option linter.unusedVariables false
set_option linter.unusedSimpArgs false

theorem isPerm_reverse {p : List Int} (h : isPerm p = true) : isPerm p.reverse = true := by
  rw [isPerm_iff] at h ⊢
  refine ⟨by simpa using h.1, by simpa using h.2.1, fun i hi => ?_⟩
  rw [List.mem_reverse]
  exact h.2.2 i (by simpa using hi)

theorem FnUnderPerm : laws_FnUnderPerm.Pure := by
  intro l _ _ hw
  refine ⟨1048600, ?_⟩
  unfold laws_FnUnderPerm.f
  by_cases h0 : (l.length : Int) > 1048576
  · rw [if_pos h0]
  rw [if_neg h0]
  obtain ⟨p, q, hpq, hp8, hq8⟩ := Go.Proofs.Ytplndfadlconlaa.QrL.pair_gives l (Go.Proofs.Ytplndfadlconlaa.QrL.bytes_of_wf hw) 1048600 (by omega)
  unfold spec_DrawPermUnder.f
  rw [hpq]
  simp only [Option.bind_some]
  rw [impl_under_eq p q (by omega) (by omega) _ (by omega), spec_under_eq p q (by omega) (by omega) _ (by omega)]
  simp only [Option.bind_some]
  have ho := underR_length p q
  rw [if_neg (by simp), same_self _ (by omega) _ (by omega)]
  simp only [Option.bind_some, if_true]
  obtain ⟨K, hK⟩ : ∃ K : Nat, K = 1048599 := ⟨_, rfl⟩
  have e1 : (1048600 : Nat) = K + 1 := by omega
  rw [e1]
  simp only [laws_FnUnderPerm.j0]
  by_cases h : isPerm p = true ∧ isPerm q = true ∧ p.length + q.length ≤ 7
  · have e : underR p q = (raise q p.length ++ p, true) := by unfold underR; rw [if_pos h]
    obtain ⟨h1, h2, h3⟩ := h
    rw [e]
    simp only [Bool.not_true]
    rw [if_neg (by simp), impl_back_eq p _ (by omega)]
    simp only [Option.bind_some]
    rw [impl_back_eq q _ (by omega)]
    simp only [Option.bind_some]
    rw [impl_back_eq (raise q p.length ++ p) _ (by omega)]
    simp only [Option.bind_some]
    have b1 : backR p = (p.reverse, true) := by unfold backR; rw [if_pos h1]
    have b2 : backR q = (q.reverse, true) := by unfold backR; rw [if_pos h2]
    have b3 : backR (raise q p.length ++ p) = ((raise q p.length ++ p).reverse, true) := by unfold backR; rw [if_pos (isPerm_under h1 h2 h3)]
    rw [b1, b2, b3]
    simp only
    rw [impl_aside_eq _ _ (by simp; omega) (by simp; omega) _ (by omega)]
    have b4 : asideR p.reverse q.reverse = ((raise q p.length ++ p).reverse, true) := by
      unfold asideR
      rw [if_pos ⟨isPerm_reverse h1, isPerm_reverse h2, by simpa using h3⟩, List.reverse_append, raise_reverse, List.length_reverse]
    rw [b4]
    simp only [Option.bind_some, if_true]
    rw [same_self _ (by simp [raise_length]; omega) _ (by simp [raise_length]; omega)]
    rfl
  · have e : underR p q = ([], false) := by unfold underR; rw [if_neg h]
    rw [e]
    simp only [Bool.not_false, if_true]
    rw [if_pos (show (false == false) = true from rfl), same_self [] (by simp) _ (by simp; omega)]
    rfl

end Go.Proofs.Ytplndfadlconlaa.Pure

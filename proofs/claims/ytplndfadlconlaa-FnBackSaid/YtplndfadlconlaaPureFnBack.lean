/- Backwards twice is the permutation (P58): for every code. -/
import Derived.Test.YtplndfadlconlaaLQc
namespace Go.Proofs.Ytplndfadlconlaa.Pure
open Go.RowKit Go.Proofs.Ytplndfadlconlaa.Qc Go.Proofs.YtplndfadlconlaaW.PrintWords Go.Proofs.YtplndfadlconlaaW.PrintLast Go.Proofs.YtplndfadlconlaaW.PrintMore
open Go.Proofs.Ytplndfadlconlaa.QcL
set_option linter.unusedVariables false
set_option linter.unusedSimpArgs false

theorem isPerm_reverse {p : List Int} (h : isPerm p = true) : isPerm p.reverse = true := by
  rw [isPerm_iff] at h ⊢
  refine ⟨by simpa using h.1, by simpa using h.2.1, fun i hi => ?_⟩
  rw [List.mem_reverse]
  exact h.2.2 i (by simpa using hi)

theorem FnBack : laws_FnBack.Pure := by
  intro l _ _ hw
  refine ⟨1048600, ?_⟩
  unfold laws_FnBack.f
  by_cases h0 : (l.length : Int) > 1048576
  · rw [if_pos h0]
  rw [if_neg h0]
  obtain ⟨p, hp, hp1, hp8⟩ := Go.Proofs.Ytplndfadlconlaa.QrL.one_gives l (Go.Proofs.Ytplndfadlconlaa.QrL.bytes_of_wf hw) 1048600 (by omega)
  unfold spec_DrawPermBack.f
  rw [hp]
  simp only [Option.bind_some]
  rw [impl_back_eq p _ (by omega), spec_back_eq p (by omega) _ (by omega) (by omega)]
  simp only [Option.bind_some]
  have ho := backR_length p
  rw [if_neg (by simp), same_self _ (by omega) _ (by omega)]
  simp only [Option.bind_some, if_true]
  obtain ⟨K, hK⟩ : ∃ K : Nat, K = 1048599 := ⟨_, rfl⟩
  have e1 : (1048600 : Nat) = K + 1 := by omega
  rw [e1]
  simp only [laws_FnBack.j0]
  by_cases h : isPerm p = true
  · have e : backR p = (p.reverse, true) := by unfold backR; rw [if_pos h]
    rw [e, if_neg (by simp), impl_back_eq p.reverse _ (by omega)]
    simp only [Option.bind_some]
    have e2 : backR p.reverse = (p, true) := by
      unfold backR
      rw [if_pos (isPerm_reverse h), List.reverse_reverse]
    rw [e2]
    simp only [if_true]
    rw [same_self p (by omega) _ (by omega)]
    rfl
  · have e : backR p = ([], false) := by unfold backR; rw [if_neg h]
    rw [e]
    simp only [Bool.not_false, if_true]
    rw [if_pos (show (false == false) = true from rfl), same_self [] (by simp) _ (by simp; omega)]
    rfl

end Go.Proofs.Ytplndfadlconlaa.Pure

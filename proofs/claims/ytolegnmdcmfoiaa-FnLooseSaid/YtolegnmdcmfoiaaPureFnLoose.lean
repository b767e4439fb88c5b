/- Loose permutations are fair, backwards as well (P57): for every code. -/
import Derived.Test.YtolegnmdcmfoiaaLQb
import Derived.Test.YtolegnmdcmfoiaaLQr
namespace Go.Proofs.Ytolegnmdcmfoiaa.Pure
open Go.RowKit Go.Proofs.Ytolegnmdcmfoiaa.Qb Go.Proofs.YtolegnmdcmfoiaaW.PrintWords Go.Proofs.YtolegnmdcmfoiaaW.PrintLast Go.Proofs.YtolegnmdcmfoiaaW.PrintMore
open Go.Proofs.Ytolegnmdcmfoiaa.QbL
set_option linter.unusedVariables false
set_option linter.unusedSimpArgs false

theorem FnLoose : laws_FnLoose.Pure := by
  intro l _ _ hw
  refine ⟨1048600, ?_⟩
  unfold laws_FnLoose.f
  by_cases h0 : (l.length : Int) > 1048576
  · rw [if_pos h0]
  rw [if_neg h0]
  obtain ⟨p, hp, hp8⟩ := Go.Proofs.Ytolegnmdcmfoiaa.QrL.calm_gives l (Go.Proofs.Ytolegnmdcmfoiaa.QrL.bytes_of_wf hw) 1048600 (by omega)
  unfold spec_DrawPermLoose.f
  rw [hp]
  simp only [Option.bind_some]
  rw [impl_permloose_eq p _ (by omega), spec_permloose_eq p (by omega) _ (by omega) (by omega)]
  simp only [Option.bind_some]
  rw [if_neg (by simp)]
  obtain ⟨K, hK⟩ : ∃ K : Nat, K = 1048599 := ⟨_, rfl⟩
  have e1 : (1048600 : Nat) = K + 1 := by omega
  rw [e1]
  simp only [laws_FnLoose.j0]
  by_cases h : (isPerm p && Go.Proofs.Ytolegnmdcmfoiaa.S.looseB p) = true
  · rw [h]
    obtain ⟨h1, h2⟩ := Bool.and_eq_true_iff.1 h
    rw [if_neg (by simp), impl_back_eq p _ (by omega)]
    simp only [Option.bind_some]
    rw [impl_other_eq p _ (by omega)]
    simp only [Option.bind_some]
    have b1 : backR p = (p.reverse, true) := by unfold backR; rw [if_pos h1]
    have b2 : otherR p = (inv p, true) := by unfold otherR; rw [if_pos h1]
    rw [b1, b2]
    simp only [if_true]
    rw [impl_permfair_eq p _ (by omega), impl_permloose_eq _ _ (by omega), impl_permloose_eq _ _ (by omega), isPerm_reverse h1, isPerm_inv h1, loose_rev h2, loose_inv' h1 h2, h1, fair_of_loose h2]
    rfl
  · have hf : (isPerm p && Go.Proofs.Ytolegnmdcmfoiaa.S.looseB p) = false := by simpa using h
    rw [hf]
    simp

end Go.Proofs.Ytolegnmdcmfoiaa.Pure

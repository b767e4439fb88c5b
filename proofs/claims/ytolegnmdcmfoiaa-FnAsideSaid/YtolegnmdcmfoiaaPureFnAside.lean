/- Permutations put together are fair and loose just if both are (P60): for every code. -/
import Derived.Test.YtolegnmdcmfoiaaLQb
import Derived.Test.YtolegnmdcmfoiaaLQr
namespace Go.Proofs.Ytolegnmdcmfoiaa.Pure
open Go.RowKit Go.Proofs.Ytolegnmdcmfoiaa.Qb Go.Proofs.YtolegnmdcmfoiaaW.PrintWords Go.Proofs.YtolegnmdcmfoiaaW.PrintLast Go.Proofs.YtolegnmdcmfoiaaW.PrintMore
open Go.Proofs.Ytolegnmdcmfoiaa.QbL
set_option linter.unusedVariables false
set_option linter.unusedSimpArgs false

theorem FnAside : laws_FnAside.Pure := by
  intro l _ _ hw
  refine ⟨1048600, ?_⟩
  unfold laws_FnAside.f
  by_cases h0 : (l.length : Int) > 1048576
  · rw [if_pos h0]
  rw [if_neg h0]
  obtain ⟨p, q, hpq, hp8, hq8⟩ := Go.Proofs.Ytolegnmdcmfoiaa.QrL.pair_gives l (Go.Proofs.Ytolegnmdcmfoiaa.QrL.bytes_of_wf hw) 1048600 (by omega)
  unfold spec_DrawPermAside.f
  rw [hpq]
  simp only [Option.bind_some]
  rw [impl_aside_eq p q (by omega) (by omega) _ (by omega), spec_aside_eq p q (by omega) (by omega) _ (by omega)]
  simp only [Option.bind_some]
  have ho := asideR_length p q
  rw [if_neg (by simp), same_self _ (by omega) _ (by omega)]
  simp only [Option.bind_some, if_true]
  obtain ⟨K, hK⟩ : ∃ K : Nat, K = 1048599 := ⟨_, rfl⟩
  have e1 : (1048600 : Nat) = K + 1 := by omega
  rw [e1]
  simp only [laws_FnAside.j0]
  by_cases h : isPerm p = true ∧ isPerm q = true ∧ p.length + q.length ≤ 7
  · have e : asideR p q = (p ++ raise q p.length, true) := by unfold asideR; rw [if_pos h]
    obtain ⟨h1, h2, h3⟩ := h
    have hi := isPerm_aside h1 h2 h3
    rw [e]
    simp only [Bool.not_true]
    rw [if_neg (by simp), impl_permin_eq _ _ (by omega), hi]
    simp only [Option.bind_some, if_true]
    rw [impl_permfair_eq _ _ (by omega), impl_permfair_eq p _ (by omega), impl_permfair_eq q _ (by omega), impl_permloose_eq _ _ (by omega), impl_permloose_eq p _ (by omega), impl_permloose_eq q _ (by omega), hi, h1, h2, fair_aside h1 h2, loose_aside h1 h2]
    simp only [Bool.true_and, Option.bind_some]
    generalize Go.Proofs.Ytolegnmdcmfoiaa.S.fairB p = A
    generalize Go.Proofs.Ytolegnmdcmfoiaa.S.fairB q = B
    generalize Go.Proofs.Ytolegnmdcmfoiaa.S.looseB p = C
    generalize Go.Proofs.Ytolegnmdcmfoiaa.S.looseB q = D
    cases A <;> cases B <;> cases C <;> cases D <;> rfl
  · have e : asideR p q = ([], false) := by unfold asideR; rw [if_neg h]
    rw [e]
    simp only [Bool.not_false, if_true]
    rw [if_pos (show (false == false) = true from rfl), same_self [] (by simp) _ (by simp; omega)]
    rfl

end Go.Proofs.Ytolegnmdcmfoiaa.Pure

/- Places of places are the permutation (P59): for every code. -/
import Derived.Test.YtplndfadlconlaaLQc
namespace Go.Proofs.Ytplndfadlconlaa.Pure
open Go.RowKit Go.Proofs.Ytplndfadlconlaa.Qc Go.Proofs.YtplndfadlconlaaW.PrintWords Go.Proofs.YtplndfadlconlaaW.PrintLast Go.Proofs.YtplndfadlconlaaW.PrintMore
open Go.Proofs.Ytplndfadlconlaa.QcL
set_option linter.unusedVariables false
set_option linter.unusedSimpArgs false

theorem other_l0 (p : List Int) (h : isPerm p = true) (x : List Int) (hx : x = p) (d : Nat) : ∀ (k i : Nat), i ≤ p.length → p.length - i = d → d + 10 < k →
    laws_FnOther.l0 k p (inv p) x true (i : Int) = some true := by
  have hp := (isPerm_iff p).1 h
  induction d with
  | zero =>
    intro k i hi hd hk
    obtain ⟨k, rfl⟩ : ∃ m, k = m + 1 := ⟨k - 1, by omega⟩
    obtain rfl : i = p.length := by omega
    simp only [laws_FnOther.l0]
    rw [if_neg (by omega), hx, same_self p (by omega) k (by omega)]
    rfl
  | succ d ih =>
    intro k i hi hd hk
    obtain ⟨k, rfl⟩ : ∃ m, k = m + 1 := ⟨k - 1, by omega⟩
    have hlt : i < p.length := by omega
    have hr := perm_range hp.2.2 _ (getD_mem' hlt)
    simp only [laws_FnOther.l0]
    have ei : ((p.getD i 0).toNat : Int) = p.getD i 0 := by omega
    have e1 : rd (inv p) (p.getD i 0) = (i : Int) := by
      rw [← ei, rd_getD]; exact inv_at hp.2.2 i hlt
    rw [if_pos (by omega), if_pos (by omega), rd_getD, if_pos hr.1, if_pos (by rw [inv_length]; omega), e1, if_pos rfl, w64 _ (by omega)]
    have e : ((i : Int) + 1) = ((i + 1 : Nat) : Int) := by omega
    rw [e]
    exact ih k (i + 1) (by omega) (by omega) (by omega)

theorem FnOther : laws_FnOther.Pure := by
  intro l _ _ hw
  refine ⟨1048600, ?_⟩
  unfold laws_FnOther.f
  by_cases h0 : (l.length : Int) > 1048576
  · rw [if_pos h0]
  rw [if_neg h0]
  obtain ⟨p, hp, hp1, hp8⟩ := Go.Proofs.Ytplndfadlconlaa.QrL.one_gives l (Go.Proofs.Ytplndfadlconlaa.QrL.bytes_of_wf hw) 1048600 (by omega)
  unfold spec_DrawPermOther.f
  rw [hp]
  simp only [Option.bind_some]
  rw [impl_other_eq p _ (by omega), spec_other_eq p (by omega) _ (by omega) (by omega)]
  simp only [Option.bind_some]
  have ho := otherR_length p
  rw [if_neg (by simp), same_self _ (by omega) _ (by omega)]
  simp only [Option.bind_some, if_true]
  obtain ⟨K, hK⟩ : ∃ K : Nat, K = 1048599 := ⟨_, rfl⟩
  have e1 : (1048600 : Nat) = K + 1 := by omega
  rw [e1]
  simp only [laws_FnOther.j0]
  by_cases h : isPerm p = true
  · have e : otherR p = (inv p, true) := by unfold otherR; rw [if_pos h]
    rw [e, if_neg (by simp), impl_other_eq (inv p) _ (by omega)]
    simp only [Option.bind_some]
    have e2 : otherR (inv p) = (p, true) := by
      unfold otherR
      rw [if_pos (isPerm_inv h), inv_inv ((isPerm_iff p).1 h).2.2]
    rw [e2]
    have := other_l0 p h p rfl p.length K 0 (by omega) (by omega) (by omega)
    simpa using this
  · have e : otherR p = ([], false) := by unfold otherR; rw [if_neg h]
    rw [e]
    simp only [Bool.not_false, if_true]
    rw [if_pos (show (false == false) = true from rfl), same_self [] (by simp) _ (by simp; omega)]
    rfl

end Go.Proofs.Ytplndfadlconlaa.Pure

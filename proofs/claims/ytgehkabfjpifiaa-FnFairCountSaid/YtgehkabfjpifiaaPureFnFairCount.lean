/- Counting and adding tell the same number of fair ones (P62): for every code. -/
import Derived.Test.YtgehkabfjpifiaaLQc
import Derived.Test.YtgehkabfjpifiaaLQc2
import Derived.Test.YtgehkabfjpifiaaCntF
namespace Go.Proofs.Ytgehkabfjpifiaa.Pure
open Go.RowKit Go.Proofs.Ytgehkabfjpifiaa.Qc Go.Proofs.YtgehkabfjpifiaaW.PrintWords Go.Proofs.YtgehkabfjpifiaaW.PrintLast Go.Proofs.YtgehkabfjpifiaaW.PrintMore
open Go.Proofs.Ytgehkabfjpifiaa.QcL
set_option linter.unusedVariables false
set_option linter.unusedSimpArgs false

theorem fair_cnt (n : Int) : Go.Proofs.Ytgehkabfjpifiaa.S.cnt Go.Proofs.Ytgehkabfjpifiaa.S.fairB n = if 1 ≤ n ∧ n ≤ 7 then (fsum n.toNat, true) else (0, false) := by
  unfold Go.Proofs.Ytgehkabfjpifiaa.S.cnt
  by_cases h : 1 ≤ n ∧ n ≤ 7
  · rw [if_pos h, if_pos h]
    have : n = 1 ∨ n = 2 ∨ n = 3 ∨ n = 4 ∨ n = 5 ∨ n = 6 ∨ n = 7 := by omega
    rcases this with rfl | rfl | rfl | rfl | rfl | rfl | rfl
    · rw [show ((1 : Int)).toNat = 1 from rfl, Go.Proofs.Ytgehkabfjpifiaa.S.nF1]; rfl
    · rw [show ((2 : Int)).toNat = 2 from rfl, Go.Proofs.Ytgehkabfjpifiaa.S.nF2]; rfl
    · rw [show ((3 : Int)).toNat = 3 from rfl, Go.Proofs.Ytgehkabfjpifiaa.S.nF3]; rfl
    · rw [show ((4 : Int)).toNat = 4 from rfl, Go.Proofs.Ytgehkabfjpifiaa.S.nF4]; rfl
    · rw [show ((5 : Int)).toNat = 5 from rfl, Go.Proofs.Ytgehkabfjpifiaa.S.nF5]; rfl
    · rw [show ((6 : Int)).toNat = 6 from rfl, Go.Proofs.Ytgehkabfjpifiaa.S.nF6]; rfl
    · rw [show ((7 : Int)).toNat = 7 from rfl, Go.Proofs.Ytgehkabfjpifiaa.S.nF7]; rfl
  · rw [if_neg h, if_neg h]

theorem countP_le (l : List (List Int)) : l.countP Go.Proofs.Ytgehkabfjpifiaa.S.looseB ≤ l.countP Go.Proofs.Ytgehkabfjpifiaa.S.fairB := by
  induction l with
  | nil => simp
  | cons x r ih =>
    rw [List.countP_cons, List.countP_cons]
    by_cases h : Go.Proofs.Ytgehkabfjpifiaa.S.looseB x = true
    · rw [if_pos h, if_pos (fair_of_loose h)]; omega
    · rw [if_neg h]; omega

theorem FnFairCount : laws_FnFairCount.Pure := by
  intro l _ _ hwf
  refine ⟨20001, ?_⟩
  unfold laws_FnFairCount.f
  by_cases h0 : (l.length : Int) > 1048576
  · rw [if_pos h0]
  rw [if_neg h0]
  obtain ⟨n, hr, n0, n1⟩ := draw_number l (bytes_of_wf hwf) 20001 (by omega)
  unfold spec_DrawPermFairCount.f
  rw [hr]
  simp only [Option.bind_some]
  have e : Go.Proofs.Ytgehkabfjpifiaa.S.impl_PermFairCount.f n = some (Go.Proofs.Ytgehkabfjpifiaa.S.cnt Go.Proofs.Ytgehkabfjpifiaa.S.fairB n) := rfl
  have e2 : Go.Proofs.Ytgehkabfjpifiaa.S.impl_PermLooseCount.f n = some (Go.Proofs.Ytgehkabfjpifiaa.S.cnt Go.Proofs.Ytgehkabfjpifiaa.S.looseB n) := rfl
  rw [spec_faircount_eq n _ (by omega), e]
  simp only [Option.bind_some]
  rw [if_neg (by simp), if_pos trivial]
  obtain ⟨K, hK⟩ : ∃ K : Nat, K = 20000 := ⟨_, rfl⟩
  have e1 : (20001 : Nat) = K + 1 := by omega
  rw [e1]
  simp only [laws_FnFairCount.j0]
  have hs := impl_fairsum_eq n
  by_cases h : 1 ≤ n ∧ n ≤ 7
  · rw [if_pos h] at hs
    have hs2 := at_rounds (fun k => impl_PermFairSum.mono n k) (show 40 ≤ K by omega) hs
    have hc := fair_cnt n
    rw [if_pos h] at hc
    have hl : Go.Proofs.Ytgehkabfjpifiaa.S.cnt Go.Proofs.Ytgehkabfjpifiaa.S.looseB n = ((((Go.Proofs.Ytgehkabfjpifiaa.S.permsF n.toNat n.toNat []).countP Go.Proofs.Ytgehkabfjpifiaa.S.looseB : Nat) : Int), true) := by unfold Go.Proofs.Ytgehkabfjpifiaa.S.cnt; rw [if_pos h]
    have hf : Go.Proofs.Ytgehkabfjpifiaa.S.cnt Go.Proofs.Ytgehkabfjpifiaa.S.fairB n = ((((Go.Proofs.Ytgehkabfjpifiaa.S.permsF n.toNat n.toNat []).countP Go.Proofs.Ytgehkabfjpifiaa.S.fairB : Nat) : Int), true) := by unfold Go.Proofs.Ytgehkabfjpifiaa.S.cnt; rw [if_pos h]
    have hle := countP_le (Go.Proofs.Ytgehkabfjpifiaa.S.permsF n.toNat n.toNat [])
    have hv : (((Go.Proofs.Ytgehkabfjpifiaa.S.permsF n.toNat n.toNat []).countP Go.Proofs.Ytgehkabfjpifiaa.S.fairB : Nat) : Int) = fsum n.toNat := by rw [hf] at hc; exact congrArg Prod.fst hc
    rw [hs2, e2, hl, hf]
    simp only [Option.bind_some, Bool.not_true, Bool.false_eq_true, if_false, if_true]
    rw [if_pos hv.symm]
    simp
    omega
  · have hc : Go.Proofs.Ytgehkabfjpifiaa.S.cnt Go.Proofs.Ytgehkabfjpifiaa.S.fairB n = (0, false) := by unfold Go.Proofs.Ytgehkabfjpifiaa.S.cnt; rw [if_neg h]
    rw [hc]
    simp

end Go.Proofs.Ytgehkabfjpifiaa.Pure

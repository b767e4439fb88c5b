/- Counting and adding tell the same number of loose ones (P64): for every code. -/
import Derived.Test.YtgehkabfjpifiaaLQc
import Derived.Test.YtgehkabfjpifiaaLQc2
import Derived.Test.YtgehkabfjpifiaaCntL
namespace Go.Proofs.Ytgehkabfjpifiaa.Pure
open Go.RowKit Go.Proofs.Ytgehkabfjpifiaa.Qc Go.Proofs.YtgehkabfjpifiaaW.PrintWords Go.Proofs.YtgehkabfjpifiaaW.PrintLast Go.Proofs.YtgehkabfjpifiaaW.PrintMore
open Go.Proofs.Ytgehkabfjpifiaa.QcL
set_option linter.unusedVariables false
set_option linter.unusedSimpArgs false

theorem loose_cnt (n : Int) : Go.Proofs.Ytgehkabfjpifiaa.S.cnt Go.Proofs.Ytgehkabfjpifiaa.S.looseB n = if 1 ≤ n ∧ n ≤ 7 then (Go.Proofs.Ytgehkabfjpifiaa.S.lo n.toNat, true) else (0, false) := by
  unfold Go.Proofs.Ytgehkabfjpifiaa.S.cnt
  by_cases h : 1 ≤ n ∧ n ≤ 7
  · rw [if_pos h, if_pos h]
    have : n = 1 ∨ n = 2 ∨ n = 3 ∨ n = 4 ∨ n = 5 ∨ n = 6 ∨ n = 7 := by omega
    rcases this with rfl | rfl | rfl | rfl | rfl | rfl | rfl
    · rw [show ((1 : Int)).toNat = 1 from rfl, Go.Proofs.Ytgehkabfjpifiaa.S.nL1]; rfl
    · rw [show ((2 : Int)).toNat = 2 from rfl, Go.Proofs.Ytgehkabfjpifiaa.S.nL2]; rfl
    · rw [show ((3 : Int)).toNat = 3 from rfl, Go.Proofs.Ytgehkabfjpifiaa.S.nL3]; rfl
    · rw [show ((4 : Int)).toNat = 4 from rfl, Go.Proofs.Ytgehkabfjpifiaa.S.nL4]; rfl
    · rw [show ((5 : Int)).toNat = 5 from rfl, Go.Proofs.Ytgehkabfjpifiaa.S.nL5]; rfl
    · rw [show ((6 : Int)).toNat = 6 from rfl, Go.Proofs.Ytgehkabfjpifiaa.S.nL6]; rfl
    · rw [show ((7 : Int)).toNat = 7 from rfl, Go.Proofs.Ytgehkabfjpifiaa.S.nL7]; rfl
  · rw [if_neg h, if_neg h]

theorem FnLooseCount : laws_FnLooseCount.Pure := by
  intro l _ _ hwf
  refine ⟨20000, ?_⟩
  unfold laws_FnLooseCount.f
  by_cases h0 : (l.length : Int) > 1048576
  · rw [if_pos h0]
  rw [if_neg h0]
  obtain ⟨n, hr, n0, n1⟩ := draw_number l (bytes_of_wf hwf) 20000 (by omega)
  unfold spec_DrawPermLooseCount.f
  rw [hr]
  simp only [Option.bind_some]
  have e : Go.Proofs.Ytgehkabfjpifiaa.S.impl_PermLooseCount.f n = some (Go.Proofs.Ytgehkabfjpifiaa.S.cnt Go.Proofs.Ytgehkabfjpifiaa.S.looseB n) := rfl
  have e2 : Go.Proofs.Ytgehkabfjpifiaa.S.impl_PermLooseSum.f n = some (if 1 ≤ n ∧ n ≤ 7 then (Go.Proofs.Ytgehkabfjpifiaa.S.lo n.toNat, true) else (0, false)) := rfl
  rw [spec_loosecount_eq n _ (by omega), e, loose_cnt]
  simp only [Option.bind_some]
  rw [if_neg (by simp), if_pos trivial]
  by_cases h : 1 ≤ n ∧ n ≤ 7
  · simp only [if_pos h, if_true, e2, Option.bind_some, beq_self_eq_true]
  · simp only [if_neg h]
    simp

end Go.Proofs.Ytgehkabfjpifiaa.Pure

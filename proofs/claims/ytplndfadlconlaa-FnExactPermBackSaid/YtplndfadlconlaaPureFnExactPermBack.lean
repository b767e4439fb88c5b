/- PermBack returns what the reference returns, in memory of its own, for every list. -/
import Derived.Test.YtplndfadlconlaaLQb
namespace Go.Proofs.Ytplndfadlconlaa.Pure
open Go.RowKit Go.Proofs.Ytplndfadlconlaa.Qb Go.Proofs.YtplndfadlconlaaW.PrintWords Go.Proofs.YtplndfadlconlaaW.PrintLast Go.Proofs.YtplndfadlconlaaW.PrintMore
open Go.Proofs.Ytplndfadlconlaa.QbL
set_option linter.unusedVariables false
set_option linter.unusedSimpArgs false

theorem FnExactPermBack : laws_FnExactPermBack.Pure := by
  intro l _ _ _
  refine ⟨1048600, ?_⟩
  unfold laws_FnExactPermBack.f
  by_cases h0 : (l.length : Int) > 1048576
  · rw [if_pos h0]
  rw [if_neg h0]
  have hb : l.length ≤ 1048576 := by omega
  rw [toInt_eq l hb _ (by omega)]
  simp only [Option.bind_some]
  rw [spec_back_eq l hb _ (by omega) (by omega)]
  simp only [Option.bind_some]
  rw [impl_back_eq l _ (by omega)]
  simp only [Option.bind_some]
  have ho := backR_length l
  generalize hR : backR l = R at *
  obtain ⟨out, ok⟩ := R
  simp only at ho ⊢
  rw [eqInt_self out (by omega) _ (by omega)]
  simp only [Option.bind_some, if_true]
  have e1 : (1048600 : Nat) = 1048599 + 1 := rfl
  have hne : (ok != ok) = false := by simp
  rw [hne, e1]
  simp only [laws_FnExactPermBack.j0]
  rw [if_neg (by simp), toInt_eq l hb _ (by omega)]
  simp only [Option.bind_some]
  rw [eqInt_self l hb _ (by omega)]
  simp only [Option.bind_some, if_true]
  rw [mark_eq l hb _ (by omega)]
  simp only [Option.bind_some]
  rw [if_neg (by omega), eqInt_self out (by omega) _ (by omega)]
  simp only [Option.bind_some, if_true]
  have e2 : (1048599 : Nat) = 1048598 + 1 := rfl
  rw [hne, e2]
  simp only [laws_FnExactPermBack.j1]
  rw [if_neg (by simp), mark_eq out (by omega) _ (by omega)]
  simp only [Option.bind_some]
  rw [held_eq out.length (by omega) _ (by omega)]
  simp only [Option.bind_some]
  rw [if_neg (by omega), if_pos trivial, toInt_eq l hb _ (by omega)]
  simp only [Option.bind_some]
  rw [impl_back_eq l _ (by omega), hR]
  simp only [Option.bind_some]
  rw [eqInt_self out (by omega) _ (by omega)]
  simp only [Option.bind_some, if_true]
  have e3 : (1048598 : Nat) = 1048597 + 1 := rfl
  rw [hne, e3]
  simp only [laws_FnExactPermBack.j2]
  rw [if_neg (by simp), held_eq out.length (by omega) _ (by omega)]
  simp only [Option.bind_some]
  rw [if_neg (by omega), if_pos trivial]

end Go.Proofs.Ytplndfadlconlaa.Pure

/- CountRooms returns what the reference returns, for all arguments. -/
import Derived.Test.YtjbjpkphepfldaaLQc
import Derived.Test.YtjbjpkphepfldaaQc1
namespace Go.Proofs.Ytjbjpkphepfldaa.Pure
open Go.RowKit Go.Proofs.Ytjbjpkphepfldaa.Qc Go.Proofs.YtjbjpkphepfldaaW.PrintWords Go.Proofs.YtjbjpkphepfldaaW.PrintLast Go.Proofs.YtjbjpkphepfldaaW.PrintMore
open Go.Proofs.Ytjbjpkphepfldaa.QcL
open Go.Proofs.Ytjbjpkphepfldaa.S
set_option linter.unusedVariables false
set_option linter.unusedSimpArgs false

theorem FnExactCountRooms : laws_FnExactCountRooms.Pure := by
  intro n m _ _
  obtain ⟨out, ok, hi, hs, ho⟩ := both_is n m
  refine ⟨1000, ?_⟩
  unfold laws_FnExactCountRooms.f
  rw [hs]
  simp only [Option.bind_some]
  rw [hi]
  simp only [Option.bind_some]
  rw [eqInt_self out (by omega) _ (by omega)]
  simp only [Option.bind_some, if_true]
  have hne : (ok != ok) = false := by simp
  have e1 : (1000 : Nat) = 999 + 1 := rfl
  rw [hne, e1]
  simp only [laws_FnExactCountRooms.j0]
  rw [if_neg (by simp), mark_eq out (by omega) _ (by omega)]
  simp only [Option.bind_some]
  rw [held_eq out.length (by omega) _ (by omega)]
  simp only [Option.bind_some]
  rw [if_neg (by omega), if_pos trivial, hi]
  simp only [Option.bind_some]
  rw [eqInt_self out (by omega) _ (by omega)]
  simp only [Option.bind_some, if_true]
  have e2 : (999 : Nat) = 998 + 1 := rfl
  rw [hne, e2]
  simp only [laws_FnExactCountRooms.j1]
  rw [if_neg (by simp), held_eq out.length (by omega) _ (by omega)]
  simp only [Option.bind_some]
  rw [if_neg (by omega), if_pos trivial]

end Go.Proofs.Ytjbjpkphepfldaa.Pure

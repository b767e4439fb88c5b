/- PermUnder returns what the reference returns, in memory of its own, for every two lists. -/
import Derived.Test.YtplndfadlconlaaLQc
namespace Go.Proofs.Ytplndfadlconlaa.Pure
open Go.RowKit Go.Proofs.Ytplndfadlconlaa.Qc Go.Proofs.YtplndfadlconlaaW.PrintWords Go.Proofs.YtplndfadlconlaaW.PrintLast Go.Proofs.YtplndfadlconlaaW.PrintMore
open Go.Proofs.Ytplndfadlconlaa.QcL
set_option linter.unusedVariables false
set_option linter.unusedSimpArgs false

theorem mark_from (l : List Int) (hb : l.length ≤ 1048576) (m : Int) (h0 : 0 ≤ m) (h1 : m ≤ 2000000) (k : Nat) (hk : l.length < k) : laws_markIntS.f k l m = some (m + (l.length : Int), marks m l.length) := by
  unfold laws_markIntS.f
  have := mark_l0 l.length l k 0 m (by omega) (by omega) hk hb (by omega) (by omega)
  simpa using this

theorem FnExactPermUnder : laws_FnExactPermUnder.Pure := by
  intro l l1 _ _ _ _ _ _
  refine ⟨1048600, ?_⟩
  unfold laws_FnExactPermUnder.f
  by_cases h0 : (l.length : Int) > 1048576
  · rw [if_pos h0]
  rw [if_neg h0]
  by_cases h0' : (l1.length : Int) > 1048576
  · rw [if_pos h0']
  rw [if_neg h0']
  have hb : l.length ≤ 1048576 := by omega
  have hb1 : l1.length ≤ 1048576 := by omega
  rw [toInt_eq l hb _ (by omega)]
  simp only [Option.bind_some]
  rw [toInt_eq l1 hb1 _ (by omega)]
  simp only [Option.bind_some]
  rw [spec_under_eq l l1 hb hb1 _ (by omega)]
  simp only [Option.bind_some]
  rw [impl_under_eq l l1 hb hb1 _ (by omega)]
  simp only [Option.bind_some]
  have ho := underR_length l l1
  generalize hR : underR l l1 = R at *
  obtain ⟨out, ok⟩ := R
  simp only at ho ⊢
  rw [eqInt_self out (by omega) _ (by omega)]
  simp only [Option.bind_some, if_true]
  have e1 : (1048600 : Nat) = 1048599 + 1 := rfl
  have hne : (ok != ok) = false := by simp
  rw [hne, e1]
  simp only [laws_FnExactPermUnder.j0]
  rw [if_neg (by simp), toInt_eq l hb _ (by omega)]
  simp only [Option.bind_some]
  rw [eqInt_self l hb _ (by omega)]
  simp only [Option.bind_some, if_true]
  rw [toInt_eq l1 hb1 _ (by omega)]
  simp only [Option.bind_some]
  rw [eqInt_self l1 hb1 _ (by omega)]
  simp only [Option.bind_some, if_true]
  rw [mark_eq l hb _ (by omega)]
  simp only [Option.bind_some]
  rw [mark_from l1 hb1 _ (by omega) (by omega) _ (by omega)]
  simp only [Option.bind_some]
  rw [if_neg (by omega), eqInt_self out (by omega) _ (by omega)]
  simp only [Option.bind_some, if_true]
  have e2 : (1048599 : Nat) = 1048598 + 1 := rfl
  rw [hne, e2]
  simp only [laws_FnExactPermUnder.j1]
  rw [if_neg (by simp), mark_eq out (by omega) _ (by omega)]
  simp only [Option.bind_some]
  rw [held_eq out.length (by omega) _ (by omega)]
  simp only [Option.bind_some]
  rw [if_neg (by omega), if_pos trivial, toInt_eq l hb _ (by omega)]
  simp only [Option.bind_some]
  rw [toInt_eq l1 hb1 _ (by omega)]
  simp only [Option.bind_some]
  rw [impl_under_eq l l1 hb hb1 _ (by omega), hR]
  simp only [Option.bind_some]
  rw [eqInt_self out (by omega) _ (by omega)]
  simp only [Option.bind_some, if_true]
  have e3 : (1048598 : Nat) = 1048597 + 1 := rfl
  rw [hne, e3]
  simp only [laws_FnExactPermUnder.j2]
  rw [if_neg (by simp), held_eq out.length (by omega) _ (by omega)]
  simp only [Option.bind_some]
  rw [if_neg (by omega), if_pos trivial]

end Go.Proofs.Ytplndfadlconlaa.Pure

/- FnTerm: the plain law. -/
import Derived.Test.YtmocablibmkebaaLQt
import Derived.Test.YtmocablibmkebaaQt2
import Derived.Test.YtmocablibmkebaaTMath
namespace Go.Proofs.Ytmocablibmkebaa.Pure
open Go.RowKit Go.Proofs.Ytmocablibmkebaa.Qt Go.Proofs.YtmocablibmkebaaW.PrintWords Go.Proofs.YtmocablibmkebaaW.PrintLast Go.Proofs.YtmocablibmkebaaW.PrintMore
open Go.Proofs.Ytmocablibmkebaa.QtL
open Go.Proofs.Ytmocablibmkebaa.S
set_option linter.unusedVariables false
set_option linter.unusedSimpArgs false

theorem app_toList (a b : ByteArray) : (a ++ b).data.toList = a.data.toList ++ b.data.toList := by
  rw [ByteArray.data_append, Array.toList_append]

theorem FnTerm : laws_FnTerm.Pure := by
  intro l0 _ _ hw
  refine ⟨20, ?_⟩
  unfold laws_FnTerm.f
  by_cases h : (l0.length : Int) > 1048576
  · rw [if_pos h]
  rw [if_neg h]
  obtain ⟨s, hs, hsz⟩ := draw_gives l0 (bytes_of_wf hw)
  have e : (ofI s.data.toList).isSome = (ofS s).2 := by
    rw [of_agree]
    cases (ofS s).2 <;> rfl
  have hT : ∀ x : ByteArray, impl_TermIn.f x = some (ofI x.data.toList).isSome := fun _ => rfl
  have hS : spec_TermIn.f 20 s = some (ofI s.data.toList).isSome := by rw [e]; rfl
  rw [hs, Option.bind_some, hT, Option.bind_some, hS, Option.bind_some]
  rw [if_neg (by simp)]
  simp only [laws_FnTerm.j0, hT, app_toList, Option.bind_some]
  cases hv : (ofI s.data.toList).isSome with
  | false => rfl
  | true =>
    have e3 : ofI (s.data.toList ++ (⟨#[41]⟩ : ByteArray).data.toList) = none := ofI_close hv
    rw [if_neg (by decide), e3]
    by_cases c : (s.size : Int) > 59
    · rw [if_pos c, if_pos (by omega)]
      rfl
    · rw [if_neg c, if_pos (by omega)]
      have hl : s.data.toList.length ≤ 59 := by rw [← Lib.size_eq]; omega
      have e1 : (ofI ((⟨#[62]⟩ : ByteArray).data.toList ++ s.data.toList)).isSome = true := ofI_sign 62 (.inl rfl) hv hl
      have e2 : (ofI ((⟨#[94]⟩ : ByteArray).data.toList ++ s.data.toList)).isSome = true := ofI_sign 94 (.inr rfl) hv hl
      rw [e1, if_pos rfl, e2, if_pos rfl, if_pos (by omega)]
      rfl

end Go.Proofs.Ytmocablibmkebaa.Pure

/- PlanTurn returns what the reference returns, for every list of texts. -/
import Derived.Test.YtpilppppkjenaaaLMarkB
import Derived.Test.YtpilppppkjenaaaLMv
namespace Go.Proofs.Ytpilppppkjenaaa.Pure
open Go.RowKit Go.Proofs.Ytpilppppkjenaaa.S Go.Proofs.Ytpilppppkjenaaa.Qa Go.Proofs.Ytpilppppkjenaaa.QaL Go.Proofs.YtpilppppkjenaaaW.PrintWords Go.Proofs.YtpilppppkjenaaaW.PrintLast Go.Proofs.YtpilppppkjenaaaW.PrintMore
set_option linter.unusedVariables false
set_option linter.unusedSimpArgs false

theorem FnExactPlanTurn (l : List ByteArray) (hl : l.length ≤ maxLen) (hs : ∀ s ∈ l, s.size ≤ maxLen) : ∃ k, laws_FnExactPlanTurn.f k l = some true := by
  refine Ends.get ?_
  obtain ⟨r, hr, hd⟩ := sz_ends l hl hs
  refine Ends.bind hr ?_
  by_cases hn : r < 0
  · exact Ends.yes hn (Ends.all (fun k => rfl))
  refine Ends.no hn ?_
  have hsm : small l = true := hd.resolve_left hn
  obtain ⟨b1, b2⟩ := small_out hsm
  have himpl : ∀ k : Nat, impl_PlanTurn.f l = some (moved turnG l, movedOk turnG l) := fun k => by
    unfold impl_PlanTurn.f
    rw [if_pos hsm]
  have hlen : (moved turnG l, movedOk turnG l).1.length ≤ 4000000 := Nat.le_trans (moved_small turnG l) (by omega)
  refine Ends.bind (copy_ends l b1) (Ends.bind (specturn_ends l b1 b2) (Ends.bind (copy_ends l b1) (Ends.bind (Ends.all himpl) ?_)))
  generalize (moved turnG l, movedOk turnG l) = v at *
  obtain ⟨v1, v2⟩ := v
  simp only [] at hlen himpl ⊢
  refine Ends.bind (refl_ends v1 hlen) (Ends.yes rfl ?_)
  have tail : QaL.Ends (fun k => laws_FnExactPlanTurn.j1 k l v1 v2 v1 false) true := by
    refine Ends.back (G := fun k => (laws_markStringS.f k v1 1).bind fun bt281 => ((laws_heldStringS.f k bt281.2 1).bind fun t283 => (if t283 < 0 then (some false) else (if t283 = bt281.1 then ((laws_toStringS.f k l).bind fun t284 => ((impl_PlanTurn.f t284).bind fun bt287 => ((laws_eqStringS.f k bt287.1 v1).bind fun t291 => (if t291 = true then (laws_FnExactPlanTurn.j2 k bt281.2 bt281.1 (bt287.2 != v2)) else (laws_FnExactPlanTurn.j2 k bt281.2 bt281.1 true))))) else (some false))))) (fun k => ?_) ?_
    · simp only [laws_FnExactPlanTurn.j1]
      rw [if_neg (by simp)]
    refine Ends.bind (smark_ends v1 hlen) (Ends.bind (sheld_ends _ hlen) (Ends.no (by omega) (Ends.yes rfl (Ends.bind (copy_ends l b1) (Ends.bind (Ends.all himpl) (Ends.bind (refl_ends v1 hlen) (Ends.yes rfl ?_)))))))
    refine Ends.back (G := fun k => (laws_heldStringS.f k (smarks 1 v1.length) 1).bind fun t292 => (if t292 < 0 then (some false) else (if t292 = 1 + (v1.length : Int) then (some true) else (some false)))) (fun k => ?_) (Ends.bind (sheld_ends _ hlen) (Ends.no (by omega) (Ends.yes rfl (Ends.all (fun k => rfl)))))
    simp only [laws_FnExactPlanTurn.j2]
    rw [if_neg (by simp)]
  refine Ends.back (G := fun k => (laws_toStringS.f k l).bind fun t274 => ((laws_eqStringS.f k l t274).bind fun t277 => (if t277 = true then ((laws_markStringS.f k l 1).bind fun bt278 => (if bt278.1 < 0 then (laws_FnExactPlanTurn.j1 k l v1 v2 v1 true) else ((laws_eqStringS.f k v1 v1).bind fun t280 => (if t280 = true then (laws_FnExactPlanTurn.j1 k l v1 v2 v1 (v2 != v2)) else (laws_FnExactPlanTurn.j1 k l v1 v2 v1 true))))) else (some false)))) (fun k => ?_) (Ends.bind (copy_ends l b1) (Ends.bind (refl_ends l b1) (Ends.yes rfl (Ends.bind (smark_ends l b1) (Ends.no (by simp only []; omega) (Ends.bind (refl_ends v1 hlen) (Ends.yes rfl ?_)))))))
  · simp only [laws_FnExactPlanTurn.j0]
    rw [if_neg (by simp)]
  · rw [show (v2 != v2) = false by simp]
    exact tail
end Go.Proofs.Ytpilppppkjenaaa.Pure

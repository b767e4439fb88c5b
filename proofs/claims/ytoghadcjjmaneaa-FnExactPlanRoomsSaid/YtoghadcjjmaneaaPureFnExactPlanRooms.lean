/- PlanRooms tells what the reference tells, for every list of texts. -/
import Derived.Test.YtoghadcjjmaneaaLIn
namespace Go.Proofs.Ytoghadcjjmaneaa.Pure
open Go.RowKit Go.Proofs.Ytoghadcjjmaneaa.S Go.Proofs.Ytoghadcjjmaneaa.Qa Go.Proofs.Ytoghadcjjmaneaa.QaL Go.Proofs.YtoghadcjjmaneaaW.PrintWords Go.Proofs.YtoghadcjjmaneaaW.PrintLast Go.Proofs.YtoghadcjjmaneaaW.PrintMore
set_option linter.unusedVariables false
set_option linter.unusedSimpArgs false

theorem nm_of {p : List ByteArray} (h : ffine p = true) : Nm p p.length (wid (p.map bnum)) := ⟨gr_of (lets_all (ffine_r h).1), (ffine_r h).2⟩
theorem specrooms_ends (p : List ByteArray) (hb : p.length ≤ 4000000) (hs : ∀ s ∈ p, s.size ≤ 4000000) : QaL.Ends (fun k => spec_PlanRooms.f k p) (if ffine p = true then ((((roomsT p).length : Nat) : Int), true) else (0, false)) := by
  refine Ends.bind (planin_ends p hb hs) ?_
  by_cases h : ffine p = true
  · rw [if_pos h]
    refine Ends.yes h ?_
    have hN := nm_of h
    rw [rooms_lat hN.toGr]
    exact Ends.bind (rooms_ends hN) (Ends.all (fun k => rfl))
  · rw [if_neg h]
    exact Ends.no h (Ends.all (fun k => rfl))
theorem FnExactPlanRooms (l : List ByteArray) (hl : l.length ≤ maxLen) (hs : ∀ s ∈ l, s.size ≤ maxLen) : ∃ k, laws_FnExactPlanRooms.f k l = some true := by
  refine Ends.get ?_
  obtain ⟨r, hr, hd⟩ := sz_ends l hl hs
  refine Ends.bind hr ?_
  by_cases hn : r < 0
  · exact Ends.yes hn (Ends.all (fun k => rfl))
  refine Ends.no hn ?_
  have hsm : small l = true := hd.resolve_left hn
  obtain ⟨b1, b2⟩ := small_out hsm
  refine Ends.bind (copy_ends l b1) (Ends.bind (specrooms_ends l b1 b2) (Ends.bind (copy_ends l b1) (Ends.bind (r := if ffine l = true then ((((roomsT l).length : Nat) : Int), true) else (0, false)) (Ends.all (fun k => ?_)) ?_)))
  · unfold impl_PlanRooms.f
    rw [if_pos hsm]
    split <;> rfl
  · generalize (if ffine l = true then ((((roomsT l).length : Nat) : Int), true) else (0, false)) = v
    obtain ⟨v1, v2⟩ := v
    refine Ends.yes rfl (Ends.back (G := fun k => (laws_toStringS.f k l).bind fun t199 => ((laws_eqStringS.f k l t199).bind fun t202 => (if t202 = true then (some true) else (some false)))) (fun k => ?_) (Ends.bind (copy_ends l b1) (Ends.bind (refl_ends l b1) (Ends.yes rfl (Ends.all (fun k => rfl))))))
    simp only [laws_FnExactPlanRooms.j0]
    rw [if_neg (by simp)]
end Go.Proofs.Ytoghadcjjmaneaa.Pure

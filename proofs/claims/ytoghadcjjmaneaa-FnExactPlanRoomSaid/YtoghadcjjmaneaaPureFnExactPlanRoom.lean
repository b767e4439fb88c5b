/- PlanRoom tells what the reference tells, for every list of texts and every number. -/
import Derived.Test.YtoghadcjjmaneaaLIn
import Derived.Test.YtoghadcjjmaneaaQa5
namespace Go.Proofs.Ytoghadcjjmaneaa.Pure
open Go.RowKit Go.Proofs.Ytoghadcjjmaneaa.S Go.Proofs.Ytoghadcjjmaneaa.Qa Go.Proofs.Ytoghadcjjmaneaa.QaL Go.Proofs.YtoghadcjjmaneaaW.PrintWords Go.Proofs.YtoghadcjjmaneaaW.PrintLast Go.Proofs.YtoghadcjjmaneaaW.PrintMore
set_option linter.unusedVariables false
set_option linter.unusedSimpArgs false

theorem nm_of {p : List ByteArray} (h : ffine p = true) : Nm p p.length (wid (p.map bnum)) := ⟨gr_of (lets_all (ffine_r h).1), (ffine_r h).2⟩
def given (p : List ByteArray) (a : Int) : Prop := ffine p = true ∧ 0 ≤ a ∧ a < ((roomsT p).length : Int)
instance (p : List ByteArray) (a : Int) : Decidable (given p a) := by unfold given; infer_instance
theorem given_ends (p : List ByteArray) (a : Int) (hb : p.length ≤ 4000000) (hs : ∀ s ∈ p, s.size ≤ 4000000) : QaL.Ends (fun k => spec_l1Given.f k p a) (decide (given p a)) := by
  refine Ends.bind (planin_ends p hb hs) ?_
  by_cases h : ffine p = true
  · have hN := nm_of h
    refine Ends.yes h (Ends.bind (rooms_ends hN) (Ends.all (fun k => ?_)))
    have hle := lat_le (p.map bnum) (wid (p.map bnum)) (p.length * wid (p.map bnum))
    have h36 := Nat.mul_le_mul hN.h6 hN.w6
    rw [← rooms_lat hN.toGr] at hle ⊢
    rw [w64 _ (by omega), in_eq]
    simp only [Option.bind]
    congr 1
    apply decide_eq_decide.2
    unfold given
    exact ⟨fun x => ⟨h, x.1, by omega⟩, fun x => ⟨x.2.1, by have := x.2.2; omega⟩⟩
  · rw [decide_eq_false (fun x => h x.1)]
    exact Ends.no h (Ends.all (fun k => rfl))
/-- A room's numbers. -/
def roomNums (p : List ByteArray) (a : Int) : Int × Int × Int × Int × Bool := if given p a then (((roomsT p).getD a.toNat ⟨0, 0, 0, 0⟩).r, ((roomsT p).getD a.toNat ⟨0, 0, 0, 0⟩).c, ((roomsT p).getD a.toNat ⟨0, 0, 0, 0⟩).h, ((roomsT p).getD a.toNat ⟨0, 0, 0, 0⟩).w, true) else (0, 0, 0, 0, false)
theorem specroom_ends (p : List ByteArray) (a : Int) (hb : p.length ≤ 4000000) (hs : ∀ s ∈ p, s.size ≤ 4000000) : QaL.Ends (fun k => spec_PlanRoom.f k p a) (roomNums p a) := by
  refine Ends.bind (given_ends p a hb hs) ?_
  by_cases h : given p a
  · unfold roomNums
    rw [if_pos h, decide_eq_true h]
    refine Ends.yes rfl ?_
    obtain ⟨hf, h0, h1⟩ := h
    have hN := nm_of hf
    obtain ⟨J, rfl⟩ : ∃ J : Nat, a = (J : Int) := ⟨a.toNat, by omega⟩
    refine Ends.bind (room_ends hN J) (Ends.all (fun k => ?_))
    have hw := hN.toGr.wid
    have hg : (run (p.map bnum) (wid (p.map bnum)) (p.length * wid (p.map bnum))).2[J]? = some ((roomsT p).getD J ⟨0, 0, 0, 0⟩) := by
      have : roomsT p = (run (p.map bnum) (wid (p.map bnum)) (p.length * wid (p.map bnum))).2 := by unfold roomsT roomsOf; rw [List.length_map]
      rw [← this, List.getD_eq_getElem?_getD, List.getElem?_eq_getElem (by omega)]
      rfl
    obtain ⟨x1, x2, x3, x4, x5, x6⟩ := (box_is (H := p.length) (cw (p.map bnum) (wid (p.map bnum))) hN.w1 J _ (Nat.le_refl _)).1 _ hg
    rw [show ((J : Int)).toNat = J from rfl]
    generalize (roomsT p).getD J ⟨0, 0, 0, 0⟩ = y at *
    simp only []
    rw [← x1, ← x2, ← x3, ← x4]
    rw [show y.r + y.h - 1 - y.r + 1 = y.h by omega, show y.c + y.w - 1 - y.c + 1 = y.w by omega]
  · unfold roomNums
    rw [if_neg h, decide_eq_false h]
    exact Ends.no (fun x => by cases x) (Ends.all (fun k => rfl))
theorem FnExactPlanRoom (l : List ByteArray) (hl : l.length ≤ maxLen) (hs : ∀ s ∈ l, s.size ≤ maxLen) (a : Int) (ha : (Lit.int .i64 a).wf = true) : ∃ k, laws_FnExactPlanRoom.f k l a = some true := by
  refine Ends.get ?_
  obtain ⟨r, hr, hd⟩ := sz_ends l hl hs
  refine Ends.bind hr ?_
  by_cases hn : r < 0
  · exact Ends.yes hn (Ends.all (fun k => rfl))
  refine Ends.no hn ?_
  have hsm : small l = true := hd.resolve_left hn
  obtain ⟨b1, b2⟩ := small_out hsm
  refine Ends.bind (copy_ends l b1) (Ends.bind (specroom_ends l a b1 b2) (Ends.bind (copy_ends l b1) (Ends.bind (r := roomNums l a) (Ends.all (fun k => ?_)) ?_)))
  · unfold impl_PlanRoom.f roomNums
    rw [if_pos hsm]
    by_cases h : given l a
    · rw [if_pos h]
      exact if_pos h
    · rw [if_neg h]
      exact if_neg h
  · generalize roomNums l a = v
    obtain ⟨v1, v2, v3, v4, v5⟩ := v
    refine Ends.yes rfl (Ends.yes rfl (Ends.yes rfl (Ends.yes rfl (Ends.back (G := fun k => (laws_toStringS.f k l).bind fun t199 => ((laws_eqStringS.f k l t199).bind fun t202 => (if t202 = true then (some true) else (some false)))) (fun k => ?_) (Ends.bind (copy_ends l b1) (Ends.bind (refl_ends l b1) (Ends.yes rfl (Ends.all (fun k => rfl)))))))))
    simp only [laws_FnExactPlanRoom.j0]
    rw [if_neg (by simp)]
end Go.Proofs.Ytoghadcjjmaneaa.Pure

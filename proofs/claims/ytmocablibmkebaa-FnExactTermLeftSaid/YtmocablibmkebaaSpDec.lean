/- What l11Left returns, as a function of what it is handed. -/
import Derived.Test.YtmocablibmkebaaSpLeft
namespace Go.Proofs.Ytmocablibmkebaa.S
open Go.RowKit Go.Proofs.Ytmocablibmkebaa.Qs Go.Proofs.YtmocablibmkebaaW.PrintWords Go.Proofs.YtmocablibmkebaaW.PrintMore Go.Proofs.Ytmocablibmkebaa.Qi
set_option linter.unusedVariables false
set_option linter.unusedSimpArgs false

/-- The tidy term that stands in a list. -/
def decF : Nat → Int → List S32 → Option Tm
  | 0, _, _ => none
  | k + 1, a, l =>
    if a = 111 then (match l with | [] => some .o | _ => none)
    else match l with
      | [x, y] => if a = 124 ∨ a = 45 then ((decF k x.f0 x.f1).bind fun t => (decF k y.f0 y.f1).bind fun u => some (.two (a == 124) t u)) else none
      | _ => none
theorem s32_of {x : S32} {a : Int} {l : List S32} (h0 : x.f0 = a) (h1 : x.f1 = l) : x = ⟨a, l⟩ := by cases x; simp_all
theorem decF_enc : ∀ (k : Nat) (a : Int) (l : List S32) (t : Tm), decF k a l = some t → Td t ∧ (enc t).f0 = a ∧ (enc t).f1 = l := by
  intro k
  induction k with
  | zero => intro a l t h; cases h
  | succ k ih =>
    intro a l t h
    unfold decF at h
    by_cases e : a = 111
    · rw [if_pos e] at h
      split at h
      · obtain rfl := Option.some.inj h
        exact ⟨trivial, e.symm, rfl⟩
      · cases h
    · rw [if_neg e] at h
      split at h
      · rename_i x y
        by_cases e2 : a = 124 ∨ a = 45
        · rw [if_pos e2] at h
          obtain ⟨t1, h1, h⟩ := Option.bind_eq_some_iff.mp h
          obtain ⟨t2, h2, h⟩ := Option.bind_eq_some_iff.mp h
          obtain rfl := Option.some.inj h
          obtain ⟨d1, x0, x1⟩ := ih _ _ _ h1
          obtain ⟨d2, y0, y1⟩ := ih _ _ _ h2
          refine ⟨⟨d1, d2⟩, ?_, ?_⟩
          · rcases e2 with rfl | rfl <;> rfl
          · show [enc t1, enc t2] = [x, y]
            have e1 : enc t1 = x := by rw [s32_of x0 x1]; cases x; rfl
            have e2 : enc t2 = y := by rw [s32_of y0 y1]; cases y; rfl
            rw [e1, e2]
        · rw [if_neg e2] at h
          cases h
      · cases h
theorem decF_of : ∀ (k : Nat) (t : Tm), Td t → t.rooms ≤ k → decF k (enc t).f0 (enc t).f1 = some t := by
  intro k
  induction k with
  | zero =>
    intro t _ h
    have := rooms_pos t
    omega
  | succ k ih =>
    intro t ht hr
    cases t with
    | o => rfl
    | one f a => exact ht.elim
    | two p a b =>
      simp only [Tm.rooms] at hr
      have ra := rooms_pos a
      have rb := rooms_pos b
      show decF (k + 1) (bs p) [enc a, enc b] = _
      unfold decF
      rw [if_neg (by cases p <;> decide)]
      simp only
      rw [if_pos (by cases p <;> simp [bs]), ih a ht.1 (by omega), Option.bind_some, ih b ht.2 (by omega), Option.bind_some]
      cases p <;> rfl

/-- What l11Left returns, at a tidy term. -/
def spec_l11Left.f (k : Nat) (a0 : Int) (l : List S32) : Option ByteArray :=
  (decF 1000 a0 l).bind fun t => if t.rooms ≤ 1000 then some (txt (lf t)) else none
theorem spec_l11Left.mono : ∀ a0 l k, LeO (spec_l11Left.f k a0 l) (spec_l11Left.f (k + 1) a0 l) := fun _ _ _ => LeO.refl _
theorem spec_l11Left.tells (k : Nat) (t : Tm) (ht : Td t) (hr : t.rooms ≤ 1000) : spec_l11Left.f k (enc t).f0 (enc t).f1 = some (txt (lf t)) := by
  unfold spec_l11Left.f
  rw [decF_of 1000 t ht hr, Option.bind_some, if_pos hr]
theorem spec_l11Left.calls (k : Nat) (a0_0 : Int) (A0_1 : Option Addr) (c0_1 : Nat) (l0_1 : List S32) (r : ByteArray) (w : World) (hr0_1 : Kd.C k32 w A0_1 l0_1.length l0_1) (hc0_1 : l0_1.length ≤ c0_1) (h : spec_l11Left.f k a0_0 l0_1 = some r) :
    Calls Try.prog 26 #[.agg #[.int .u8 a0_0, .slice A0_1 l0_1.length c0_1]] w fun e w' => e = .returned (.string r) ∧ Below w.heap.size w w' := by
  unfold spec_l11Left.f at h
  obtain ⟨t, hd, h2⟩ := Option.bind_eq_some_iff.mp h
  clear h
  obtain ⟨ht, rfl, rfl⟩ := decF_enc _ _ _ _ hd
  have h : (if t.rooms ≤ 1000 then some (txt (lf t)) else none) = some r := h2
  by_cases hr : t.rooms ≤ 1000
  · rw [if_pos hr] at h
    obtain rfl := Option.some.inj h
    exact spleft_all 1000 t ht hr (Nat.le_refl _) _ w w (Below.refl _ _) (SpV.of_C ht hr0_1)
  · rw [if_neg hr] at h
    cases h
end Go.Proofs.Ytmocablibmkebaa.S

/- Terms with a sign in front, and with a bracket behind. -/
import Derived.Test.YtmocablibmkebaaAgree
namespace Go.Proofs.Ytmocablibmkebaa.S
open Go.RowKit Go.Proofs.YtmocablibmkebaaW.PrintWords Go.Proofs.YtmocablibmkebaaW.PrintMore
set_option linter.unusedVariables false
set_option linter.unusedSimpArgs false

theorem tk_app (l x : List UInt8) (h : (tk l).1 ≠ 0) : tk (l ++ x) = ((tk l).1, (tk l).2 ++ x) := by
  cases l with
  | nil => exact absurd rfl h
  | cons c l => rfl

/-- One round of the reader. -/
def st (r : List UInt8 → Option Tm × List UInt8) (l : List UInt8) : Option Tm × List UInt8 :=
    if (tk l).1 = 111 then (some .o, (tk l).2)
    else if (tk l).1 = 62 ∨ (tk l).1 = 94 then (((r (tk l).2).1).map (Tm.one ((tk l).1 == 94)), (r (tk l).2).2)
    else if (tk l).1 = 40 then
      match (r (tk l).2).1, (r (tk (r (tk l).2).2).2).1 with
      | some x, some y =>
        if (tk (r (tk l).2).2).1 = 124 ∨ (tk (r (tk l).2).2).1 = 45 then
          if (tk (r (tk (r (tk l).2).2).2).2).1 = 41 then (some (.two ((tk (r (tk l).2).2).1 == 124) x y), (tk (r (tk (r (tk l).2).2).2).2).2)
          else (none, (tk (r (tk (r (tk l).2).2).2).2).2)
        else (none, (r (tk (r (tk l).2).2).2).2)
      | _, _ => (none, (r (tk (r (tk l).2).2).2).2)
    else (none, (tk l).2)

theorem rdI_st (n : Nat) (l : List UInt8) : rdI (n + 1) l = st (rdI n) l := rfl

theorem rdI_fuel : ∀ (n : Nat) (l : List UInt8), l.length < n → rdI n l = rdI (n + 1) l := by
  intro n
  induction n with
  | zero => intro l h; exact absurd h (Nat.not_lt_zero _)
  | succ n ih =>
    intro l h
    cases l with
    | nil => rw [rdI_st, rdI_st]; rfl
    | cons c l =>
      have hl : (tk (c :: l)).2.length < n := by
        show l.length < n
        simp only [List.length_cons] at h
        omega
      have h1 := ih _ hl
      have h2 := ih (tk (rdI (n + 1) (tk (c :: l)).2).2).2 (by
        have a1 := tk_le (rdI (n + 1) (tk (c :: l)).2).2
        have a2 := rdI_le (n + 1) (tk (c :: l)).2
        omega)
      rw [rdI_st, rdI_st]
      unfold st
      rw [h1, h2]

theorem rdI_app (x : List UInt8) : ∀ (n : Nat) (l : List UInt8) (t : Tm), (rdI n l).1 = some t → rdI n (l ++ x) = (some t, (rdI n l).2 ++ x) := by
  intro n
  induction n with
  | zero => intro l t h; simp [rdI] at h
  | succ n ih =>
    intro l t h
    rw [rdI_st] at h ⊢
    rw [rdI_st]
    have hz : (tk l).1 ≠ 0 := by
      intro hz
      unfold st at h
      rw [hz, if_neg (by decide), if_neg (by decide), if_neg (by decide)] at h
      simp at h
    have ea := tk_app l x hz
    unfold st at h ⊢
    rw [ea]
    simp only
    by_cases c1 : (tk l).1 = 111
    · rw [if_pos c1] at h
      rw [if_pos c1, if_pos c1]
      obtain rfl := Option.some.inj h
      rfl
    rw [if_neg c1] at h
    rw [if_neg c1, if_neg c1]
    by_cases c2 : (tk l).1 = 62 ∨ (tk l).1 = 94
    · rw [if_pos c2] at h
      rw [if_pos c2, if_pos c2]
      cases hx : (rdI n (tk l).2).1 with
      | none => rw [hx] at h; simp at h
      | some y =>
        rw [hx] at h
        obtain rfl := Option.some.inj h
        rw [ih _ _ hx]
        rfl
    rw [if_neg c2] at h
    rw [if_neg c2, if_neg c2]
    by_cases c3 : (tk l).1 = 40
    · rw [if_pos c3] at h
      rw [if_pos c3, if_pos c3]
      cases hx : (rdI n (tk l).2).1 with
      | none => rw [hx] at h; simp at h
      | some u =>
        have e1 := ih _ _ hx
        rw [e1]
        cases hy : (rdI n (tk (rdI n (tk l).2).2).2).1 with
        | none => rw [hx, hy] at h; simp at h
        | some v =>
          rw [hx, hy] at h
          simp only at h
          by_cases c4 : (tk (rdI n (tk l).2).2).1 = 124 ∨ (tk (rdI n (tk l).2).2).1 = 45
          · rw [if_pos c4] at h
            have z2 : (tk (rdI n (tk l).2).2).1 ≠ 0 := by rcases c4 with e | e <;> rw [e] <;> decide
            have e2 := tk_app _ x z2
            by_cases c5 : (tk (rdI n (tk (rdI n (tk l).2).2).2).2).1 = 41
            · rw [if_pos c5] at h
              have e3 := ih _ _ hy
              have e4 := tk_app _ x (show (tk (rdI n (tk (rdI n (tk l).2).2).2).2).1 ≠ 0 by rw [c5]; decide)
              obtain rfl := Option.some.inj h
              simp only [e2, e3, e4]
              rw [if_pos c4, if_pos c5, if_pos c4, if_pos c5]
            · rw [if_neg c5] at h; simp at h
          · rw [if_neg c4] at h; simp at h
    · rw [if_neg c3] at h; simp at h

theorem count_cons (c : UInt8) (l : List UInt8) (h : c ≠ 111) : Lib.countByte (c :: l) 111 = Lib.countByte l 111 := by
  simp [Lib.countByte, h]
theorem count_app (c : UInt8) (l : List UInt8) (h : c ≠ 111) : Lib.countByte (l ++ [c]) 111 = Lib.countByte l 111 := by
  simp [Lib.countByte, h]

theorem ofI_sign {l : List UInt8} (c : UInt8) (hc : c = 62 ∨ c = 94) (h : (ofI l).isSome = true) (hl : l.length ≤ 59) : (ofI (c :: l)).isSome = true := by
  have hc1 : c ≠ 111 := by rcases hc with rfl | rfl <;> decide
  unfold ofI at h ⊢
  rw [count_cons c l hc1]
  by_cases c1 : 60 < l.length ∨ 7 < Lib.countByte l 111
  · rw [if_pos c1] at h; simp at h
  rw [if_neg c1] at h
  rw [if_neg (by simp only [List.length_cons]; omega)]
  have ef := rdI_fuel 61 l (by omega)
  have e : rdI 62 (c :: l) = (((rdI 61 l).1).map (Tm.one (((c.toNat : Int)) == 94)), (rdI 61 l).2) := by
    rw [rdI_st]
    unfold st
    have e1 : (tk (c :: l)).1 = (c.toNat : Int) := rfl
    have e2 : (tk (c :: l)).2 = l := rfl
    rw [e1, e2]
    rcases hc with rfl | rfl
    · rw [if_neg (by decide), if_pos (by decide)]
    · rw [if_neg (by decide), if_pos (by decide)]
  rw [e, ef]
  by_cases c2 : (rdI 62 l).2 = []
  · rw [if_pos c2] at h
    rw [if_pos c2]
    simpa using h
  · rw [if_neg c2] at h; simp at h

theorem ofI_close {l : List UInt8} (h : (ofI l).isSome = true) : ofI (l ++ [41]) = none := by
  unfold ofI at h ⊢
  rw [count_app 41 l (by decide)]
  by_cases c1 : 60 < l.length ∨ 7 < Lib.countByte l 111
  · rw [if_pos c1] at h; simp at h
  rw [if_neg c1] at h
  by_cases c2 : (rdI 62 l).2 = []
  · rw [if_pos c2] at h
    obtain ⟨t, ht⟩ := Option.isSome_iff_exists.1 h
    have e := rdI_app [41] 62 l t ht
    rw [c2] at e
    rw [e]
    split <;> rfl
  · rw [if_neg c2] at h; simp at h
end Go.Proofs.Ytmocablibmkebaa.S

/- The two readers agree. -/
import Derived.Test.YtmocablibmkebaaSpOf
import Derived.Test.YtmocablibmkebaaImpA
namespace Go.Proofs.Ytmocablibmkebaa.S
open Go.RowKit Go.Proofs.YtmocablibmkebaaW.PrintWords Go.Proofs.YtmocablibmkebaaW.PrintMore
set_option linter.unusedVariables false
set_option linter.unusedSimpArgs false

theorem tk_drop (s : ByteArray) (i : Nat) : tk (s.data.toList.drop i) = if i < s.size then (bt s (i : Nat), s.data.toList.drop (i + 1)) else (0, []) := by
  by_cases h : i < s.size
  · rw [if_pos h]
    have h2 : i < s.data.toList.length := by rw [← Lib.size_eq]; exact h
    rw [List.drop_eq_getElem_cons h2]
    have hb : bt s (i : Nat) = ((s.data.toList[i]'h2).toNat : Int) := by
      rw [← bt_at s (i : Nat) h]
      rfl
    rw [hb]
    rfl
  · rw [if_neg h, List.drop_of_length_le (by rw [← Lib.size_eq]; omega)]
    rfl

theorem agree (s : ByteArray) : ∀ (n i : Nat), ((rdS s n i).2 ≠ 0 → rdI n (s.data.toList.drop i) = (some (rdS s n i).1, s.data.toList.drop (rdS s n i).2)) ∧ ((rdS s n i).2 = 0 → (rdI n (s.data.toList.drop i)).1 = none) := by
  intro n
  induction n with
  | zero => intro i; exact ⟨fun h => absurd rfl h, fun _ => rfl⟩
  | succ n ih =>
    intro i
    simp only [rdS, rdI, tk_drop]
    by_cases h1 : s.size ≤ i
    · rw [if_pos h1, if_neg (show ¬ i < s.size by omega)]
      exact ⟨fun h => absurd rfl h, fun _ => rfl⟩
    rw [if_neg h1, if_pos (show i < s.size by omega)]
    simp only
    by_cases h2 : bt s (i : Nat) = 111
    · rw [if_pos h2, if_pos h2]
      exact ⟨fun _ => rfl, fun h => absurd h (by simp)⟩
    rw [if_neg h2, if_neg h2]
    by_cases h3 : bt s (i : Nat) = 62 ∨ bt s (i : Nat) = 94
    · rw [if_pos h3, if_pos h3]
      obtain ⟨g1, g2⟩ := ih (i + 1)
      refine ⟨fun h => ?_, fun h => ?_⟩
      · rw [g1 h]; rfl
      · show Option.map _ (rdI n (s.data.toList.drop (i + 1))).1 = none
        rw [g2 h]; rfl
    rw [if_neg h3, if_neg h3]
    by_cases h4 : bt s (i : Nat) = 40
    · rw [if_neg (fun h => h h4), if_pos h4]
      obtain ⟨g1, g2⟩ := ih (i + 1)
      generalize rdS s n (i + 1) = a at *
      obtain ⟨ta, m⟩ := a
      simp only at g1 g2 ⊢
      by_cases hm : m = 0
      · rw [if_pos (.inl hm)]
        refine ⟨fun h => absurd rfl h, fun _ => ?_⟩
        have g := g2 hm
        generalize rdI n (s.data.toList.drop (i + 1)) = r at *
        obtain ⟨r1, r2⟩ := r
        simp only at g
        subst g
        rfl
      rw [g1 hm]
      simp only [tk_drop]
      by_cases hc : s.size ≤ m
      · rw [if_pos (.inr (.inl hc)), if_neg (show ¬ m < s.size by omega)]
        refine ⟨fun h => absurd rfl h, fun _ => ?_⟩
        simp only
        split
        · rw [if_neg (by decide)]
        · rfl
      rw [if_pos (show m < s.size by omega)]
      simp only
      by_cases hb : bt s (m : Nat) = 124 ∨ bt s (m : Nat) = 45
      · rw [if_neg (fun h => h.elim hm (fun h => h.elim hc (fun h => hb.elim h.1 h.2)))]
        obtain ⟨k1, k2⟩ := ih (m + 1)
        generalize rdS s n (m + 1) = b at *
        obtain ⟨tb, p⟩ := b
        simp only at k1 k2 ⊢
        by_cases hp : p = 0
        · rw [if_pos (.inl hp)]
          refine ⟨fun h => absurd rfl h, fun _ => ?_⟩
          have g := k2 hp
          generalize rdI n (s.data.toList.drop (m + 1)) = r at *
          obtain ⟨r1, r2⟩ := r
          simp only at g
          subst g
          rfl
        rw [k1 hp]
        simp only [tk_drop]
        rw [if_pos hb]
        by_cases hd : s.size ≤ p
        · rw [if_pos (.inr (.inl hd)), if_neg (show ¬ p < s.size by omega)]
          exact ⟨fun h => absurd rfl h, fun _ => rfl⟩
        rw [if_pos (show p < s.size by omega)]
        simp only
        by_cases he : bt s (p : Nat) = 41
        · rw [if_neg (fun h => h.elim hp (fun h => h.elim hd (fun h => h he))), if_pos he]
          exact ⟨fun _ => rfl, fun h => absurd h (by simp)⟩
        · rw [if_pos (.inr (.inr he)), if_neg he]
          exact ⟨fun h => absurd rfl h, fun _ => rfl⟩
      · rw [if_pos (.inr (.inr ⟨fun h => hb (.inl h), fun h => hb (.inr h)⟩))]
        refine ⟨fun h => absurd rfl h, fun _ => ?_⟩
        generalize rdI n (s.data.toList.drop (m + 1)) = r at *
        obtain ⟨r1, r2⟩ := r
        cases r1 with
        | none => rfl
        | some y =>
          simp only
          rw [if_neg hb]
    · rw [if_pos h4, if_neg h4]
      exact ⟨fun h => absurd rfl h, fun _ => rfl⟩

theorem of_agree (s : ByteArray) : ofI s.data.toList = if (ofS s).2 = true then some (ofS s).1 else none := by
  unfold ofI ofS
  rw [Lib.size_eq]
  by_cases h : 60 < s.data.toList.length ∨ 7 < Lib.countByte s.data.toList 111
  · rw [if_pos h, if_pos h]
    rfl
  rw [if_neg h, if_neg h]
  obtain ⟨g1, g2⟩ := agree s 62 0
  have hle := rdS_le s 62 0
  rw [Lib.size_eq] at hle
  rw [List.drop_zero] at g1 g2
  generalize rdS s 62 0 = r at *
  obtain ⟨t, p⟩ := r
  simp only at g1 g2 hle ⊢
  by_cases hp : p = 0
  · rw [decide_eq_false (fun x => by have := x.1; omega), g2 hp]
    split <;> rfl
  · rw [g1 hp]
    simp only [List.drop_eq_nil_iff]
    by_cases hq : p = s.data.toList.length
    · rw [if_pos (by omega), decide_eq_true ⟨by omega, hq⟩]
      rfl
    · rw [if_neg (by omega), decide_eq_false (fun x => hq x.2)]
      rfl
end Go.Proofs.Ytmocablibmkebaa.S

/- The law's own marking of texts, and what spec.PlanName tells. -/
import Derived.Test.YtpilppppkjenaaaLInB
import Derived.Test.YtpilppppkjenaaaQa5
namespace Go.Proofs.Ytpilppppkjenaaa.QaL
open Go.RowKit Go.Proofs.Ytpilppppkjenaaa.S Go.Proofs.Ytpilppppkjenaaa.Qa Go.Proofs.YtpilppppkjenaaaW.PrintWords Go.Proofs.YtpilppppkjenaaaW.PrintLast Go.Proofs.YtpilppppkjenaaaW.PrintMore
set_option linter.unusedVariables false
set_option linter.unusedSimpArgs false

theorem mtext_l0 : ∀ (f : Nat) (a : Nat) (x : ByteArray), a < 10 ^ f → a ≤ 5000000 → x.size + f ≤ 1000 → ∃ s, Ends (fun k => laws_markText.l0 k (a : Int) x) s
  | 0, a, x, h, _, hx => by
    refine ⟨(⟨#[109]⟩ : ByteArray) ++ x, Ends.now (fun k => ?_)⟩
    simp only [laws_markText.l0]
    have : a = 0 := by simpa using h
    rw [if_neg (by omega), if_pos (by omega)]
  | f + 1, a, x, h, hf, hx => by
    by_cases h0 : a = 0
    · refine ⟨(⟨#[109]⟩ : ByteArray) ++ x, Ends.now (fun k => ?_)⟩
      simp only [laws_markText.l0]
      rw [if_neg (by omega), if_pos (by omega)]
    · have hsz : (strOfNums [(wrap64 (48 + (Int.tmod (a : Int) 10))) % 256] ++ x).size = x.size + 1 := by
        rw [ByteArray.size_append, strOfNums_size]
        simp
        omega
      have hlt : a / 10 < 10 ^ f := by
        rw [Nat.pow_succ] at h
        exact Nat.div_lt_of_lt_mul (by rw [Nat.mul_comm]; exact h)
      obtain ⟨s, hs⟩ := mtext_l0 f (a / 10) (strOfNums [(wrap64 (48 + (Int.tmod (a : Int) 10))) % 256] ++ x) hlt (by omega) (by omega)
      have hq : Int.tdiv (a : Int) 10 = ((a / 10 : Nat) : Int) := rfl
      refine ⟨s, Ends.back (fun k => ?_) hs⟩
      simp only [laws_markText.l0, Option.bind]
      rw [if_pos (by omega), strOfNums_size, if_pos (by simp; omega), hq, w64 (((a / 10 : Nat)) : Int) (by omega)]
theorem mtext_ends (a : Int) (h : 0 ≤ a ∧ a ≤ 5000000) : ∃ s, Ends (fun k => laws_markText.f k a) s := by
  by_cases h0 : a ≤ 0
  · refine ⟨(⟨#[109, 48]⟩ : ByteArray), Ends.all (fun k => ?_)⟩
    unfold laws_markText.f
    rw [if_pos h0]
  · obtain ⟨n, rfl⟩ : ∃ n : Nat, a = (n : Int) := ⟨a.toNat, by omega⟩
    have h7 : (10 : Nat) ^ 7 = 10000000 := by decide
    obtain ⟨s, hs⟩ := mtext_l0 7 n (⟨#[]⟩ : ByteArray) (by omega) (by omega) (by decide)
    refine ⟨s, Ends.same (fun k => ?_) hs⟩
    show laws_markText.f k n = _
    unfold laws_markText.f
    rw [if_neg h0]
/-- The text of a mark. -/
noncomputable def mtext (a : Int) : ByteArray := if h : 0 ≤ a ∧ a ≤ 5000000 then Classical.choose (mtext_ends a h) else ByteArray.empty
theorem mtext_is (a : Int) (h : 0 ≤ a ∧ a ≤ 5000000) : Ends (fun k => laws_markText.f k a) (mtext a) := by
  unfold mtext
  rw [dif_pos h]
  exact Classical.choose_spec (mtext_ends a h)
noncomputable def smarks (m : Int) : Nat → List ByteArray
  | 0 => []
  | n + 1 => mtext m :: smarks (m + 1) n
theorem smark_l0 (d : Nat) : ∀ (l : List ByteArray) (i : Nat) (m : Int), i + d = l.length → l.length ≤ 4000000 → 0 ≤ m → m + d ≤ 5000000 →
    Ends (fun k => laws_markStringS.l0 k l m (i : Int)) (m + d, l.take i ++ smarks m d) := by
  induction d with
  | zero =>
    intro l i m hi hb hm0 hm
    refine Ends.now (fun k => ?_)
    simp only [laws_markStringS.l0]
    rw [if_neg (by omega), List.take_of_length_le (by omega)]
    simp [smarks]
  | succ d ih =>
    intro l i m hi hb hm0 hm
    have hlt : i < l.length := by omega
    have := ih (l.set i (mtext m)) (i + 1) (m + 1) (by simp; omega) (by simpa using hb) (by omega) (by omega)
    have e2 : (l.set i (mtext m)).take (i + 1) = l.take i ++ [mtext m] := by
      rw [List.take_succ_eq_append_getElem (by simpa using hlt), List.getElem_set_self, List.take_set_of_le (Nat.le_refl i)]
    rw [e2] at this
    have e3 : m + 1 + (d : Int) = m + ((d + 1 : Nat) : Int) := by omega
    rw [e3, List.append_assoc] at this
    refine Ends.back (G := fun k => (laws_markText.f k m).bind fun t235 => (if 0 ≤ (i : Int) then (laws_markStringS.l0 k (l.set ((i : Int)).toNat t235) (wrap64 (m + 1)) (wrap64 ((i : Int) + 1))) else (none))) (fun k => ?_) (Ends.bind (mtext_is m (by omega)) (Ends.yes (by omega) ?_))
    · simp only [laws_markStringS.l0]
      rw [if_pos (by omega)]
    · rw [w64 _ (by omega), w64 _ (by omega), nat1]
      exact this
theorem smark_ends (l : List ByteArray) (hb : l.length ≤ 4000000) : Ends (fun k => laws_markStringS.f k l 1) (1 + (l.length : Int), smarks 1 l.length) := by
  have := smark_l0 l.length l 0 1 (by omega) hb (by omega) (by omega)
  simpa [laws_markStringS.f] using this
theorem sheld_l0 (d : Nat) : ∀ (pre : List ByteArray) (m : Int), pre.length + d ≤ 4000000 → 0 ≤ m → m + d ≤ 5000000 →
    Ends (fun k => laws_heldStringS.l0 k (pre ++ smarks m d) m (pre.length : Int)) (m + d) := by
  induction d with
  | zero =>
    intro pre m hb hm0 hm
    refine Ends.now (fun k => ?_)
    simp only [laws_heldStringS.l0, smarks, List.append_nil]
    rw [if_neg (by omega)]
    simp
  | succ d ih =>
    intro pre m hb hm0 hm
    have hthis := ih (pre ++ [mtext m]) (m + 1) (by simp; omega) (by omega) (by omega)
    simp only [List.append_assoc, List.singleton_append, List.length_append, List.length_singleton] at hthis
    have e : rdOf ByteArray.empty (pre ++ mtext m :: smarks (m + 1) d) (pre.length : Int) = mtext m := by
      simp only [rdOf, Int.toNat_natCast]
      rw [List.getD_eq_getElem?_getD, List.getElem?_append_right (by omega)]; simp
    have e3 : m + 1 + (d : Int) = m + ((d + 1 : Nat) : Int) := by omega
    rw [e3] at hthis
    refine Ends.back (G := fun k => (laws_markText.f k m).bind fun t257 => (if (rdOf ByteArray.empty (pre ++ smarks m (d + 1)) (pre.length : Int)).toList = t257.toList then (laws_heldStringS.l0 k (pre ++ smarks m (d + 1)) (wrap64 (m + 1)) (wrap64 ((pre.length : Int) + 1))) else (some (-1)))) (fun k => ?_) (Ends.bind (mtext_is m (by omega)) (Ends.yes (by rw [show smarks m (d + 1) = mtext m :: smarks (m + 1) d from rfl, e]) ?_))
    · simp only [laws_heldStringS.l0]
      rw [if_pos (by simp [smarks]; omega), if_pos (by omega)]
    · rw [w64 _ (by omega), w64 _ (by omega), nat1, show smarks m (d + 1) = mtext m :: smarks (m + 1) d from rfl]
      exact hthis
theorem sheld_ends (n : Nat) (hb : n ≤ 4000000) : Ends (fun k => laws_heldStringS.f k (smarks 1 n) 1) (1 + (n : Int)) := by
  have := sheld_l0 n [] 1 (by simp; omega) (by omega) (by omega)
  simpa [laws_heldStringS.f] using this
end Go.Proofs.Ytpilppppkjenaaa.QaL

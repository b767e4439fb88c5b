/- What both sides count of plans: of every size the same. -/
import Derived.Test.YtjbjpkphepfldaaQc1
import Derived.Test.YtjbjpkphepfldaaQc2
import Derived.Test.YtjbjpkphepfldaaCntP
namespace Go.Proofs.Ytjbjpkphepfldaa.QcL
open Go.RowKit Go.Proofs.Ytjbjpkphepfldaa.Qc Go.Proofs.YtjbjpkphepfldaaW.PrintWords Go.Proofs.YtjbjpkphepfldaaW.PrintLast Go.Proofs.YtjbjpkphepfldaaW.PrintMore
open Go.Proofs.Ytjbjpkphepfldaa.S
set_option linter.unusedVariables false
set_option linter.unusedSimpArgs false

theorem w64 (x : Int) (h : -9223372036854775808 ≤ x ∧ x ≤ 9223372036854775807) : wrap64 x = x := by unfold wrap64; omega

theorem rd_getD (l : List Int) (i : Nat) : rd l (i : Int) = l.getD i 0 := by simp [rd]


theorem eqInt_l0 (a b : List Int) (hab : a.length = b.length) (hb : a.length ≤ 1048576) (d : Nat) : ∀ (k i : Nat), i ≤ a.length → a.length - i = d → d < k →
    laws_eqIntS.l0 k a b (i : Int) = some (decide (a.drop i = b.drop i)) := by
  induction d with
  | zero =>
    intro k i hi hd hk
    obtain ⟨k, rfl⟩ : ∃ m, k = m + 1 := ⟨k - 1, by omega⟩
    obtain rfl : i = a.length := by omega
    simp only [laws_eqIntS.l0]
    rw [if_neg (by omega), List.drop_length, hab, List.drop_length]
    simp
  | succ d ih =>
    intro k i hi hd hk
    obtain ⟨k, rfl⟩ : ∃ m, k = m + 1 := ⟨k - 1, by omega⟩
    have hlt : i < a.length := by omega
    have hlt2 : i < b.length := by omega
    simp only [laws_eqIntS.l0]
    rw [if_pos (by omega), if_pos (by omega), if_pos (by omega), w64 _ (by omega), rd_getD, rd_getD]
    have e : ((i : Int) + 1) = ((i + 1 : Nat) : Int) := by omega
    have ea : a.drop i = a.getD i 0 :: a.drop (i + 1) := by
      rw [List.drop_eq_getElem_cons hlt, List.getD_eq_getElem?_getD, List.getElem?_eq_getElem hlt]; rfl
    have eb : b.drop i = b.getD i 0 :: b.drop (i + 1) := by
      rw [List.drop_eq_getElem_cons hlt2, List.getD_eq_getElem?_getD, List.getElem?_eq_getElem hlt2]; rfl
    rw [e, ea, eb]
    by_cases h : a.getD i 0 = b.getD i 0
    · rw [if_pos h, ih k (i + 1) (by omega) (by omega) (by omega), h]
      simp only [List.cons.injEq, true_and]
    · rw [if_neg h]
      simp only [List.cons.injEq, h, false_and, decide_false]

theorem eqInt_eq (a b : List Int) (hb : a.length ≤ 1048576) (k : Nat) (hk : a.length < k) : laws_eqIntS.f k a b = some (decide (a = b)) := by
  unfold laws_eqIntS.f
  by_cases h : (a.length : Int) = (b.length : Int)
  · rw [if_pos h]
    have := eqInt_l0 a b (by omega) hb a.length k 0 (by omega) (by omega) hk
    simpa using this
  · rw [if_neg h]
    have : ¬ a = b := fun e => h (by rw [e])
    simp [this]

theorem eqInt_self (a : List Int) (hb : a.length ≤ 1048576) (k : Nat) (hk : a.length < k) : laws_eqIntS.f k a a = some true := by
  rw [eqInt_eq a a hb k hk]; simp

/-! ### marking a list -/
def marks (m : Int) : Nat → List Int
  | 0 => []
  | n + 1 => m :: marks (m + 1) n

theorem marks_length (n : Nat) : ∀ m, (marks m n).length = n := by
  induction n with
  | zero => intro m; rfl
  | succ n ih => intro m; simp [marks, ih]

theorem mark_l0 (d : Nat) : ∀ (l : List Int) (k i : Nat) (m : Int), i ≤ l.length → l.length - i = d → d < k → l.length ≤ 1048576 → 0 ≤ m → m ≤ 10000000 - d →
    laws_markIntS.l0 k l m (i : Int) = some (m + d, l.take i ++ marks m d) := by
  induction d with
  | zero =>
    intro l k i m hi hd hk hb hm0 hm
    obtain ⟨k, rfl⟩ : ∃ m, k = m + 1 := ⟨k - 1, by omega⟩
    obtain rfl : i = l.length := by omega
    simp only [laws_markIntS.l0]
    rw [if_neg (by omega), List.take_length]
    simp [marks]
  | succ d ih =>
    intro l k i m hi hd hk hb hm0 hm
    obtain ⟨k, rfl⟩ : ∃ m, k = m + 1 := ⟨k - 1, by omega⟩
    have hlt : i < l.length := by omega
    simp only [laws_markIntS.l0]
    rw [if_pos (by omega), if_pos (by omega), w64 _ (by omega), w64 _ (by omega)]
    have e : ((i : Int) + 1) = ((i + 1 : Nat) : Int) := by omega
    have e1 : ((i : Int)).toNat = i := by omega
    rw [e, e1, ih _ k (i + 1) (m + 1) (by simp; omega) (by simp; omega) (by omega) (by simpa using hb) (by omega) (by omega)]
    have e2 : (l.set i m).take (i + 1) = l.take i ++ [m] := by
      rw [List.take_succ_eq_append_getElem (by simpa using hlt), List.getElem_set_self, List.take_set_of_le (Nat.le_refl i)]
    rw [e2]
    have e3 : m + 1 + (d : Int) = m + ((d + 1 : Nat) : Int) := by omega
    rw [e3]
    simp [marks]

theorem mark_eq (l : List Int) (hb : l.length ≤ 1048576) (k : Nat) (hk : l.length < k) : laws_markIntS.f k l 1 = some (1 + (l.length : Int), marks 1 l.length) := by
  unfold laws_markIntS.f
  have := mark_l0 l.length l k 0 1 (by omega) (by omega) hk hb (by omega) (by omega)
  simpa using this

theorem held_l0 (d : Nat) : ∀ (pre : List Int) (k : Nat) (m : Int), d < k → pre.length + d ≤ 1048576 → 0 ≤ m → m ≤ 10000000 - d →
    laws_heldIntS.l0 k (pre ++ marks m d) m (pre.length : Int) = some (m + d) := by
  induction d with
  | zero =>
    intro pre k m hk hb hm0 hm
    obtain ⟨k, rfl⟩ : ∃ m, k = m + 1 := ⟨k - 1, by omega⟩
    simp only [laws_heldIntS.l0, marks, List.append_nil]
    rw [if_neg (by omega)]
    simp
  | succ d ih =>
    intro pre k m hk hb hm0 hm
    obtain ⟨k, rfl⟩ : ∃ m, k = m + 1 := ⟨k - 1, by omega⟩
    rw [show marks m (d + 1) = m :: marks (m + 1) d from rfl]
    simp only [laws_heldIntS.l0]
    rw [if_pos (by simp; omega), if_pos (by omega), w64 _ (by omega), w64 _ (by omega), rd_getD]
    have e : (pre ++ m :: marks (m + 1) d).getD pre.length 0 = m := by
      rw [List.getD_eq_getElem?_getD, List.getElem?_append_right (by omega)]; simp
    rw [e, if_pos rfl]
    have := ih (pre ++ [m]) k (m + 1) (by omega) (by simp; omega) (by omega) (by omega)
    simp only [List.append_assoc, List.singleton_append, List.length_append, List.length_singleton] at this
    have e2 : ((pre.length : Int) + 1) = ((pre.length + 1 : Nat) : Int) := by omega
    rw [e2, this]
    congr 1
    omega

theorem held_eq (n : Nat) (hb : n ≤ 1048576) (k : Nat) (hk : n < k) : laws_heldIntS.f k (marks 1 n) 1 = some (1 + (n : Int)) := by
  unfold laws_heldIntS.f
  have := held_l0 n [] k 1 hk (by simp; omega) (by omega) (by omega)
  simpa using this

theorem given_is (n m : Int) : spec_l10Given.f n m = some (sizes n m) := by
  unfold spec_l10Given.f spec_l6In.f
  by_cases h1 : 1 ≤ n
  · rw [if_pos h1]
    by_cases h2 : n ≤ 6
    · rw [decide_eq_true h2]
      simp only [Option.bind_some, if_true]
      by_cases h3 : 1 ≤ m
      · rw [if_pos h3]
        by_cases h4 : m ≤ 6
        · rw [decide_eq_true h4]
          simp only [Option.bind_some, if_true]
          have hb : 0 ≤ n * m ∧ n * m ≤ 36 := ⟨Int.mul_nonneg (by omega) (by omega), Int.le_trans (Int.mul_le_mul h2 h4 (by omega) (by omega)) (by decide)⟩
          rw [w64 _ (by omega)]
          unfold sizes
          congr 1
          exact decide_eq_decide.2 ⟨fun h => ⟨h1, h2, h3, h4, h⟩, fun h => h.2.2.2.2⟩
        · rw [decide_eq_false h4]
          have e : sizes n m = false := decide_eq_false (fun h => h4 h.2.2.2.1)
          rw [e]
          rfl
      · rw [if_neg h3]
        have e : sizes n m = false := decide_eq_false (fun h => h3 h.2.2.1)
        rw [e]
        rfl
    · rw [decide_eq_false h2]
      have e : sizes n m = false := decide_eq_false (fun h => h2 h.2.1)
      rw [e]
      rfl
  · rw [if_neg h1]
    have e : sizes n m = false := decide_eq_false (fun h => h1 h.1)
    rw [e]
    rfl
theorem none_is (n m : Int) (h : sizes n m = false) : impl_CountRooms.f n m = some ([], false) ∧ spec_CountRooms.f n m = some ([], false) := by
  constructor
  · unfold impl_CountRooms.f
    rw [h]
    rfl
  · unfold spec_CountRooms.f
    rw [given_is, h]
    rfl
theorem some_is (n m : Int) (h : sizes n m = true) : ∃ l : List Int, impl_CountRooms.f n m = some (l, true) ∧ spec_CountRooms.f n m = some (l, true) ∧ impl_CountRooms.f m n = some (l, true) ∧ (l.length : Int) = n * m + 1 ∧ rd l 0 = 0 ∧ rd l 1 = 1 ∧ rd l (n * m) = 1 ∧ 1 ≤ n * m ∧ n * m ≤ 9 := by
  obtain ⟨l, h1, h2, h3, h4, h5, h6, h7⟩ := told2 n m h
  obtain ⟨q1, q2, q3, q4, q5⟩ := of_decide_eq_true h
  refine ⟨l, h1, ?_, h3, h4, h5, h6, h7, ?_, q5⟩
  · unfold spec_CountRooms.f
    rw [given_is, h]
    simp only [Option.bind_some, if_true]
    rw [h2]
    rfl
  · have : 1 * 1 ≤ n * m := Int.mul_le_mul q1 q3 (by omega) (by omega)
    omega
theorem both_is (n m : Int) : ∃ l ok, impl_CountRooms.f n m = some (l, ok) ∧ spec_CountRooms.f n m = some (l, ok) ∧ l.length ≤ 10 := by
  cases h : sizes n m with
  | false => exact ⟨[], false, (none_is n m h).1, (none_is n m h).2, by simp⟩
  | true =>
    obtain ⟨l, h1, h2, -, h4, -, -, -, -, h9⟩ := some_is n m h
    exact ⟨l, true, h1, h2, by omega⟩

end Go.Proofs.Ytjbjpkphepfldaa.QcL

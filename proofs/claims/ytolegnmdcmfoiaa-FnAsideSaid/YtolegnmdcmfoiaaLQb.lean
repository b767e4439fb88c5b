/- Fair and loose permutations: what the printed functions come to. -/
import Derived.Test.YtolegnmdcmfoiaaQb7
import Derived.Test.YtolegnmdcmfoiaaQb6
import Derived.Test.YtolegnmdcmfoiaaQb5
import Derived.Test.YtolegnmdcmfoiaaQb4
import Derived.Test.YtolegnmdcmfoiaaQb3
import Derived.Test.YtolegnmdcmfoiaaQb2
import Derived.Test.YtolegnmdcmfoiaaQb1
namespace Go.Proofs.Ytolegnmdcmfoiaa.QbL
open Go.RowKit Go.Proofs.Ytolegnmdcmfoiaa.Qb Go.Proofs.YtolegnmdcmfoiaaW.PrintWords Go.Proofs.YtolegnmdcmfoiaaW.PrintLast Go.Proofs.YtolegnmdcmfoiaaW.PrintMore
open Go.Proofs.Ytolegnmdcmfoiaa.S
set_option linter.unusedVariables false
set_option linter.unusedSimpArgs false

theorem w64 (x : Int) (h : -9223372036854775808 ≤ x ∧ x ≤ 9223372036854775807) : wrap64 x = x := by unfold wrap64; omega

theorem rd_getD (l : List Int) (i : Nat) : rd l (i : Int) = l.getD i 0 := by simp [rd]


/-! ### All of some places -/
def allFrom (f : Nat → Bool) : Nat → Nat → Bool
  | _, 0 => true
  | s, m + 1 => f s && allFrom f (s + 1) m
theorem allFrom_iff (f : Nat → Bool) : ∀ (m s : Nat), allFrom f s m = true ↔ ∀ i, s ≤ i → i < s + m → f i = true := by
  intro m
  induction m with
  | zero => intro s; simp only [allFrom, true_iff]; intro i h1 h2; omega
  | succ m ih =>
    intro s
    simp only [allFrom, Bool.and_eq_true, ih]
    constructor
    · rintro ⟨h1, h2⟩ i h3 h4
      by_cases e : i = s
      · rw [e]; exact h1
      · exact h2 i (by omega) (by omega)
    · intro h
      exact ⟨h s (by omega) (by omega), fun i h1 h2 => h i (by omega) (by omega)⟩
theorem wrapN (x : Int) (a : Nat) (h0 : 0 ≤ x) (h1 : x ≤ 1000000) (ha : a ≤ 10) : wrap64 (x + (a : Int)) = x + (a : Int) := by unfold wrap64; omega
theorem ite_both {α : Type} (A B : Bool) (x y : α) : (if A = true then (if B = true then x else y) else y) = if (A && B) = true then x else y := by cases A <;> cases B <;> rfl
theorem ite_some (A B : Bool) : (if A = true then some B else some false) = some (A && B) := by cases A <;> rfl

/-! ### What the reference asks for fair ones -/
def pv (p : List Int) (i : Nat) : Int := p.getD i 0
def pat (p : List Int) (a b c d : Nat) : Bool := (decide (pv p c < pv p a) && decide (pv p a < pv p d) && decide (pv p d < pv p b)) || (decide (pv p b < pv p d) && decide (pv p d < pv p a) && decide (pv p a < pv p c))

theorem fair_l2 (p : List Int) (hb : p.length ≤ 7) (j i : Nat) (hij : i < j) (m : Nat) : ∀ (kk K : Nat), kk + m = p.length → j + 1 < kk →
    spec_l6Fair.l2 (K + (m + 1)) p (j : Int) (i : Int) (kk : Int) = if allFrom (fun d => !pat p i j (j + 1) d) kk m = true then spec_l6Fair.l1 K p (j : Int) ((i + 1 : Nat) : Int) else some false := by
  induction m with
  | zero =>
    intro kk K hk hj
    simp only [Nat.zero_add, spec_l6Fair.l2, allFrom, if_true]
    rw [if_neg (by omega), w64 ((i : Int) + 1) (by omega)]
    rfl
  | succ m ih =>
    intro kk K hk hj
    have nxt := ih (kk + 1) K (by omega) (by omega)
    rw [show K + (m + 1 + 1) = (K + (m + 1)) + 1 by omega]
    generalize K + (m + 1) = K' at nxt ⊢
    simp only [spec_l6Fair.l2]
    have ew1 : wrap64 ((j : Int) + 1) = ((j + 1 : Nat) : Int) := by rw [w64 _ (by omega)]; omega
    have ew2 : wrap64 ((kk : Int) + 1) = ((kk + 1 : Nat) : Int) := by rw [w64 _ (by omega)]; omega
    rw [ew1, ew2, nxt]
    have hpos : ∀ t : Nat, (0 : Int) ≤ (t : Int) := fun t => by omega
    have hlt : ∀ t : Nat, t < p.length → (t : Int) < (p.length : Int) := fun t h => by omega
    simp only [hpos, hlt kk (by omega), hlt (j + 1) (by omega), hlt j (by omega), hlt i (by omega), if_true, rd_getD, allFrom, pat]
    generalize hG : (if allFrom (fun d => !((decide (pv p (j + 1) < pv p i) && decide (pv p i < pv p d) && decide (pv p d < pv p j)) || (decide (pv p j < pv p d) && decide (pv p d < pv p i) && decide (pv p i < pv p (j + 1))))) (kk + 1) m = true then spec_l6Fair.l1 K p (j : Int) ((i + 1 : Nat) : Int) else some false) = G
    by_cases h1 : pv p (j + 1) < pv p i <;> by_cases h2 : pv p i < pv p kk <;> by_cases h3 : pv p kk < pv p j <;> by_cases h4 : pv p j < pv p kk <;> by_cases h5 : pv p kk < pv p i <;> by_cases h6 : pv p i < pv p (j + 1)
    all_goals first
      | (exfalso; omega)
      | (unfold pv at h1 h2 h3 h4 h5 h6 hG ⊢; simp only [h1, h2, h3, h4, h5, h6, if_true, if_false, decide_true, decide_false, Bool.and_true, Bool.true_and, Bool.and_false, Bool.false_and, Bool.or_false, Bool.false_or, Bool.or_true, Bool.true_or, Bool.not_true, Bool.not_false] <;> first | exact hG | simp)

theorem fair_l1 (p : List Int) (hb : p.length ≤ 7) (j : Nat) (hj : j + 2 < p.length) (m : Nat) : ∀ i, i + m = j →
    ∃ N, N ≤ 10 * m + 1 ∧ ∀ K, spec_l6Fair.l1 (K + N) p (j : Int) (i : Int) = if allFrom (fun a => allFrom (fun d => !pat p a j (j + 1) d) (j + 2) (p.length - (j + 2))) i m = true then spec_l6Fair.l0 K p ((j + 1 : Nat) : Int) else some false := by
  induction m with
  | zero =>
    intro i hi
    refine ⟨1, by omega, fun K => ?_⟩
    simp only [spec_l6Fair.l1, allFrom, if_true]
    rw [if_neg (by omega), w64 ((j : Int) + 1) (by omega)]
    rfl
  | succ m ih =>
    intro i hi
    obtain ⟨N, hN, h⟩ := ih (i + 1) (by omega)
    refine ⟨N + (p.length - (j + 2) + 1) + 1, by omega, fun K => ?_⟩
    rw [show K + (N + (p.length - (j + 2) + 1) + 1) = ((K + N) + (p.length - (j + 2) + 1)) + 1 by omega]
    simp only [spec_l6Fair.l1]
    have ew : wrap64 ((j : Int) + 2) = ((j + 2 : Nat) : Int) := by rw [w64 _ (by omega)]; omega
    rw [if_pos (by omega), ew, fair_l2 p hb j i (by omega) (p.length - (j + 2)) (j + 2) (K + N) (by omega) (by omega), h K]
    exact ite_both _ _ _ _

def fairS (p : List Int) (j m : Nat) : Bool := allFrom (fun j => allFrom (fun a => allFrom (fun d => !pat p a j (j + 1) d) (j + 2) (p.length - (j + 2))) 0 j) j m

theorem fair_l0 (p : List Int) (hb : p.length ≤ 7) (m : Nat) : ∀ j, p.length - (j + 2) = m → j ≤ 7 →
    ∃ N, N ≤ 100 * m + 1 ∧ ∀ K, spec_l6Fair.l0 (K + N) p (j : Int) = some (fairS p j m) := by
  induction m with
  | zero =>
    intro j hj hj7
    refine ⟨1, by omega, fun K => ?_⟩
    simp only [spec_l6Fair.l0, fairS, allFrom]
    rw [w64 _ (by omega), if_neg (by omega)]
  | succ m ih =>
    intro j hj hj7
    obtain ⟨N, hN, h⟩ := ih (j + 1) (by omega) (by omega)
    obtain ⟨N1, hN1, h1⟩ := fair_l1 p hb j (by omega) j 0 (by omega)
    refine ⟨N + N1 + 1, by omega, fun K => ?_⟩
    rw [show K + (N + N1 + 1) = ((K + N) + N1) + 1 by omega]
    simp only [spec_l6Fair.l0]
    have e0 := h1 (K + N)
    have z : ((0 : Nat) : Int) = 0 := rfl
    rw [z] at e0
    rw [w64 _ (by omega), if_pos (by omega), e0, h K]
    exact ite_some _ _

theorem spec_fair_eq (p : List Int) (hb : p.length ≤ 7) (k : Nat) (hk : 2000 ≤ k) : spec_l6Fair.f k p = some (fairS p 1 (p.length - 3)) := by
  obtain ⟨N, hN, h⟩ := fair_l0 p hb (p.length - 3) 1 (by omega) (by omega)
  have := h (k - N)
  rw [show k - N + N = k by omega] at this
  exact this

/-! ### What the reference asks for loose ones -/
theorem loose_l3 (p : List Int) (hb : p.length ≤ 7) (a b c : Nat) (hab : a < b) (hbc : b < c) (m : Nat) : ∀ (d K : Nat), d + m = p.length → c < d →
    spec_l6Loose.l3 (K + (m + 1)) p (a : Int) (b : Int) (c : Int) (d : Int) = if allFrom (fun d => !pat p a b c d) d m = true then spec_l6Loose.l2 K p (a : Int) (b : Int) ((c + 1 : Nat) : Int) else some false := by
  induction m with
  | zero =>
    intro d K hd hcd
    simp only [Nat.zero_add, spec_l6Loose.l3, allFrom, if_true]
    rw [if_neg (by omega), w64 ((c : Int) + 1) (by omega)]
    rfl
  | succ m ih =>
    intro d K hd hcd
    have nxt := ih (d + 1) K (by omega) (by omega)
    rw [show K + (m + 1 + 1) = (K + (m + 1)) + 1 by omega]
    generalize K + (m + 1) = K' at nxt ⊢
    simp only [spec_l6Loose.l3]
    have ew2 : wrap64 ((d : Int) + 1) = ((d + 1 : Nat) : Int) := by rw [w64 _ (by omega)]; omega
    rw [ew2, nxt]
    have hpos : ∀ t : Nat, (0 : Int) ≤ (t : Int) := fun t => by omega
    have hlt : ∀ t : Nat, t < p.length → (t : Int) < (p.length : Int) := fun t h => by omega
    simp only [hpos, hlt d (by omega), hlt c (by omega), hlt b (by omega), hlt a (by omega), if_true, rd_getD, allFrom, pat]
    generalize hG : (if allFrom (fun d => !((decide (pv p c < pv p a) && decide (pv p a < pv p d) && decide (pv p d < pv p b)) || (decide (pv p b < pv p d) && decide (pv p d < pv p a) && decide (pv p a < pv p c)))) (d + 1) m = true then spec_l6Loose.l2 K p (a : Int) (b : Int) ((c + 1 : Nat) : Int) else some false) = G
    by_cases h1 : pv p c < pv p a <;> by_cases h2 : pv p a < pv p d <;> by_cases h3 : pv p d < pv p b <;> by_cases h4 : pv p b < pv p d <;> by_cases h5 : pv p d < pv p a <;> by_cases h6 : pv p a < pv p c
    all_goals first
      | (exfalso; omega)
      | (unfold pv at h1 h2 h3 h4 h5 h6 hG ⊢; simp only [h1, h2, h3, h4, h5, h6, if_true, if_false, decide_true, decide_false, Bool.and_true, Bool.true_and, Bool.and_false, Bool.false_and, Bool.or_false, Bool.false_or, Bool.or_true, Bool.true_or, Bool.not_true, Bool.not_false] <;> first | exact hG | simp)

theorem loose_l2 (p : List Int) (hb : p.length ≤ 7) (a b : Nat) (hab : a < b) (m : Nat) : ∀ c, c + m = p.length → b < c →
    ∃ N, N ≤ 10 * m + 1 ∧ ∀ K, spec_l6Loose.l2 (K + N) p (a : Int) (b : Int) (c : Int) = if allFrom (fun c => allFrom (fun d => !pat p a b c d) (c + 1) (p.length - (c + 1))) c m = true then spec_l6Loose.l1 K p (a : Int) ((b + 1 : Nat) : Int) else some false := by
  induction m with
  | zero =>
    intro c hc hbc
    refine ⟨1, by omega, fun K => ?_⟩
    simp only [spec_l6Loose.l2, allFrom, if_true]
    rw [if_neg (by omega), w64 ((b : Int) + 1) (by omega)]
    rfl
  | succ m ih =>
    intro c hc hbc
    obtain ⟨N, hN, h⟩ := ih (c + 1) (by omega) (by omega)
    refine ⟨N + (p.length - (c + 1) + 1) + 1, by omega, fun K => ?_⟩
    rw [show K + (N + (p.length - (c + 1) + 1) + 1) = ((K + N) + (p.length - (c + 1) + 1)) + 1 by omega]
    simp only [spec_l6Loose.l2]
    have ew : wrap64 ((c : Int) + 1) = ((c + 1 : Nat) : Int) := by rw [w64 _ (by omega)]; omega
    rw [if_pos (by omega), ew, loose_l3 p hb a b c hab hbc (p.length - (c + 1)) (c + 1) (K + N) (by omega) (by omega), h K]
    exact ite_both _ _ _ _

theorem loose_l1 (p : List Int) (hb : p.length ≤ 7) (a : Nat) (m : Nat) : ∀ b, b + m = p.length → a < b →
    ∃ N, N ≤ 100 * m + 1 ∧ ∀ K, spec_l6Loose.l1 (K + N) p (a : Int) (b : Int) = if allFrom (fun b => allFrom (fun c => allFrom (fun d => !pat p a b c d) (c + 1) (p.length - (c + 1))) (b + 1) (p.length - (b + 1))) b m = true then spec_l6Loose.l0 K p ((a + 1 : Nat) : Int) else some false := by
  induction m with
  | zero =>
    intro b hbl hab
    refine ⟨1, by omega, fun K => ?_⟩
    simp only [spec_l6Loose.l1, allFrom, if_true]
    rw [if_neg (by omega), w64 ((a : Int) + 1) (by omega)]
    rfl
  | succ m ih =>
    intro b hbl hab
    obtain ⟨N, hN, h⟩ := ih (b + 1) (by omega) (by omega)
    obtain ⟨N1, hN1, h1⟩ := loose_l2 p hb a b hab (p.length - (b + 1)) (b + 1) (by omega) (by omega)
    refine ⟨N + N1 + 1, by omega, fun K => ?_⟩
    rw [show K + (N + N1 + 1) = ((K + N) + N1) + 1 by omega]
    simp only [spec_l6Loose.l1]
    have ew : wrap64 ((b : Int) + 1) = ((b + 1 : Nat) : Int) := by rw [w64 _ (by omega)]; omega
    rw [if_pos (by omega), ew, h1 (K + N), h K]
    exact ite_both _ _ _ _

def looseS (p : List Int) (a m : Nat) : Bool := allFrom (fun a => allFrom (fun b => allFrom (fun c => allFrom (fun d => !pat p a b c d) (c + 1) (p.length - (c + 1))) (b + 1) (p.length - (b + 1))) (a + 1) (p.length - (a + 1))) a m

theorem loose_l0 (p : List Int) (hb : p.length ≤ 7) (m : Nat) : ∀ a, a + m = p.length →
    ∃ N, N ≤ 1000 * m + 1 ∧ ∀ K, spec_l6Loose.l0 (K + N) p (a : Int) = some (looseS p a m) := by
  induction m with
  | zero =>
    intro a ha
    refine ⟨1, by omega, fun K => ?_⟩
    simp only [spec_l6Loose.l0, looseS, allFrom]
    rw [if_neg (by omega)]
  | succ m ih =>
    intro a ha
    obtain ⟨N, hN, h⟩ := ih (a + 1) (by omega)
    obtain ⟨N1, hN1, h1⟩ := loose_l1 p hb a (p.length - (a + 1)) (a + 1) (by omega) (by omega)
    refine ⟨N + N1 + 1, by omega, fun K => ?_⟩
    rw [show K + (N + N1 + 1) = ((K + N) + N1) + 1 by omega]
    simp only [spec_l6Loose.l0]
    have ew : wrap64 ((a : Int) + 1) = ((a + 1 : Nat) : Int) := by rw [w64 _ (by omega)]; omega
    rw [if_pos (by omega), ew, h1 (K + N), h K]
    exact ite_some _ _

theorem spec_loose_eq (p : List Int) (hb : p.length ≤ 7) (k : Nat) (hk : 8000 ≤ k) : spec_l6Loose.f k p = some (looseS p 0 p.length) := by
  obtain ⟨N, hN, h⟩ := loose_l0 p hb p.length 0 (by omega)
  have := h (k - N)
  rw [show k - N + N = k by omega] at this
  exact this

theorem l6In_eq (a b c : Int) : spec_l6In.f a b c = some (decide (b ≤ a) && decide (a ≤ c)) := by
  unfold spec_l6In.f
  by_cases h : b ≤ a
  · rw [if_pos h]; simp [h]
  · rw [if_neg h]; simp [h]


/-! ### Permutations as lists of whole numbers -/
/-- Each number below the length is there. -/
def hasAll (l : List Int) : Bool := (List.range l.length).all fun i => decide ((i : Int) ∈ l)
def isPerm (l : List Int) : Bool := decide (1 ≤ l.length) && decide (l.length ≤ 7) && hasAll l

theorem hasAll_iff (l : List Int) : hasAll l = true ↔ ∀ i : Nat, i < l.length → (i : Int) ∈ l := by
  unfold hasAll
  rw [List.all_eq_true]
  constructor
  · intro h i hi
    have := h i (List.mem_range.2 hi)
    simpa using this
  · intro h i hi
    have := h i (List.mem_range.1 hi)
    simpa using this

theorem isPerm_iff (l : List Int) : isPerm l = true ↔ 1 ≤ l.length ∧ l.length ≤ 7 ∧ ∀ i : Nat, i < l.length → (i : Int) ∈ l := by
  unfold isPerm
  simp only [Bool.and_eq_true, decide_eq_true_eq, hasAll_iff, and_assoc]

theorem all_le (n : Nat) : ∀ l : List Int, (∀ i : Nat, i < n → (i : Int) ∈ l) → n ≤ l.length := by
  induction n with
  | zero => intro l _; omega
  | succ n ih =>
    intro l h
    have hn := h n (by omega)
    have := ih (l.erase (n : Int)) (fun i hi => (List.mem_erase_of_ne (by omega)).2 (h i (by omega)))
    rw [List.length_erase_of_mem hn] at this
    have := List.length_pos_of_mem hn
    omega

theorem perm_range {l : List Int} (h : ∀ i : Nat, i < l.length → (i : Int) ∈ l) : ∀ x ∈ l, 0 ≤ x ∧ x < l.length := by
  intro x hx
  by_cases hr : 0 ≤ x ∧ x < l.length
  · exact hr
  · exfalso
    have := all_le l.length (l.erase x) (fun i hi => (List.mem_erase_of_ne (by omega)).2 (h i hi))
    rw [List.length_erase_of_mem hx] at this
    have := List.length_pos_of_mem hx
    omega

theorem getD_mem' {l : List Int} {i : Nat} (h : i < l.length) : l.getD i 0 ∈ l := by
  rw [List.getD_eq_getElem?_getD, List.getElem?_eq_getElem h]
  exact List.getElem_mem h

theorem mem_getD {l : List Int} {x : Int} (h : x ∈ l) : ∃ i, i < l.length ∧ l.getD i 0 = x := by
  obtain ⟨i, hi, e⟩ := List.getElem_of_mem h
  exact ⟨i, hi, by rw [List.getD_eq_getElem?_getD, List.getElem?_eq_getElem hi]; exact e⟩

theorem perm_inj {l : List Int} (h : ∀ i : Nat, i < l.length → (i : Int) ∈ l) : ∀ i j : Nat, i < l.length → j < l.length → l.getD i 0 = l.getD j 0 → i = j := by
  have key : ∀ i j : Nat, i < j → j < l.length → l.getD i 0 = l.getD j 0 → False := by
    intro i j hij hj e
    -- strike place j: all numbers are still there
    have hi : i < l.length := by omega
    have hlen : (l.eraseIdx j).length = l.length - 1 := List.length_eraseIdx_of_lt hj
    have hall : ∀ m : Nat, m < l.length → (m : Int) ∈ l.eraseIdx j := by
      intro m hm
      obtain ⟨q, hq, eq⟩ := mem_getD (h m hm)
      have pick : ∀ q : Nat, q < l.length → q ≠ j → l.getD q 0 ∈ l.eraseIdx j := by
        intro q hq hne
        rw [List.getD_eq_getElem?_getD, List.getElem?_eq_getElem hq]
        rw [List.mem_eraseIdx_iff_getElem]
        exact ⟨q, hq, hne, rfl⟩
      by_cases hqj : q = j
      · subst hqj
        rw [← eq, ← e]
        exact pick i hi (by omega)
      · rw [← eq]
        exact pick q hq hqj
    have := all_le l.length (l.eraseIdx j) hall
    omega
  intro i j hi hj e
  rcases Nat.lt_trichotomy i j with hlt | heq | hgt
  · exact (key i j hlt hj e).elim
  · exact heq
  · exact (key j i hgt hi e.symm).elim

theorem ext_getD {a b : List Int} (hl : a.length = b.length) (h : ∀ i : Nat, i < a.length → a.getD i 0 = b.getD i 0) : a = b := by
  refine List.ext_getElem hl fun i h1 h2 => ?_
  have := h i h1
  rw [List.getD_eq_getElem?_getD, List.getD_eq_getElem?_getD, List.getElem?_eq_getElem h1, List.getElem?_eq_getElem h2] at this
  exact this

/-- Each number is written at its place. -/
def place : List Int → Nat → List Int → List Int
  | [], _, out => out
  | v :: r, i, out => place r (i + 1) (out.set v.toNat (i : Int))

theorem place_length (l : List Int) : ∀ (i : Nat) (out : List Int), (place l i out).length = out.length := by
  induction l with
  | nil => intro i out; rfl
  | cons v r ih => intro i out; simp [place, ih]

def inv (p : List Int) : List Int := place p 0 (List.replicate p.length 0)

theorem inv_length (p : List Int) : (inv p).length = p.length := by unfold inv; rw [place_length]; simp

theorem getD_set_eq (out : List Int) (a : Nat) (x : Int) (h : a < out.length) : (out.set a x).getD a 0 = x := by
  rw [List.getD_eq_getElem?_getD, List.getElem?_eq_getElem (by simpa using h)]
  simp

theorem getD_set_ne (out : List Int) (a b : Nat) (x : Int) (h : a ≠ b) : (out.set a x).getD b 0 = out.getD b 0 := by
  rw [List.getD_eq_getElem?_getD, List.getD_eq_getElem?_getD, List.getElem?_set_ne h]

theorem place_keep (l : List Int) : ∀ (i : Nat) (out : List Int) (b : Nat), (∀ x ∈ l, x.toNat ≠ b) → (place l i out).getD b 0 = out.getD b 0 := by
  induction l with
  | nil => intro i out b _; rfl
  | cons v r ih =>
    intro i out b h
    simp only [place]
    rw [ih (i + 1) _ b (fun x hx => h x (List.mem_cons_of_mem _ hx)), getD_set_ne _ _ _ _ (h v List.mem_cons_self)]

theorem place_at (l : List Int) : ∀ (s : Nat) (out : List Int) (i : Nat), i < l.length → (∀ x ∈ l, 0 ≤ x ∧ x.toNat < out.length) →
    (∀ i j : Nat, i < l.length → j < l.length → l.getD i 0 = l.getD j 0 → i = j) → (place l s out).getD (l.getD i 0).toNat 0 = ((s + i : Nat) : Int) := by
  induction l with
  | nil => intro s out i h; simp at h
  | cons v r ih =>
    intro s out i hi hr hinj
    simp only [place]
    cases i with
    | zero =>
      simp only [List.getD_cons_zero]
      rw [place_keep]
      · rw [getD_set_eq _ _ _ (hr v List.mem_cons_self).2]
        simp
      · intro x hx e
        obtain ⟨q, hq, eq⟩ := mem_getD hx
        have h1 := hr v List.mem_cons_self
        have h2 := hr x (List.mem_cons_of_mem _ hx)
        have : x = v := by omega
        have := hinj (q + 1) 0 (by simpa using hq) (by simp) (by simp only [List.getD_cons_succ, List.getD_cons_zero]; rw [eq, this])
        omega
    | succ i =>
      simp only [List.getD_cons_succ]
      rw [ih (s + 1) _ i (by simpa using hi) (fun x hx => by have := hr x (List.mem_cons_of_mem _ hx); simpa using this)
        (fun a b ha hb e => by have := hinj (a + 1) (b + 1) (by simpa using ha) (by simpa using hb) (by simpa using e); omega)]
      have : s + 1 + i = s + (i + 1) := by omega
      rw [this]

theorem inv_at {p : List Int} (h : ∀ i : Nat, i < p.length → (i : Int) ∈ p) (i : Nat) (hi : i < p.length) : (inv p).getD (p.getD i 0).toNat 0 = (i : Int) := by
  unfold inv
  have := place_at p 0 (List.replicate p.length 0) i hi (fun x hx => by have := perm_range h x hx; simp; omega) (perm_inj h)
  rw [Nat.zero_add] at this
  exact this

theorem inv_perm {p : List Int} (h : ∀ i : Nat, i < p.length → (i : Int) ∈ p) : ∀ i : Nat, i < (inv p).length → (i : Int) ∈ inv p := by
  intro i hi
  rw [inv_length] at hi
  rw [← inv_at h i hi]
  refine getD_mem' ?_
  rw [inv_length]
  have := perm_range h _ (getD_mem' hi)
  omega

theorem inv_back {p : List Int} (h : ∀ i : Nat, i < p.length → (i : Int) ∈ p) (v : Nat) (hv : v < p.length) : p.getD ((inv p).getD v 0).toNat 0 = (v : Int) := by
  obtain ⟨i, hi, e⟩ := mem_getD (h v hv)
  have := inv_at h i hi
  rw [e] at this
  have e2 : ((v : Int)).toNat = v := by omega
  rw [e2] at this
  rw [this]
  simpa using e

theorem inv_inv {p : List Int} (h : ∀ i : Nat, i < p.length → (i : Int) ∈ p) : inv (inv p) = p := by
  refine ext_getD (by rw [inv_length, inv_length]) fun v hv => ?_
  rw [inv_length, inv_length] at hv
  have h2 := inv_perm h
  -- q = inv p; (inv q)[q[j]] = j; take j = p[v]
  have hr := perm_range h _ (getD_mem' hv)
  have e := inv_at h2 (p.getD v 0).toNat (by rw [inv_length]; omega)
  rw [inv_at h v hv] at e
  have e2 : ((v : Int)).toNat = v := by omega
  rw [e2] at e
  rw [e]
  omega

theorem isPerm_inv {p : List Int} (h : isPerm p = true) : isPerm (inv p) = true := by
  rw [isPerm_iff] at h ⊢
  have := inv_perm h.2.2
  rw [inv_length] at this ⊢
  exact ⟨h.1, h.2.1, this⟩

/-! ### PermIn -/
theorem index_l0 (l : List Int) (x : Int) (hb : l.length ≤ 140737488351232) (d : Nat) : ∀ (k i : Nat), i ≤ l.length → l.length - i = d → d < k →
    ∃ r, slices_Index_int_int.l0 k l x l.length (i : Int) = some r ∧ (0 ≤ r ↔ x ∈ l.drop i) := by
  induction d with
  | zero =>
    intro k i hi hd hk
    obtain ⟨k, rfl⟩ : ∃ m, k = m + 1 := ⟨k - 1, by omega⟩
    obtain rfl : i = l.length := by omega
    simp only [slices_Index_int_int.l0]
    rw [if_neg (by omega)]
    exact ⟨-1, rfl, by simp⟩
  | succ d ih =>
    intro k i hi hd hk
    obtain ⟨k, rfl⟩ : ∃ m, k = m + 1 := ⟨k - 1, by omega⟩
    have hlt : i < l.length := by omega
    simp only [slices_Index_int_int.l0]
    rw [if_pos (by omega), if_pos (by omega), if_pos (by omega), w64 _ (by omega), rd_getD]
    have ea : l.drop i = l.getD i 0 :: l.drop (i + 1) := by
      rw [List.drop_eq_getElem_cons hlt, List.getD_eq_getElem?_getD, List.getElem?_eq_getElem hlt]; rfl
    rw [ea]
    by_cases h : x = l.getD i 0
    · rw [if_pos h]
      exact ⟨(i : Int), rfl, by constructor <;> intro _ <;> first | omega | (rw [h]; exact List.mem_cons_self)⟩
    · rw [if_neg h]
      have e : ((i : Int) + 1) = ((i + 1 : Nat) : Int) := by omega
      rw [e]
      obtain ⟨r, hr, hx⟩ := ih k (i + 1) (by omega) (by omega) (by omega)
      refine ⟨r, hr, hx.trans ?_⟩
      rw [List.mem_cons]
      exact ⟨.inr, fun q => q.resolve_left h⟩

theorem contains_eq (l : List Int) (x : Int) (hb : l.length ≤ 140737488351232) (k : Nat) (hk : l.length < k) : slices_Contains_int_int.f k l x = some (decide (x ∈ l)) := by
  unfold slices_Contains_int_int.f slices_Index_int_int.f
  obtain ⟨r, hr, hx⟩ := index_l0 l x hb l.length k 0 (by omega) (by omega) hk
  have z : ((0 : Nat) : Int) = 0 := rfl
  rw [z] at hr
  rw [hr, Option.bind_some]
  congr 1
  rw [List.drop_zero] at hx
  exact decide_eq_decide.2 hx

theorem impl_permin_l0 (l : List Int) (hb : l.length ≤ 7) (d : Nat) : ∀ (k i : Nat), i ≤ l.length → l.length - i = d → d + 8 < k →
    impl_PermIn.l0 k l l.length (i : Int) = some ((List.range' i d).all fun j => decide ((j : Int) ∈ l)) := by
  induction d with
  | zero =>
    intro k i hi hd hk
    obtain ⟨k, rfl⟩ : ∃ m, k = m + 1 := ⟨k - 1, by omega⟩
    simp only [impl_PermIn.l0]
    rw [if_neg (by omega)]
    simp
  | succ d ih =>
    intro k i hi hd hk
    obtain ⟨k, rfl⟩ : ∃ m, k = m + 1 := ⟨k - 1, by omega⟩
    simp only [impl_PermIn.l0]
    rw [if_pos (by omega), contains_eq l _ (by omega) k (by omega), w64 _ (by omega)]
    simp only [Option.bind_some]
    have e : ((i : Int) + 1) = ((i + 1 : Nat) : Int) := by omega
    rw [e, ih k (i + 1) (by omega) (by omega) (by omega), List.range'_succ, List.all_cons]
    by_cases h : (i : Int) ∈ l
    · rw [if_pos (decide_eq_true h)]; simp [h]
    · rw [if_neg (by simp [h])]; simp [h]

theorem impl_permin_eq (l : List Int) (k : Nat) (hk : 20 ≤ k) : impl_PermIn.f k l = some (isPerm l) := by
  obtain ⟨k, rfl⟩ : ∃ m, k = m + 1 := ⟨k - 1, by omega⟩
  unfold impl_PermIn.f isPerm hasAll
  by_cases h1 : (l.length : Int) < 1
  · rw [if_pos h1]
    have : ¬ (1 ≤ l.length) := by omega
    simp only [impl_PermIn.j0, if_true]
    simp [this]
  · rw [if_neg h1]
    by_cases h7 : (l.length : Int) > 7
    · have : ¬ (l.length ≤ 7) := by omega
      simp only [impl_PermIn.j0]
      rw [if_pos (decide_eq_true h7)]
      simp [this]
    · have e1 : 1 ≤ l.length := by omega
      have e7 : l.length ≤ 7 := by omega
      simp only [impl_PermIn.j0]
      rw [if_neg (by simpa using h7)]
      have := impl_permin_l0 l e7 l.length k 0 (by omega) (by omega) (by omega)
      have z : ((0 : Nat) : Int) = 0 := rfl
      rw [z] at this
      rw [this, List.range_eq_range']
      simp only [decide_eq_true e1, decide_eq_true e7, Bool.true_and]

theorem or_nat (a b : Nat) (ha : a < 128) (hb : b < 128) : Go.bits .or .i64 (a : Int) (b : Int) = ((a ||| b : Nat) : Int) := by
  have hx : a ||| b < 2 ^ 7 := Nat.or_lt_two_pow (by omega) (by omega)
  have h1 : (BitVec.ofInt 64 (a : Int)).toNat = a := by
    rw [BitVec.ofInt_natCast, BitVec.toNat_ofNat]; exact Nat.mod_eq_of_lt (by omega)
  have h2 : (BitVec.ofInt 64 (b : Int)).toNat = b := by
    rw [BitVec.ofInt_natCast, BitVec.toNat_ofNat]; exact Nat.mod_eq_of_lt (by omega)
  show IntKind.i64.wrap ((BitVec.ofInt 64 (a : Int) ||| BitVec.ofInt 64 (b : Int)).toNat : Int) = _
  rw [BitVec.toNat_or, h1, h2]
  simp only [IntKind.wrap, IntKind.bits, IntKind.signed]
  simp
  omega

theorem shl_one (v : Nat) (hv : v ≤ 7) : shl .i64 1 (v : Int) = ((2 ^ v : Nat) : Int) := by
  have : v = 0 ∨ v = 1 ∨ v = 2 ∨ v = 3 ∨ v = 4 ∨ v = 5 ∨ v = 6 ∨ v = 7 := by omega
  rcases this with rfl | rfl | rfl | rfl | rfl | rfl | rfl | rfl <;> decide

/-- The set of the numbers of a list, as bits. -/
def bitsOf : List Int → Nat → Nat
  | [], s => s
  | v :: r, s => bitsOf r (s ||| 2 ^ v.toNat)

theorem bitsOf_lt (n : Nat) (l : List Int) : ∀ s : Nat, s < 2 ^ n → (∀ x ∈ l, x.toNat < n) → bitsOf l s < 2 ^ n := by
  induction l with
  | nil => intro s hs _; exact hs
  | cons v r ih =>
    intro s hs h
    exact ih _ (Nat.or_lt_two_pow hs (Nat.pow_lt_pow_of_lt (by omega) (h v List.mem_cons_self))) (fun x hx => h x (List.mem_cons_of_mem _ hx))

theorem bitsOf_test (l : List Int) : ∀ (s i : Nat), (bitsOf l s).testBit i = (s.testBit i || l.any fun x => decide (x.toNat = i)) := by
  induction l with
  | nil => intro s i; simp [bitsOf]
  | cons v r ih =>
    intro s i
    simp only [bitsOf, ih, Nat.testBit_or, Nat.testBit_two_pow, List.any_cons, Bool.or_assoc]

theorem bitsOf_all (l : List Int) (n : Nat) (h : ∀ x ∈ l, 0 ≤ x ∧ x < n) : bitsOf l 0 = 2 ^ n - 1 ↔ ∀ i : Nat, i < n → (i : Int) ∈ l := by
  constructor
  · intro e i hi
    have t := bitsOf_test l 0 i
    rw [e, Nat.testBit_two_pow_sub_one] at t
    simp only [Nat.zero_testBit, Bool.false_or, decide_eq_true hi] at t
    have t := t.symm
    rw [List.any_eq_true] at t
    obtain ⟨x, hx, ex⟩ := t
    have := h x hx
    have ex := of_decide_eq_true ex
    have : x = (i : Int) := by omega
    rw [← this]; exact hx
  · intro hall
    refine Nat.eq_of_testBit_eq fun i => ?_
    rw [bitsOf_test, Nat.testBit_two_pow_sub_one]
    simp only [Nat.zero_testBit, Bool.false_or]
    rw [Bool.eq_iff_iff, List.any_eq_true, decide_eq_true_iff]
    constructor
    · rintro ⟨x, hx, ex⟩
      have := h x hx
      have ex := of_decide_eq_true ex
      omega
    · intro hi
      exact ⟨(i : Int), hall i hi, decide_eq_true (by omega)⟩

/-- Over long lists the answer is no, whatever has been gathered. -/
theorem spec_permin_long (l : List Int) (hb : l.length ≤ 1048576) (h7 : 7 < l.length ∨ l.length = 0) (d : Nat) : ∀ (k i : Nat) (s : Int), i ≤ l.length → l.length - i = d → d < k →
    spec_PermIn.l0 k l s (i : Int) = some false := by
  induction d with
  | zero =>
    intro k i s hi hd hk
    obtain ⟨k, rfl⟩ : ∃ m, k = m + 1 := ⟨k - 1, by omega⟩
    simp only [spec_PermIn.l0]
    rw [if_neg (by omega), l6In_eq]
    simp only [Option.bind_some]
    rw [if_neg (by simp; omega)]
  | succ d ih =>
    intro k i s hi hd hk
    obtain ⟨k, rfl⟩ : ∃ m, k = m + 1 := ⟨k - 1, by omega⟩
    simp only [spec_PermIn.l0]
    rw [if_pos (by omega), if_pos (by omega), l6In_eq]
    simp only [Option.bind_some]
    generalize rd l (i : Int) = x
    by_cases h : (decide (0 ≤ x) && decide (x ≤ wrap64 ((l.length : Int) - 1))) = true
    · rw [if_pos h]
      simp only [Bool.and_eq_true, decide_eq_true_eq] at h
      have e : ((i : Int) + 1) = ((i + 1 : Nat) : Int) := by omega
      rw [if_pos h.1, w64 ((i : Int) + 1) (by omega), e]
      exact ih k (i + 1) _ (by omega) (by omega) (by omega)
    · rw [if_neg h]

theorem spec_permin_short (l : List Int) (h1 : 1 ≤ l.length) (h7 : l.length ≤ 7) (d : Nat) : ∀ (k i s : Nat), i ≤ l.length → l.length - i = d → d < k → s < 2 ^ l.length →
    spec_PermIn.l0 k l (s : Int) (i : Int) = some (((l.drop i).all fun x => decide (0 ≤ x) && decide (x < l.length)) && (bitsOf (l.drop i) s == 2 ^ l.length - 1)) := by
  have hp : 2 ^ l.length ≤ 128 := Nat.pow_le_pow_right (n := 2) (by omega) h7
  have hp1 : 1 ≤ 2 ^ l.length := Nat.one_le_two_pow
  induction d with
  | zero =>
    intro k i s hi hd hk hs
    obtain ⟨k, rfl⟩ : ∃ m, k = m + 1 := ⟨k - 1, by omega⟩
    obtain rfl : i = l.length := by omega
    simp only [spec_PermIn.l0]
    rw [if_neg (by omega), l6In_eq]
    simp only [Option.bind_some]
    rw [if_pos (by simp; omega), shl_one _ h7, w64 _ (by omega), List.drop_length]
    simp only [bitsOf, List.all_nil, Bool.true_and]
    congr 1
    rw [Bool.eq_iff_iff, beq_iff_eq, beq_iff_eq]
    omega
  | succ d ih =>
    intro k i s hi hd hk hs
    obtain ⟨k, rfl⟩ : ∃ m, k = m + 1 := ⟨k - 1, by omega⟩
    have hlt : i < l.length := by omega
    simp only [spec_PermIn.l0]
    rw [if_pos (by omega), if_pos (by omega), l6In_eq, rd_getD, w64 ((l.length : Int) - 1) (by omega)]
    simp only [Option.bind_some]
    have ea : l.drop i = l.getD i 0 :: l.drop (i + 1) := by
      rw [List.drop_eq_getElem_cons hlt, List.getD_eq_getElem?_getD, List.getElem?_eq_getElem hlt]; rfl
    rw [ea]
    generalize l.getD i 0 = x
    simp only [List.all_cons, bitsOf]
    by_cases h : 0 ≤ x ∧ x < l.length
    · rw [if_pos (by simp; omega), if_pos h.1]
      obtain ⟨v, rfl⟩ := Int.eq_ofNat_of_zero_le h.1
      have hv : v < l.length := by omega
      have h2v : 2 ^ v < 2 ^ l.length := Nat.pow_lt_pow_of_lt (by omega) hv
      have e : ((i : Int) + 1) = ((i + 1 : Nat) : Int) := by omega
      rw [shl_one v (by omega), or_nat s (2 ^ v) (by omega) (by omega), w64 ((i : Int) + 1) (by omega), e,
        ih k (i + 1) _ (by omega) (by omega) (by omega) (Nat.or_lt_two_pow hs h2v)]
      have et : ((v : Int)).toNat = v := by omega
      rw [et, decide_eq_true h.1, decide_eq_true h.2]
      simp
    · rw [if_neg (by simp; omega)]
      have : (decide (0 ≤ x) && decide (x < (l.length : Int))) = false := by
        rw [Bool.eq_false_iff]; intro q; simp only [Bool.and_eq_true, decide_eq_true_eq] at q; exact h q
      rw [this]
      simp

theorem spec_permin_eq (l : List Int) (hb : l.length ≤ 1048576) (k : Nat) (hk : l.length < k) : spec_PermIn.f k l = some (isPerm l) := by
  unfold spec_PermIn.f
  by_cases h : 1 ≤ l.length ∧ l.length ≤ 7
  · have := spec_permin_short l h.1 h.2 l.length k 0 0 (by omega) (by omega) hk (Nat.two_pow_pos _)
    have z : ((0 : Nat) : Int) = 0 := rfl
    rw [z, List.drop_zero] at this
    rw [this]
    congr 1
    rw [Bool.eq_iff_iff, isPerm_iff, Bool.and_eq_true, List.all_eq_true, beq_iff_eq]
    constructor
    · rintro ⟨h1, h2⟩
      have hr : ∀ x ∈ l, 0 ≤ x ∧ x < (l.length : Int) := fun x hx => by simpa using h1 x hx
      exact ⟨h.1, h.2, (bitsOf_all l l.length hr).1 h2⟩
    · rintro ⟨_, _, h3⟩
      have hr := perm_range h3
      exact ⟨fun x hx => by simpa using hr x hx, (bitsOf_all l l.length hr).2 h3⟩
  · have := spec_permin_long l hb (by omega) l.length k 0 0 (by omega) (by omega) hk
    have z : ((0 : Nat) : Int) = 0 := rfl
    rw [z] at this
    rw [this]
    congr 1
    symm
    rw [Bool.eq_false_iff]
    intro q
    rw [isPerm_iff] at q
    exact h ⟨q.1, q.2.1⟩

theorem drop_cons {l : List Int} {i : Nat} (h : i < l.length) : l.drop i = l.getD i 0 :: l.drop (i + 1) := by
  rw [List.drop_eq_getElem_cons h, List.getD_eq_getElem?_getD, List.getElem?_eq_getElem h]; rfl

theorem impl_other_l0 (p : List Int) (hb : p.length ≤ 7) (hr : ∀ x ∈ p, 0 ≤ x ∧ x < p.length) (d : Nat) : ∀ (k i : Nat) (out : List Int), i ≤ p.length → p.length - i = d → d < k → out.length = p.length →
    impl_PermOther.l0 k out p p.length (i : Int) = some (place (p.drop i) i out, true) := by
  induction d with
  | zero =>
    intro k i out hi hd hk ho
    obtain ⟨k, rfl⟩ : ∃ m, k = m + 1 := ⟨k - 1, by omega⟩
    obtain rfl : i = p.length := by omega
    simp only [impl_PermOther.l0]
    rw [if_neg (by omega), List.drop_length]
    rfl
  | succ d ih =>
    intro k i out hi hd hk ho
    obtain ⟨k, rfl⟩ : ∃ m, k = m + 1 := ⟨k - 1, by omega⟩
    have hlt : i < p.length := by omega
    have hx := hr _ (getD_mem' hlt)
    simp only [impl_PermOther.l0]
    rw [rd_getD, if_pos (by omega), if_pos (by omega), if_pos (by omega), if_pos hx.1, if_pos (by omega), w64 _ (by omega), drop_cons hlt]
    have e : ((i : Int) + 1) = ((i + 1 : Nat) : Int) := by omega
    rw [e, ih k (i + 1) _ (by omega) (by omega) (by omega) (by simpa using ho)]
    rfl

def otherR (p : List Int) : List Int × Bool := if isPerm p = true then (inv p, true) else ([], false)

theorem impl_other_eq (p : List Int) (k : Nat) (hk : 20 ≤ k) : impl_PermOther.f k p = some (otherR p) := by
  unfold impl_PermOther.f otherR
  rw [impl_permin_eq p k hk]
  simp only [Option.bind_some]
  by_cases h : isPerm p = true
  · rw [if_pos h, if_pos h]
    rw [isPerm_iff] at h
    have e : ((p.length : Int)).toNat = p.length := by omega
    rw [if_pos (by omega), e, if_pos (by omega)]
    have := impl_other_l0 p h.2.1 (perm_range h.2.2) p.length k 0 (List.replicate p.length 0) (by omega) (by omega) (by omega) (by simp)
    unfold inv
    simpa using this
  · rw [if_neg h, if_neg h]

theorem otherR_length (p : List Int) : (otherR p).1.length ≤ 7 := by
  unfold otherR
  by_cases h : isPerm p = true
  · rw [if_pos h]
    rw [isPerm_iff] at h
    simp only [inv_length]
    exact h.2.1
  · rw [if_neg h]; simp

def backR (p : List Int) : List Int × Bool := if isPerm p = true then (p.reverse, true) else ([], false)

theorem reverse_eq (l : List Int) (hl : l.length ≤ 7) (k : Nat) (hk : 20 ≤ k) : slices_Reverse_int_int.f k l = some l.reverse := by
  obtain ⟨m, rfl⟩ : ∃ m, k = m + 20 := ⟨k - 20, by omega⟩
  match l, hl with
  | [], _ => simp [slices_Reverse_int_int.f, slices_Reverse_int_int.l0, rd, wrap64]
  | [a], _ => simp [slices_Reverse_int_int.f, slices_Reverse_int_int.l0, rd, wrap64]
  | [a, b], _ => simp [slices_Reverse_int_int.f, slices_Reverse_int_int.l0, rd, wrap64]
  | [a, b, c], _ => simp [slices_Reverse_int_int.f, slices_Reverse_int_int.l0, rd, wrap64]
  | [a, b, c, d], _ => simp [slices_Reverse_int_int.f, slices_Reverse_int_int.l0, rd, wrap64]
  | [a, b, c, d, e], _ => simp [slices_Reverse_int_int.f, slices_Reverse_int_int.l0, rd, wrap64]
  | [a, b, c, d, e, f], _ => simp [slices_Reverse_int_int.f, slices_Reverse_int_int.l0, rd, wrap64]
  | [a, b, c, d, e, f, g], _ => simp [slices_Reverse_int_int.f, slices_Reverse_int_int.l0, rd, wrap64]
  | a :: b :: c :: d :: e :: f :: g :: h :: t, hl => simp at hl

theorem impl_back_eq (p : List Int) (k : Nat) (hk : 20 ≤ k) : impl_PermBack.f k p = some (backR p) := by
  unfold impl_PermBack.f backR
  rw [impl_permin_eq p k hk]
  simp only [Option.bind_some]
  by_cases h : isPerm p = true
  · have h7 := ((isPerm_iff p).1 h)
    have hc : Go.Proofs.Ytolegnmdcmfoiaa.S.slices_Clone.f p = some p := if_pos (by omega)
    rw [if_pos h, if_pos h, hc]
    simp only [Option.bind_some]
    rw [reverse_eq p h7.2.1 k hk]
    rfl
  · rw [if_neg h, if_neg h]

theorem backR_length (p : List Int) : (backR p).1.length ≤ 7 := by
  unfold backR
  by_cases h : isPerm p = true
  · rw [if_pos h]; have := ((isPerm_iff p).1 h).2.1; simpa using this
  · rw [if_neg h]; simp

/-! ### Two lists of the law's own comparing -/
theorem same_l0 (a b : List Int) (hab : a.length = b.length) (hb : a.length ≤ 1048576) (d : Nat) : ∀ (k i : Nat), i ≤ a.length → a.length - i = d → d < k →
    laws_sameInts.l0 k a b (i : Int) = some (decide (a.drop i = b.drop i)) := by
  induction d with
  | zero =>
    intro k i hi hd hk
    obtain ⟨k, rfl⟩ : ∃ m, k = m + 1 := ⟨k - 1, by omega⟩
    obtain rfl : i = a.length := by omega
    simp only [laws_sameInts.l0]
    rw [if_neg (by omega), List.drop_length, hab, List.drop_length]
    simp
  | succ d ih =>
    intro k i hi hd hk
    obtain ⟨k, rfl⟩ : ∃ m, k = m + 1 := ⟨k - 1, by omega⟩
    have hlt : i < a.length := by omega
    have hlt2 : i < b.length := by omega
    simp only [laws_sameInts.l0]
    rw [if_pos (by omega), if_pos (by omega), if_pos (by omega), w64 _ (by omega), rd_getD, rd_getD]
    have e : ((i : Int) + 1) = ((i + 1 : Nat) : Int) := by omega
    have ea : a.drop i = a.getD i 0 :: a.drop (i + 1) := by
      rw [List.drop_eq_getElem_cons hlt, List.getD_eq_getElem?_getD, List.getElem?_eq_getElem hlt]; rfl
    have eb : b.drop i = b.getD i 0 :: b.drop (i + 1) := by
      rw [List.drop_eq_getElem_cons hlt2, List.getD_eq_getElem?_getD, List.getElem?_eq_getElem hlt2]; rfl
    rw [e, ea, eb]
    by_cases h : a.getD i 0 = b.getD i 0
    · rw [if_pos h, ih k (i + 1) (by omega) (by omega) (by omega), h]
      simp only [List.cons.injEq, true_and]
    · rw [if_neg h]
      simp only [List.cons.injEq, h, false_and, decide_false]

theorem same_eq (a b : List Int) (hb : a.length ≤ 1048576) (k : Nat) (hk : a.length < k) : laws_sameInts.f k a b = some (decide (a = b)) := by
  unfold laws_sameInts.f
  by_cases h : (a.length : Int) = (b.length : Int)
  · rw [if_pos h]
    have := same_l0 a b (by omega) hb a.length k 0 (by omega) (by omega) hk
    simpa using this
  · rw [if_neg h]
    have : ¬ a = b := fun e => h (by rw [e])
    simp [this]

theorem same_self (a : List Int) (hb : a.length ≤ 1048576) (k : Nat) (hk : a.length < k) : laws_sameInts.f k a a = some true := by
  rw [same_eq a a hb k hk]; simp

/-! ### One permutation behind another -/
def raise (q : List Int) (n : Int) : List Int := q.map fun x => x + n
theorem raise_length (q : List Int) (n : Int) : (raise q n).length = q.length := by simp [raise]
theorem raise_reverse (q : List Int) (n : Int) : (raise q n).reverse = raise q.reverse n := by simp [raise]

theorem perm_lo {q : List Int} (h : isPerm q = true) : ∀ x ∈ q, 0 ≤ x ∧ x < 7 := by
  have hq := (isPerm_iff q).1 h
  intro x hx
  have := perm_range hq.2.2 x hx
  omega

theorem isPerm_join {p q : List Int} (hp : isPerm p = true) (hq : isPerm q = true) (hl : p.length + q.length ≤ 7) {r : List Int} (hr : r.length = p.length + q.length) (hpr : ∀ x ∈ p, x ∈ r) (hqr : ∀ x ∈ raise q p.length, x ∈ r) : isPerm r = true := by
  have h1 := (isPerm_iff p).1 hp
  have h2 := (isPerm_iff q).1 hq
  rw [isPerm_iff]
  refine ⟨by omega, by omega, fun i hi => ?_⟩
  by_cases h : i < p.length
  · exact hpr _ (h1.2.2 i h)
  · refine hqr _ (List.mem_map.2 ⟨((i - p.length : Nat) : Int), h2.2.2 (i - p.length) (by omega), by omega⟩)
theorem isPerm_aside {p q : List Int} (hp : isPerm p = true) (hq : isPerm q = true) (hl : p.length + q.length ≤ 7) : isPerm (p ++ raise q p.length) = true :=
  isPerm_join hp hq hl (by simp [raise_length]) (fun _ h => List.mem_append_left _ h) (fun _ h => List.mem_append_right _ h)
theorem isPerm_under {p q : List Int} (hp : isPerm p = true) (hq : isPerm q = true) (hl : p.length + q.length ≤ 7) : isPerm (raise q p.length ++ p) = true :=
  isPerm_join hp hq hl (by simp [raise_length]; omega) (fun _ h => List.mem_append_right _ h) (fun _ h => List.mem_append_left _ h)

theorem more_l0 (q : List Int) (n : Int) (hb : q.length ≤ 7) (hn : 0 ≤ n ∧ n ≤ 7) (hr : ∀ x ∈ q, 0 ≤ x ∧ x < 7) (d : Nat) : ∀ (k i : Nat), i ≤ q.length → q.length - i = d → d < k →
    spec_l6More.l0 k q n ((raise q n).take i) (i : Int) = some (raise q n) := by
  induction d with
  | zero =>
    intro k i hi hd hk
    obtain ⟨k, rfl⟩ : ∃ m, k = m + 1 := ⟨k - 1, by omega⟩
    obtain rfl : i = q.length := by omega
    simp only [spec_l6More.l0]
    rw [if_neg (by omega), ← raise_length q n, List.take_length]
  | succ d ih =>
    intro k i hi hd hk
    obtain ⟨k, rfl⟩ : ∃ m, k = m + 1 := ⟨k - 1, by omega⟩
    have hlt : i < q.length := by omega
    have hx := hr _ (getD_mem' hlt)
    simp only [spec_l6More.l0]
    rw [if_pos (by omega), if_pos (by omega), if_pos (by simp [raise_length]; omega), rd_getD, w64 (q.getD i 0 + n) (by omega), w64 _ (by omega)]
    have e : ((i : Int) + 1) = ((i + 1 : Nat) : Int) := by omega
    have e2 : (raise q n).take i ++ [q.getD i 0 + n] = (raise q n).take (i + 1) := by
      rw [List.take_succ_eq_append_getElem (by rw [raise_length]; exact hlt)]
      congr 2
      simp [raise, List.getD_eq_getElem?_getD, hlt]
    rw [e, e2]
    exact ih k (i + 1) (by omega) (by omega) (by omega)

theorem more_eq (q : List Int) (n : Int) (hb : q.length ≤ 7) (hn : 0 ≤ n ∧ n ≤ 7) (hr : ∀ x ∈ q, 0 ≤ x ∧ x < 7) (k : Nat) (hk : 10 ≤ k) : spec_l6More.f k q n = some (raise q n) := by
  have := more_l0 q n hb hn hr q.length k 0 (by omega) (by omega) (by omega)
  unfold spec_l6More.f
  simpa using this

theorem raised_eq (q : List Int) (n : Int) (hb : q.length ≤ 7) (hn : 0 ≤ n ∧ n ≤ 7) (hr : ∀ x ∈ q, 0 ≤ x ∧ x < 7) : Go.Proofs.Ytolegnmdcmfoiaa.S.impl_raised.f q n = some (raise q n) := by
  unfold Go.Proofs.Ytolegnmdcmfoiaa.S.impl_raised.f Go.Proofs.Ytolegnmdcmfoiaa.S.slices_Clone.f
  rw [if_pos (by omega), Option.bind_some]
  congr 1
  apply List.map_congr_left
  intro x hx
  have := hr x hx
  exact w64 _ (by omega)

theorem concat_eq (a b : List Int) (h : a.length + b.length ≤ 20) : Go.Proofs.Ytolegnmdcmfoiaa.S.slices_Concat.f [a, b] = some (a ++ b) := by
  unfold Go.Proofs.Ytolegnmdcmfoiaa.S.slices_Concat.f
  have e : ([a, b] : List (List Int)).flatten = a ++ b := by simp
  rw [e, if_pos ⟨by simp, by simp; omega⟩]

def asideR (p q : List Int) : List Int × Bool := if isPerm p = true ∧ isPerm q = true ∧ p.length + q.length ≤ 7 then (p ++ raise q p.length, true) else ([], false)
def underR (p q : List Int) : List Int × Bool := if isPerm p = true ∧ isPerm q = true ∧ p.length + q.length ≤ 7 then (raise q p.length ++ p, true) else ([], false)

theorem asideR_length (p q : List Int) : (asideR p q).1.length ≤ 7 := by
  unfold asideR; split
  · next h => simp [raise_length]; exact h.2.2
  · simp
theorem underR_length (p q : List Int) : (underR p q).1.length ≤ 7 := by
  unfold underR; split
  · next h => simp [raise_length]; omega
  · simp

theorem spec_aside_eq (p q : List Int) (hp : p.length ≤ 1048576) (hq : q.length ≤ 1048576) (k : Nat) (hk : 1048590 ≤ k) : spec_PermAside.f k p q = some (asideR p q) := by
  unfold spec_PermAside.f asideR
  rw [spec_permin_eq p hp k (by omega), Option.bind_some]
  by_cases h1 : isPerm p = true
  · rw [if_pos h1, spec_permin_eq q hq k (by omega), Option.bind_some]
    by_cases h2 : isPerm q = true
    · rw [if_pos h2, w64 _ (by omega)]
      have q1 := (isPerm_iff p).1 h1
      have q2 := (isPerm_iff q).1 h2
      by_cases h3 : p.length + q.length ≤ 7
      · rw [if_neg (by omega), if_pos ⟨h1, h2, h3⟩]
        simp only [Option.bind_some]
        rw [if_pos (by simp; omega), more_eq q _ q2.2.1 (by omega) (perm_lo h2) k (by omega), Option.bind_some, if_pos (by simp [raise_length]; omega)]
        rfl
      · rw [if_pos (by omega), if_neg (fun h => h3 h.2.2)]
    · rw [if_neg h2, if_neg (fun h => h2 h.2.1)]
  · rw [if_neg h1, if_neg (fun h => h1 h.1)]

theorem impl_aside_eq (p q : List Int) (hp : p.length ≤ 1048576) (hq : q.length ≤ 1048576) (k : Nat) (hk : 30 ≤ k) : impl_PermAside.f k p q = some (asideR p q) := by
  obtain ⟨m, rfl⟩ : ∃ m, k = m + 1 := ⟨k - 1, by omega⟩
  unfold impl_PermAside.f asideR
  rw [impl_permin_eq p _ (by omega), Option.bind_some]
  by_cases h1 : isPerm p = true
  · rw [if_pos h1, impl_permin_eq q _ (by omega), Option.bind_some]
    by_cases h2 : isPerm q = true
    · rw [if_pos h2, w64 _ (by omega)]
      have q1 := (isPerm_iff p).1 h1
      have q2 := (isPerm_iff q).1 h2
      simp only [impl_PermAside.j0]
      by_cases h3 : p.length + q.length ≤ 7
      · rw [if_neg (by simp; omega), if_pos ⟨h1, h2, h3⟩, raised_eq q _ q2.2.1 (by omega) (perm_lo h2), Option.bind_some, concat_eq _ _ (by rw [raise_length]; omega), Option.bind_some]
      · rw [if_pos (by simp; omega), if_neg (fun h => h3 h.2.2)]
    · rw [if_neg h2, if_neg (fun h => h2 h.2.1)]
      simp only [impl_PermAside.j0, if_true]
  · rw [if_neg h1, if_neg (fun h => h1 h.1)]
    simp only [impl_PermAside.j0, if_true]

/-! ### Fair and loose ones -/
def P4 (a b c d : Int) : Prop := (c < a ∧ a < d ∧ d < b) ∨ (b < d ∧ d < a ∧ a < c)
def LB (p : List Int) (a b c d : Nat) : Prop := a < b ∧ b < c ∧ c < d ∧ d < p.length ∧ P4 (pv p a) (pv p b) (pv p c) (pv p d)

theorem pat_iff (p : List Int) (a b c d : Nat) : pat p a b c d = true ↔ P4 (pv p a) (pv p b) (pv p c) (pv p d) := by
  unfold pat P4
  simp only [Bool.or_eq_true, Bool.and_eq_true, decide_eq_true_eq, and_assoc]
theorem tight_iff (a b c d : Int) : Go.Proofs.Ytolegnmdcmfoiaa.S.tightB a b c d = true ↔ P4 a b c d := by
  unfold Go.Proofs.Ytolegnmdcmfoiaa.S.tightB P4
  simp only [Bool.or_eq_true, Bool.and_eq_true, decide_eq_true_eq, and_assoc]
theorem unfair_iff (a b c d : Int) : Go.Proofs.Ytolegnmdcmfoiaa.S.unfairB a b c d = true ↔ P4 a b c d := by
  unfold Go.Proofs.Ytolegnmdcmfoiaa.S.unfairB P4 mx mn
  simp only [Bool.or_eq_true, Bool.and_eq_true, decide_eq_true_eq, and_assoc]
  constructor
  · rintro (⟨h1, h2, h3⟩ | ⟨h1, h2, h3⟩) <;> split at h1 <;> split at h2 <;> omega
  · rintro (⟨h1, h2, h3⟩ | ⟨h1, h2, h3⟩)
    · left; refine ⟨?_, ?_, h2⟩ <;> split <;> omega
    · right; refine ⟨?_, ?_, h2⟩ <;> split <;> omega

theorem fairS_iff (p : List Int) : fairS p 1 (p.length - 3) = true ↔ ∀ a b d, ¬ LB p a b (b + 1) d := by
  unfold fairS
  rw [allFrom_iff]
  constructor
  · rintro h a b d ⟨h1, h2, h3, h4, h5⟩
    have e1 := h b (by omega) (by omega)
    rw [allFrom_iff] at e1
    have e2 := e1 a (by omega) (by omega)
    rw [allFrom_iff] at e2
    have e3 := e2 d (by omega) (by omega)
    rw [(pat_iff p a b (b + 1) d).2 h5] at e3
    simp at e3
  · intro h b h1 h2
    rw [allFrom_iff]
    intro a h3 h4
    rw [allFrom_iff]
    intro d h5 h6
    have := h a b d
    cases e : pat p a b (b + 1) d
    · rfl
    · exact absurd ⟨by omega, by omega, by omega, by omega, (pat_iff p a b (b + 1) d).1 e⟩ this
theorem looseS_iff (p : List Int) : looseS p 0 p.length = true ↔ ∀ a b c d, ¬ LB p a b c d := by
  unfold looseS
  rw [allFrom_iff]
  constructor
  · rintro h a b c d ⟨h1, h2, h3, h4, h5⟩
    have e1 := h a (by omega) (by omega)
    rw [allFrom_iff] at e1
    have e2 := e1 b (by omega) (by omega)
    rw [allFrom_iff] at e2
    have e3 := e2 c (by omega) (by omega)
    rw [allFrom_iff] at e3
    have e4 := e3 d (by omega) (by omega)
    rw [(pat_iff p a b c d).2 h5] at e4
    simp at e4
  · intro h a h1 h2
    rw [allFrom_iff]
    intro b h3 h4
    rw [allFrom_iff]
    intro c h5 h6
    rw [allFrom_iff]
    intro d h7 h8
    cases e : pat p a b c d
    · rfl
    · exact absurd ⟨by omega, by omega, by omega, by omega, (pat_iff p a b c d).1 e⟩ (h a b c d)
theorem fairB_iff (p : List Int) : Go.Proofs.Ytolegnmdcmfoiaa.S.fairB p = true ↔ ∀ a b d, ¬ LB p a b (b + 1) d := by
  unfold Go.Proofs.Ytolegnmdcmfoiaa.S.fairB
  rw [List.all_eq_true]
  constructor
  · rintro h a b d ⟨h1, h2, h3, h4, h5⟩
    have := h (a, b, b + 1, d) ((Go.Proofs.Ytolegnmdcmfoiaa.S.mem_foursL _ _ _ _ _).2 ⟨h1, h2, h3, h4⟩)
    have e := (unfair_iff _ _ _ _).2 h5
    unfold pv at e
    have hb : Go.Proofs.Ytolegnmdcmfoiaa.S.badFair p (a, b, b + 1, d) = true := by show (decide (b + 1 = b + 1) && Go.Proofs.Ytolegnmdcmfoiaa.S.unfairB _ _ _ _) = true; rw [e]; simp
    rw [hb] at this; cases this
  · rintro h ⟨a, b, c, d⟩ hx
    obtain ⟨h1, h2, h3, h4⟩ := (Go.Proofs.Ytolegnmdcmfoiaa.S.mem_foursL _ _ _ _ _).1 hx
    cases e : Go.Proofs.Ytolegnmdcmfoiaa.S.badFair p (a, b, c, d)
    · rfl
    · exfalso
      simp only [Go.Proofs.Ytolegnmdcmfoiaa.S.badFair, Bool.and_eq_true, decide_eq_true_eq] at e
      obtain ⟨rfl, e⟩ := e
      exact h a b d ⟨h1, h2, h3, h4, (unfair_iff _ _ _ _).1 e⟩
theorem looseB_iff (p : List Int) : Go.Proofs.Ytolegnmdcmfoiaa.S.looseB p = true ↔ ∀ a b c d, ¬ LB p a b c d := by
  unfold Go.Proofs.Ytolegnmdcmfoiaa.S.looseB
  rw [List.all_eq_true]
  constructor
  · rintro h a b c d ⟨h1, h2, h3, h4, h5⟩
    have := h (a, b, c, d) ((Go.Proofs.Ytolegnmdcmfoiaa.S.mem_foursL _ _ _ _ _).2 ⟨h1, h2, h3, h4⟩)
    have e := (tight_iff _ _ _ _).2 h5
    unfold pv at e
    have hb : Go.Proofs.Ytolegnmdcmfoiaa.S.badLoose p (a, b, c, d) = true := e
    rw [hb] at this; cases this
  · rintro h ⟨a, b, c, d⟩ hx
    obtain ⟨h1, h2, h3, h4⟩ := (Go.Proofs.Ytolegnmdcmfoiaa.S.mem_foursL _ _ _ _ _).1 hx
    cases e : Go.Proofs.Ytolegnmdcmfoiaa.S.badLoose p (a, b, c, d)
    · rfl
    · exact absurd ⟨h1, h2, h3, h4, (tight_iff _ _ _ _).1 e⟩ (h a b c d)
theorem fairS_eq (p : List Int) : fairS p 1 (p.length - 3) = Go.Proofs.Ytolegnmdcmfoiaa.S.fairB p := by rw [Bool.eq_iff_iff, fairS_iff, fairB_iff]
theorem looseS_eq (p : List Int) : looseS p 0 p.length = Go.Proofs.Ytolegnmdcmfoiaa.S.looseB p := by rw [Bool.eq_iff_iff, looseS_iff, looseB_iff]
theorem fair_of_loose {p : List Int} (h : Go.Proofs.Ytolegnmdcmfoiaa.S.looseB p = true) : Go.Proofs.Ytolegnmdcmfoiaa.S.fairB p = true :=
  (fairB_iff p).2 fun a b d => (looseB_iff p).1 h a b (b + 1) d


/-! #### backwards -/
theorem pv_rev (p : List Int) (i : Nat) (h : i < p.length) : pv p.reverse i = pv p (p.length - 1 - i) := by
  unfold pv
  rw [List.getD_eq_getElem?_getD, List.getD_eq_getElem?_getD, List.getElem?_reverse h]
theorem lb_rev (p : List Int) (a b c d : Nat) (h : LB p.reverse a b c d) : LB p (p.length - 1 - d) (p.length - 1 - c) (p.length - 1 - b) (p.length - 1 - a) := by
  obtain ⟨h1, h2, h3, h4, h5⟩ := h
  rw [List.length_reverse] at h4
  rw [pv_rev p a (by omega), pv_rev p b (by omega), pv_rev p c (by omega), pv_rev p d (by omega)] at h5
  refine ⟨by omega, by omega, by omega, by omega, ?_⟩
  unfold P4 at *
  omega
theorem fair_rev {p : List Int} (h : Go.Proofs.Ytolegnmdcmfoiaa.S.fairB p = true) : Go.Proofs.Ytolegnmdcmfoiaa.S.fairB p.reverse = true := by
  rw [fairB_iff] at h ⊢
  intro a b d hb
  have h4 := hb.2.2.2.1
  have h3 := hb.2.2.1
  rw [List.length_reverse] at h4
  have := lb_rev p a b (b + 1) d hb
  rw [show p.length - 1 - b = p.length - 1 - (b + 1) + 1 by omega] at this
  exact h _ _ _ this
theorem loose_rev {p : List Int} (h : Go.Proofs.Ytolegnmdcmfoiaa.S.looseB p = true) : Go.Proofs.Ytolegnmdcmfoiaa.S.looseB p.reverse = true := by
  rw [looseB_iff] at h ⊢
  intro a b c d hb
  exact h _ _ _ _ (lb_rev p a b c d hb)

/-! #### places -/
theorem inv_pv {p : List Int} (h : isPerm p = true) (i : Nat) (hi : i < p.length) : pv (inv p) (pv p i).toNat = (i : Int) ∧ (pv p i).toNat < p.length ∧ 0 ≤ pv p i := by
  have hp := (isPerm_iff p).1 h
  have hr := perm_range hp.2.2 _ (getD_mem' hi)
  refine ⟨inv_at hp.2.2 i hi, ?_, hr.1⟩
  unfold pv
  omega
theorem loose_inv {p : List Int} (hp : isPerm p = true) (h : Go.Proofs.Ytolegnmdcmfoiaa.S.looseB (inv p) = true) : Go.Proofs.Ytolegnmdcmfoiaa.S.looseB p = true := by
  rw [looseB_iff] at h ⊢
  rintro a b c d ⟨h1, h2, h3, h4, h5⟩
  obtain ⟨a1, a2, a3⟩ := inv_pv hp a (by omega)
  obtain ⟨b1, b2, b3⟩ := inv_pv hp b (by omega)
  obtain ⟨c1, c2, c3⟩ := inv_pv hp c (by omega)
  obtain ⟨d1, d2, d3⟩ := inv_pv hp d (by omega)
  rcases h5 with ⟨x, y, z⟩ | ⟨x, y, z⟩
  · refine h (pv p c).toNat (pv p a).toNat (pv p d).toNat (pv p b).toNat ⟨by omega, by omega, by omega, by rw [inv_length]; omega, ?_⟩
    rw [a1, b1, c1, d1]; right; omega
  · refine h (pv p b).toNat (pv p d).toNat (pv p a).toNat (pv p c).toNat ⟨by omega, by omega, by omega, by rw [inv_length]; omega, ?_⟩
    rw [a1, b1, c1, d1]; left; omega

theorem between (f : Nat → Int) (j : Int) (m : Nat) : ∀ s, f s < j → j + 1 < f (s + m) → (∀ v, s ≤ v → v ≤ s + m → f v ≠ j ∧ f v ≠ j + 1) → ∃ v, s ≤ v ∧ v < s + m ∧ f v < j ∧ j + 1 < f (v + 1) := by
  induction m with
  | zero => intro s h1 h2 _; rw [Nat.add_zero] at h2; omega
  | succ m ih =>
    intro s h1 h2 h3
    by_cases h : f (s + 1) < j
    · obtain ⟨v, v1, v2, v3, v4⟩ := ih (s + 1) h (by rw [show s + 1 + m = s + (m + 1) by omega]; exact h2) (fun v hv1 hv2 => h3 v (by omega) (by omega))
      exact ⟨v, by omega, by omega, v3, v4⟩
    · have := h3 (s + 1) (by omega) (by omega)
      exact ⟨s, by omega, by omega, h1, by omega⟩

theorem fair_inv {p : List Int} (hp : isPerm p = true) (h : Go.Proofs.Ytolegnmdcmfoiaa.S.fairB (inv p) = true) : Go.Proofs.Ytolegnmdcmfoiaa.S.fairB p = true := by
  have hq := (isPerm_iff p).1 hp
  rw [fairB_iff] at h ⊢
  rintro a j d ⟨h1, h2, h3, h4, h5⟩
  obtain ⟨a1, a2, a3⟩ := inv_pv hp a (by omega)
  obtain ⟨j1, j2, j3⟩ := inv_pv hp j (by omega)
  obtain ⟨k1, k2, k3⟩ := inv_pv hp (j + 1) (by omega)
  obtain ⟨d1, d2, d3⟩ := inv_pv hp d (by omega)
  have hback : ∀ v : Nat, v < p.length → ∀ i : Nat, pv (inv p) v = (i : Int) → pv p i = (v : Int) := fun v hv i e => by
    have := inv_back hq.2.2 v hv
    unfold pv at *
    rw [e] at this
    simpa using this
  rcases h5 with ⟨x, y, z⟩ | ⟨x, y, z⟩
  · obtain ⟨v, v1, v2, v3, v4⟩ := between (fun v => pv (inv p) v) (j : Int) ((pv p d).toNat - (pv p a).toNat) (pv p a).toNat (by show pv (inv p) _ < _; rw [a1]; omega)
      (by show _ < pv (inv p) _; rw [show (pv p a).toNat + ((pv p d).toNat - (pv p a).toNat) = (pv p d).toNat by omega, d1]; omega)
      (fun v hv1 hv2 => ⟨fun e => by have := hback v (by omega) j e; omega, fun e => by have := hback v (by omega) (j + 1) (by rw [e]; omega); omega⟩)
    refine h (pv p (j + 1)).toNat v (pv p j).toNat ⟨by omega, by omega, by omega, by rw [inv_length]; omega, ?_⟩
    rw [j1, k1]; right
    omega
  · obtain ⟨v, v1, v2, v3, v4⟩ := between (fun v => - pv (inv p) v) (-(j : Int) - 1) ((pv p a).toNat - (pv p d).toNat) (pv p d).toNat (by show - pv (inv p) _ < _; rw [d1]; omega)
      (by show _ < - pv (inv p) _; rw [show (pv p d).toNat + ((pv p a).toNat - (pv p d).toNat) = (pv p a).toNat by omega, a1]; omega)
      (fun v hv1 hv2 => ⟨fun e => by have := hback v (by omega) (j + 1) (by omega); omega, fun e => by have := hback v (by omega) j (by omega); omega⟩)
    refine h (pv p j).toNat v (pv p (j + 1)).toNat ⟨by omega, by omega, by omega, by rw [inv_length]; omega, ?_⟩
    rw [j1, k1]; left
    omega
theorem fair_inv' {p : List Int} (hp : isPerm p = true) (h : Go.Proofs.Ytolegnmdcmfoiaa.S.fairB p = true) : Go.Proofs.Ytolegnmdcmfoiaa.S.fairB (inv p) = true :=
  fair_inv (isPerm_inv hp) (by rw [inv_inv ((isPerm_iff p).1 hp).2.2]; exact h)
theorem loose_inv' {p : List Int} (hp : isPerm p = true) (h : Go.Proofs.Ytolegnmdcmfoiaa.S.looseB p = true) : Go.Proofs.Ytolegnmdcmfoiaa.S.looseB (inv p) = true :=
  loose_inv (isPerm_inv hp) (by rw [inv_inv ((isPerm_iff p).1 hp).2.2]; exact h)

/-! #### one behind another -/
theorem pv_lo (p r : List Int) (i : Nat) (h : i < p.length) : pv (p ++ r) i = pv p i := by
  unfold pv; rw [List.getD_eq_getElem?_getD, List.getD_eq_getElem?_getD, List.getElem?_append_left h]
theorem pv_hi (p q : List Int) (i : Nat) (h : p.length ≤ i) (h2 : i < p.length + q.length) : pv (p ++ raise q p.length) i = pv q (i - p.length) + p.length := by
  unfold pv raise
  rw [List.getD_eq_getElem?_getD, List.getD_eq_getElem?_getD, List.getElem?_append_right h, List.getElem?_map, List.getElem?_eq_getElem (by omega)]
  rfl
theorem pv_range {p : List Int} (h : isPerm p = true) (i : Nat) (hi : i < p.length) : 0 ≤ pv p i ∧ pv p i < p.length :=
  perm_range ((isPerm_iff p).1 h).2.2 _ (getD_mem' hi)

theorem lb_aside {p q : List Int} (hp : isPerm p = true) (hq : isPerm q = true) (a b c d : Nat) :
    LB (p ++ raise q p.length) a b c d ↔ LB p a b c d ∨ (p.length ≤ a ∧ LB q (a - p.length) (b - p.length) (c - p.length) (d - p.length)) := by
  have L : (p ++ raise q p.length).length = p.length + q.length := by rw [List.length_append, raise_length]
  constructor
  · rintro ⟨h1, h2, h3, h4, h5⟩
    rw [L] at h4
    have lo : ∀ i, i < p.length → pv (p ++ raise q p.length) i = pv p i ∧ 0 ≤ pv p i ∧ pv p i < p.length := fun i hi => ⟨pv_lo _ _ i hi, pv_range hp i hi⟩
    have hi : ∀ i, p.length ≤ i → i < p.length + q.length → pv (p ++ raise q p.length) i = pv q (i - p.length) + p.length ∧ 0 ≤ pv q (i - p.length) := fun i h h2 => ⟨pv_hi _ _ i h h2, (pv_range hq _ (by omega)).1⟩
    by_cases hd : d < p.length
    · left
      rw [(lo a (by omega)).1, (lo b (by omega)).1, (lo c (by omega)).1, (lo d (by omega)).1] at h5
      exact ⟨h1, h2, h3, hd, h5⟩
    · by_cases ha : p.length ≤ a
      · right
        rw [(hi a (by omega) (by omega)).1, (hi b (by omega) (by omega)).1, (hi c (by omega) (by omega)).1, (hi d (by omega) (by omega)).1] at h5
        refine ⟨ha, by omega, by omega, by omega, by omega, ?_⟩
        unfold P4 at *; omega
      · exfalso
        have ea := lo a (by omega)
        have ed := hi d (by omega) (by omega)
        unfold P4 at h5
        by_cases hc : c < p.length
        · have ec := lo c hc
          have eb := lo b (by omega)
          omega
        · have ec := hi c (by omega) (by omega)
          by_cases hb : b < p.length
          · have eb := lo b hb
            omega
          · have eb := hi b (by omega) (by omega)
            omega
  · rintro (⟨h1, h2, h3, h4, h5⟩ | ⟨ha, h1, h2, h3, h4, h5⟩)
    · refine ⟨h1, h2, h3, by rw [L]; omega, ?_⟩
      rw [pv_lo _ _ a (by omega), pv_lo _ _ b (by omega), pv_lo _ _ c (by omega), pv_lo _ _ d (by omega)]
      exact h5
    · refine ⟨by omega, by omega, by omega, by rw [L]; omega, ?_⟩
      rw [pv_hi _ _ a (by omega) (by omega), pv_hi _ _ b (by omega) (by omega), pv_hi _ _ c (by omega) (by omega), pv_hi _ _ d (by omega) (by omega)]
      unfold P4 at *; omega

theorem loose_aside {p q : List Int} (hp : isPerm p = true) (hq : isPerm q = true) : Go.Proofs.Ytolegnmdcmfoiaa.S.looseB (p ++ raise q p.length) = (Go.Proofs.Ytolegnmdcmfoiaa.S.looseB p && Go.Proofs.Ytolegnmdcmfoiaa.S.looseB q) := by
  rw [Bool.eq_iff_iff, Bool.and_eq_true, looseB_iff, looseB_iff, looseB_iff]
  constructor
  · intro h
    refine ⟨fun a b c d hb => h a b c d ((lb_aside hp hq _ _ _ _).2 (.inl hb)), fun a b c d hb => h (a + p.length) (b + p.length) (c + p.length) (d + p.length) ((lb_aside hp hq _ _ _ _).2 (.inr ⟨by omega, ?_⟩))⟩
    simpa using hb
  · rintro ⟨h1, h2⟩ a b c d hb
    rcases (lb_aside hp hq _ _ _ _).1 hb with hb | ⟨_, hb⟩
    · exact h1 _ _ _ _ hb
    · exact h2 _ _ _ _ hb
theorem fair_aside {p q : List Int} (hp : isPerm p = true) (hq : isPerm q = true) : Go.Proofs.Ytolegnmdcmfoiaa.S.fairB (p ++ raise q p.length) = (Go.Proofs.Ytolegnmdcmfoiaa.S.fairB p && Go.Proofs.Ytolegnmdcmfoiaa.S.fairB q) := by
  rw [Bool.eq_iff_iff, Bool.and_eq_true, fairB_iff, fairB_iff, fairB_iff]
  constructor
  · intro h
    refine ⟨fun a b d hb => h a b d ((lb_aside hp hq _ _ _ _).2 (.inl hb)), fun a b d hb => h (a + p.length) (b + p.length) (d + p.length) ((lb_aside hp hq _ _ _ _).2 (.inr ⟨by omega, ?_⟩))⟩
    rw [show b + p.length + 1 - p.length = b + 1 by omega]
    simpa using hb
  · rintro ⟨h1, h2⟩ a b d hb
    rcases (lb_aside hp hq _ _ _ _).1 hb with hb | ⟨ha, hb⟩
    · exact h1 _ _ _ hb
    · have hab : a < b := by have := hb.1; omega
      rw [show b + 1 - p.length = b - p.length + 1 by omega] at hb
      exact h2 _ _ _ hb

/-! ### PermFair, PermLoose -/
theorem spec_permfair_eq (p : List Int) (hb : p.length ≤ 1048576) (k : Nat) (hk : 8000 ≤ k) (hk2 : p.length < k) : spec_PermFair.f k p = some (isPerm p && Go.Proofs.Ytolegnmdcmfoiaa.S.fairB p) := by
  unfold spec_PermFair.f
  rw [spec_permin_eq p hb k hk2, Option.bind_some]
  by_cases h : isPerm p = true
  · rw [if_pos h, spec_fair_eq p ((isPerm_iff p).1 h).2.1 k (by omega), Option.bind_some, fairS_eq, h, Bool.true_and]
  · rw [if_neg h]
    have : isPerm p = false := by simpa using h
    rw [this, Bool.false_and]
theorem spec_permloose_eq (p : List Int) (hb : p.length ≤ 1048576) (k : Nat) (hk : 8000 ≤ k) (hk2 : p.length < k) : spec_PermLoose.f k p = some (isPerm p && Go.Proofs.Ytolegnmdcmfoiaa.S.looseB p) := by
  unfold spec_PermLoose.f
  rw [spec_permin_eq p hb k hk2, Option.bind_some]
  by_cases h : isPerm p = true
  · rw [if_pos h, spec_loose_eq p ((isPerm_iff p).1 h).2.1 k (by omega), Option.bind_some, looseS_eq, h, Bool.true_and]
  · rw [if_neg h]
    have : isPerm p = false := by simpa using h
    rw [this, Bool.false_and]
theorem impl_permfair_eq (p : List Int) (k : Nat) (hk : 30 ≤ k) : impl_PermFair.f k p = some (isPerm p && Go.Proofs.Ytolegnmdcmfoiaa.S.fairB p) := by
  unfold impl_PermFair.f
  rw [impl_permin_eq p k (by omega), Option.bind_some]
  by_cases h : isPerm p = true
  · have := ((isPerm_iff p).1 h).2.1
    have e : Go.Proofs.Ytolegnmdcmfoiaa.S.impl_fair.f p = some (Go.Proofs.Ytolegnmdcmfoiaa.S.fairB p) := by unfold Go.Proofs.Ytolegnmdcmfoiaa.S.impl_fair.f; rw [if_pos (by omega)]
    rw [if_pos h, e, Option.bind_some, h, Bool.true_and]
  · rw [if_neg h]
    have : isPerm p = false := by simpa using h
    rw [this, Bool.false_and]
theorem impl_permloose_eq (p : List Int) (k : Nat) (hk : 30 ≤ k) : impl_PermLoose.f k p = some (isPerm p && Go.Proofs.Ytolegnmdcmfoiaa.S.looseB p) := by
  unfold impl_PermLoose.f
  rw [impl_permin_eq p k (by omega), Option.bind_some]
  by_cases h : isPerm p = true
  · have := ((isPerm_iff p).1 h).2.1
    have e : Go.Proofs.Ytolegnmdcmfoiaa.S.impl_loose.f p = some (Go.Proofs.Ytolegnmdcmfoiaa.S.looseB p) := by unfold Go.Proofs.Ytolegnmdcmfoiaa.S.impl_loose.f; rw [if_pos (by omega)]
    rw [if_pos h, e, Option.bind_some, h, Bool.true_and]
  · rw [if_neg h]
    have : isPerm p = false := by simpa using h
    rw [this, Bool.false_and]
theorem isPerm_reverse {p : List Int} (h : isPerm p = true) : isPerm p.reverse = true := by
  rw [isPerm_iff] at h ⊢
  refine ⟨by simpa using h.1, by simpa using h.2.1, fun i hi => ?_⟩
  rw [List.mem_reverse]
  exact h.2.2 i (by simpa using hi)

end Go.Proofs.Ytolegnmdcmfoiaa.QbL

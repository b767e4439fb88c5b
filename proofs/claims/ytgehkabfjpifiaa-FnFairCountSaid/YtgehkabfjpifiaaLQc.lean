/- What the reference counts: what the printed functions come to. -/
import Derived.Test.YtgehkabfjpifiaaQc4
import Derived.Test.YtgehkabfjpifiaaQc3
import Derived.Test.YtgehkabfjpifiaaQc2
import Derived.Test.YtgehkabfjpifiaaQc1
namespace Go.Proofs.Ytgehkabfjpifiaa.QcL
open Go.RowKit Go.Proofs.Ytgehkabfjpifiaa.Qc Go.Proofs.YtgehkabfjpifiaaW.PrintWords Go.Proofs.YtgehkabfjpifiaaW.PrintLast Go.Proofs.YtgehkabfjpifiaaW.PrintMore
open Go.Proofs.Ytgehkabfjpifiaa.S
set_option linter.unusedVariables false
set_option linter.unusedSimpArgs false

theorem w64 (x : Int) (h : -9223372036854775808 ≤ x ∧ x ≤ 9223372036854775807) : wrap64 x = x := by unfold wrap64; omega

theorem rd_getD (l : List Int) (i : Nat) : rd l (i : Int) = l.getD i 0 := by simp [rd]


/-! ### All of some places -/
def allFrom (f : Nat → Bool) : Nat → Nat → Bool
  | _, 0 => true
  | s, m + 1 => f s && allFrom f (s + 1) m
theorem allFrom_iff (f : Nat → Bool) : ∀ (m s : Nat), allFrom f s m = true ↔ ∀ i, s ≤ i → i < s + m → f i = true := by
  intro m
  induction m with
  | zero => intro s; simp only [allFrom, true_iff]; intro i h1 h2; omega
  | succ m ih =>
    intro s
    simp only [allFrom, Bool.and_eq_true, ih]
    constructor
    · rintro ⟨h1, h2⟩ i h3 h4
      by_cases e : i = s
      · rw [e]; exact h1
      · exact h2 i (by omega) (by omega)
    · intro h
      exact ⟨h s (by omega) (by omega), fun i h1 h2 => h i (by omega) (by omega)⟩
theorem wrapN (x : Int) (a : Nat) (h0 : 0 ≤ x) (h1 : x ≤ 1000000) (ha : a ≤ 10) : wrap64 (x + (a : Int)) = x + (a : Int) := by unfold wrap64; omega
theorem ite_both {α : Type} (A B : Bool) (x y : α) : (if A = true then (if B = true then x else y) else y) = if (A && B) = true then x else y := by cases A <;> cases B <;> rfl
theorem ite_some (A B : Bool) : (if A = true then some B else some false) = some (A && B) := by cases A <;> rfl

/-! ### What the reference asks for fair ones -/
def pv (p : List Int) (i : Nat) : Int := p.getD i 0
def pat (p : List Int) (a b c d : Nat) : Bool := (decide (pv p c < pv p a) && decide (pv p a < pv p d) && decide (pv p d < pv p b)) || (decide (pv p b < pv p d) && decide (pv p d < pv p a) && decide (pv p a < pv p c))

theorem fair_l2 (p : List Int) (hb : p.length ≤ 7) (j i : Nat) (hij : i < j) (m : Nat) : ∀ (kk K : Nat), kk + m = p.length → j + 1 < kk →
    spec_l6Fair.l2 (K + (m + 1)) p (j : Int) (i : Int) (kk : Int) = if allFrom (fun d => !pat p i j (j + 1) d) kk m = true then spec_l6Fair.l1 K p (j : Int) ((i + 1 : Nat) : Int) else some false := by
  induction m with
  | zero =>
    intro kk K hk hj
    simp only [Nat.zero_add, spec_l6Fair.l2, allFrom, if_true]
    rw [if_neg (by omega), w64 ((i : Int) + 1) (by omega)]
    rfl
  | succ m ih =>
    intro kk K hk hj
    have nxt := ih (kk + 1) K (by omega) (by omega)
    rw [show K + (m + 1 + 1) = (K + (m + 1)) + 1 by omega]
    generalize K + (m + 1) = K' at nxt ⊢
    simp only [spec_l6Fair.l2]
    have ew1 : wrap64 ((j : Int) + 1) = ((j + 1 : Nat) : Int) := by rw [w64 _ (by omega)]; omega
    have ew2 : wrap64 ((kk : Int) + 1) = ((kk + 1 : Nat) : Int) := by rw [w64 _ (by omega)]; omega
    rw [ew1, ew2, nxt]
    have hpos : ∀ t : Nat, (0 : Int) ≤ (t : Int) := fun t => by omega
    have hlt : ∀ t : Nat, t < p.length → (t : Int) < (p.length : Int) := fun t h => by omega
    simp only [hpos, hlt kk (by omega), hlt (j + 1) (by omega), hlt j (by omega), hlt i (by omega), if_true, rd_getD, allFrom, pat]
    generalize hG : (if allFrom (fun d => !((decide (pv p (j + 1) < pv p i) && decide (pv p i < pv p d) && decide (pv p d < pv p j)) || (decide (pv p j < pv p d) && decide (pv p d < pv p i) && decide (pv p i < pv p (j + 1))))) (kk + 1) m = true then spec_l6Fair.l1 K p (j : Int) ((i + 1 : Nat) : Int) else some false) = G
    by_cases h1 : pv p (j + 1) < pv p i <;> by_cases h2 : pv p i < pv p kk <;> by_cases h3 : pv p kk < pv p j <;> by_cases h4 : pv p j < pv p kk <;> by_cases h5 : pv p kk < pv p i <;> by_cases h6 : pv p i < pv p (j + 1)
    all_goals first
      | (exfalso; omega)
      | (unfold pv at h1 h2 h3 h4 h5 h6 hG ⊢; simp only [h1, h2, h3, h4, h5, h6, if_true, if_false, decide_true, decide_false, Bool.and_true, Bool.true_and, Bool.and_false, Bool.false_and, Bool.or_false, Bool.false_or, Bool.or_true, Bool.true_or, Bool.not_true, Bool.not_false] <;> first | exact hG | simp)

theorem fair_l1 (p : List Int) (hb : p.length ≤ 7) (j : Nat) (hj : j + 2 < p.length) (m : Nat) : ∀ i, i + m = j →
    ∃ N, N ≤ 10 * m + 1 ∧ ∀ K, spec_l6Fair.l1 (K + N) p (j : Int) (i : Int) = if allFrom (fun a => allFrom (fun d => !pat p a j (j + 1) d) (j + 2) (p.length - (j + 2))) i m = true then spec_l6Fair.l0 K p ((j + 1 : Nat) : Int) else some false := by
  induction m with
  | zero =>
    intro i hi
    refine ⟨1, by omega, fun K => ?_⟩
    simp only [spec_l6Fair.l1, allFrom, if_true]
    rw [if_neg (by omega), w64 ((j : Int) + 1) (by omega)]
    rfl
  | succ m ih =>
    intro i hi
    obtain ⟨N, hN, h⟩ := ih (i + 1) (by omega)
    refine ⟨N + (p.length - (j + 2) + 1) + 1, by omega, fun K => ?_⟩
    rw [show K + (N + (p.length - (j + 2) + 1) + 1) = ((K + N) + (p.length - (j + 2) + 1)) + 1 by omega]
    simp only [spec_l6Fair.l1]
    have ew : wrap64 ((j : Int) + 2) = ((j + 2 : Nat) : Int) := by rw [w64 _ (by omega)]; omega
    rw [if_pos (by omega), ew, fair_l2 p hb j i (by omega) (p.length - (j + 2)) (j + 2) (K + N) (by omega) (by omega), h K]
    exact ite_both _ _ _ _

def fairS (p : List Int) (j m : Nat) : Bool := allFrom (fun j => allFrom (fun a => allFrom (fun d => !pat p a j (j + 1) d) (j + 2) (p.length - (j + 2))) 0 j) j m

theorem fair_l0 (p : List Int) (hb : p.length ≤ 7) (m : Nat) : ∀ j, p.length - (j + 2) = m → j ≤ 7 →
    ∃ N, N ≤ 100 * m + 1 ∧ ∀ K, spec_l6Fair.l0 (K + N) p (j : Int) = some (fairS p j m) := by
  induction m with
  | zero =>
    intro j hj hj7
    refine ⟨1, by omega, fun K => ?_⟩
    simp only [spec_l6Fair.l0, fairS, allFrom]
    rw [w64 _ (by omega), if_neg (by omega)]
  | succ m ih =>
    intro j hj hj7
    obtain ⟨N, hN, h⟩ := ih (j + 1) (by omega) (by omega)
    obtain ⟨N1, hN1, h1⟩ := fair_l1 p hb j (by omega) j 0 (by omega)
    refine ⟨N + N1 + 1, by omega, fun K => ?_⟩
    rw [show K + (N + N1 + 1) = ((K + N) + N1) + 1 by omega]
    simp only [spec_l6Fair.l0]
    have e0 := h1 (K + N)
    have z : ((0 : Nat) : Int) = 0 := rfl
    rw [z] at e0
    rw [w64 _ (by omega), if_pos (by omega), e0, h K]
    exact ite_some _ _

theorem spec_fair_eq (p : List Int) (hb : p.length ≤ 7) (k : Nat) (hk : 2000 ≤ k) : spec_l6Fair.f k p = some (fairS p 1 (p.length - 3)) := by
  obtain ⟨N, hN, h⟩ := fair_l0 p hb (p.length - 3) 1 (by omega) (by omega)
  have := h (k - N)
  rw [show k - N + N = k by omega] at this
  exact this

/-! ### What the reference asks for loose ones -/
theorem loose_l3 (p : List Int) (hb : p.length ≤ 7) (a b c : Nat) (hab : a < b) (hbc : b < c) (m : Nat) : ∀ (d K : Nat), d + m = p.length → c < d →
    spec_l6Loose.l3 (K + (m + 1)) p (a : Int) (b : Int) (c : Int) (d : Int) = if allFrom (fun d => !pat p a b c d) d m = true then spec_l6Loose.l2 K p (a : Int) (b : Int) ((c + 1 : Nat) : Int) else some false := by
  induction m with
  | zero =>
    intro d K hd hcd
    simp only [Nat.zero_add, spec_l6Loose.l3, allFrom, if_true]
    rw [if_neg (by omega), w64 ((c : Int) + 1) (by omega)]
    rfl
  | succ m ih =>
    intro d K hd hcd
    have nxt := ih (d + 1) K (by omega) (by omega)
    rw [show K + (m + 1 + 1) = (K + (m + 1)) + 1 by omega]
    generalize K + (m + 1) = K' at nxt ⊢
    simp only [spec_l6Loose.l3]
    have ew2 : wrap64 ((d : Int) + 1) = ((d + 1 : Nat) : Int) := by rw [w64 _ (by omega)]; omega
    rw [ew2, nxt]
    have hpos : ∀ t : Nat, (0 : Int) ≤ (t : Int) := fun t => by omega
    have hlt : ∀ t : Nat, t < p.length → (t : Int) < (p.length : Int) := fun t h => by omega
    simp only [hpos, hlt d (by omega), hlt c (by omega), hlt b (by omega), hlt a (by omega), if_true, rd_getD, allFrom, pat]
    generalize hG : (if allFrom (fun d => !((decide (pv p c < pv p a) && decide (pv p a < pv p d) && decide (pv p d < pv p b)) || (decide (pv p b < pv p d) && decide (pv p d < pv p a) && decide (pv p a < pv p c)))) (d + 1) m = true then spec_l6Loose.l2 K p (a : Int) (b : Int) ((c + 1 : Nat) : Int) else some false) = G
    by_cases h1 : pv p c < pv p a <;> by_cases h2 : pv p a < pv p d <;> by_cases h3 : pv p d < pv p b <;> by_cases h4 : pv p b < pv p d <;> by_cases h5 : pv p d < pv p a <;> by_cases h6 : pv p a < pv p c
    all_goals first
      | (exfalso; omega)
      | (unfold pv at h1 h2 h3 h4 h5 h6 hG ⊢; simp only [h1, h2, h3, h4, h5, h6, if_true, if_false, decide_true, decide_false, Bool.and_true, Bool.true_and, Bool.and_false, Bool.false_and, Bool.or_false, Bool.false_or, Bool.or_true, Bool.true_or, Bool.not_true, Bool.not_false] <;> first | exact hG | simp)

theorem loose_l2 (p : List Int) (hb : p.length ≤ 7) (a b : Nat) (hab : a < b) (m : Nat) : ∀ c, c + m = p.length → b < c →
    ∃ N, N ≤ 10 * m + 1 ∧ ∀ K, spec_l6Loose.l2 (K + N) p (a : Int) (b : Int) (c : Int) = if allFrom (fun c => allFrom (fun d => !pat p a b c d) (c + 1) (p.length - (c + 1))) c m = true then spec_l6Loose.l1 K p (a : Int) ((b + 1 : Nat) : Int) else some false := by
  induction m with
  | zero =>
    intro c hc hbc
    refine ⟨1, by omega, fun K => ?_⟩
    simp only [spec_l6Loose.l2, allFrom, if_true]
    rw [if_neg (by omega), w64 ((b : Int) + 1) (by omega)]
    rfl
  | succ m ih =>
    intro c hc hbc
    obtain ⟨N, hN, h⟩ := ih (c + 1) (by omega) (by omega)
    refine ⟨N + (p.length - (c + 1) + 1) + 1, by omega, fun K => ?_⟩
    rw [show K + (N + (p.length - (c + 1) + 1) + 1) = ((K + N) + (p.length - (c + 1) + 1)) + 1 by omega]
    simp only [spec_l6Loose.l2]
    have ew : wrap64 ((c : Int) + 1) = ((c + 1 : Nat) : Int) := by rw [w64 _ (by omega)]; omega
    rw [if_pos (by omega), ew, loose_l3 p hb a b c hab hbc (p.length - (c + 1)) (c + 1) (K + N) (by omega) (by omega), h K]
    exact ite_both _ _ _ _

theorem loose_l1 (p : List Int) (hb : p.length ≤ 7) (a : Nat) (m : Nat) : ∀ b, b + m = p.length → a < b →
    ∃ N, N ≤ 100 * m + 1 ∧ ∀ K, spec_l6Loose.l1 (K + N) p (a : Int) (b : Int) = if allFrom (fun b => allFrom (fun c => allFrom (fun d => !pat p a b c d) (c + 1) (p.length - (c + 1))) (b + 1) (p.length - (b + 1))) b m = true then spec_l6Loose.l0 K p ((a + 1 : Nat) : Int) else some false := by
  induction m with
  | zero =>
    intro b hbl hab
    refine ⟨1, by omega, fun K => ?_⟩
    simp only [spec_l6Loose.l1, allFrom, if_true]
    rw [if_neg (by omega), w64 ((a : Int) + 1) (by omega)]
    rfl
  | succ m ih =>
    intro b hbl hab
    obtain ⟨N, hN, h⟩ := ih (b + 1) (by omega) (by omega)
    obtain ⟨N1, hN1, h1⟩ := loose_l2 p hb a b hab (p.length - (b + 1)) (b + 1) (by omega) (by omega)
    refine ⟨N + N1 + 1, by omega, fun K => ?_⟩
    rw [show K + (N + N1 + 1) = ((K + N) + N1) + 1 by omega]
    simp only [spec_l6Loose.l1]
    have ew : wrap64 ((b : Int) + 1) = ((b + 1 : Nat) : Int) := by rw [w64 _ (by omega)]; omega
    rw [if_pos (by omega), ew, h1 (K + N), h K]
    exact ite_both _ _ _ _

def looseS (p : List Int) (a m : Nat) : Bool := allFrom (fun a => allFrom (fun b => allFrom (fun c => allFrom (fun d => !pat p a b c d) (c + 1) (p.length - (c + 1))) (b + 1) (p.length - (b + 1))) (a + 1) (p.length - (a + 1))) a m

theorem loose_l0 (p : List Int) (hb : p.length ≤ 7) (m : Nat) : ∀ a, a + m = p.length →
    ∃ N, N ≤ 1000 * m + 1 ∧ ∀ K, spec_l6Loose.l0 (K + N) p (a : Int) = some (looseS p a m) := by
  induction m with
  | zero =>
    intro a ha
    refine ⟨1, by omega, fun K => ?_⟩
    simp only [spec_l6Loose.l0, looseS, allFrom]
    rw [if_neg (by omega)]
  | succ m ih =>
    intro a ha
    obtain ⟨N, hN, h⟩ := ih (a + 1) (by omega)
    obtain ⟨N1, hN1, h1⟩ := loose_l1 p hb a (p.length - (a + 1)) (a + 1) (by omega) (by omega)
    refine ⟨N + N1 + 1, by omega, fun K => ?_⟩
    rw [show K + (N + N1 + 1) = ((K + N) + N1) + 1 by omega]
    simp only [spec_l6Loose.l0]
    have ew : wrap64 ((a : Int) + 1) = ((a + 1 : Nat) : Int) := by rw [w64 _ (by omega)]; omega
    rw [if_pos (by omega), ew, h1 (K + N), h K]
    exact ite_some _ _

theorem spec_loose_eq (p : List Int) (hb : p.length ≤ 7) (k : Nat) (hk : 8000 ≤ k) : spec_l6Loose.f k p = some (looseS p 0 p.length) := by
  obtain ⟨N, hN, h⟩ := loose_l0 p hb p.length 0 (by omega)
  have := h (k - N)
  rw [show k - N + N = k by omega] at this
  exact this

theorem l6In_eq (a b c : Int) : spec_l6In.f a b c = some (decide (b ≤ a) && decide (a ≤ c)) := by
  unfold spec_l6In.f
  by_cases h : b ≤ a
  · rw [if_pos h]; simp [h]
  · rw [if_neg h]; simp [h]


/-! ### Permutations as lists of whole numbers -/
/-- Each number below the length is there. -/
def hasAll (l : List Int) : Bool := (List.range l.length).all fun i => decide ((i : Int) ∈ l)
def isPerm (l : List Int) : Bool := decide (1 ≤ l.length) && decide (l.length ≤ 7) && hasAll l

theorem hasAll_iff (l : List Int) : hasAll l = true ↔ ∀ i : Nat, i < l.length → (i : Int) ∈ l := by
  unfold hasAll
  rw [List.all_eq_true]
  constructor
  · intro h i hi
    have := h i (List.mem_range.2 hi)
    simpa using this
  · intro h i hi
    have := h i (List.mem_range.1 hi)
    simpa using this

theorem isPerm_iff (l : List Int) : isPerm l = true ↔ 1 ≤ l.length ∧ l.length ≤ 7 ∧ ∀ i : Nat, i < l.length → (i : Int) ∈ l := by
  unfold isPerm
  simp only [Bool.and_eq_true, decide_eq_true_eq, hasAll_iff, and_assoc]

theorem all_le (n : Nat) : ∀ l : List Int, (∀ i : Nat, i < n → (i : Int) ∈ l) → n ≤ l.length := by
  induction n with
  | zero => intro l _; omega
  | succ n ih =>
    intro l h
    have hn := h n (by omega)
    have := ih (l.erase (n : Int)) (fun i hi => (List.mem_erase_of_ne (by omega)).2 (h i (by omega)))
    rw [List.length_erase_of_mem hn] at this
    have := List.length_pos_of_mem hn
    omega

theorem perm_range {l : List Int} (h : ∀ i : Nat, i < l.length → (i : Int) ∈ l) : ∀ x ∈ l, 0 ≤ x ∧ x < l.length := by
  intro x hx
  by_cases hr : 0 ≤ x ∧ x < l.length
  · exact hr
  · exfalso
    have := all_le l.length (l.erase x) (fun i hi => (List.mem_erase_of_ne (by omega)).2 (h i hi))
    rw [List.length_erase_of_mem hx] at this
    have := List.length_pos_of_mem hx
    omega

theorem getD_mem' {l : List Int} {i : Nat} (h : i < l.length) : l.getD i 0 ∈ l := by
  rw [List.getD_eq_getElem?_getD, List.getElem?_eq_getElem h]
  exact List.getElem_mem h

theorem mem_getD {l : List Int} {x : Int} (h : x ∈ l) : ∃ i, i < l.length ∧ l.getD i 0 = x := by
  obtain ⟨i, hi, e⟩ := List.getElem_of_mem h
  exact ⟨i, hi, by rw [List.getD_eq_getElem?_getD, List.getElem?_eq_getElem hi]; exact e⟩

theorem perm_inj {l : List Int} (h : ∀ i : Nat, i < l.length → (i : Int) ∈ l) : ∀ i j : Nat, i < l.length → j < l.length → l.getD i 0 = l.getD j 0 → i = j := by
  have key : ∀ i j : Nat, i < j → j < l.length → l.getD i 0 = l.getD j 0 → False := by
    intro i j hij hj e
    -- strike place j: all numbers are still there
    have hi : i < l.length := by omega
    have hlen : (l.eraseIdx j).length = l.length - 1 := List.length_eraseIdx_of_lt hj
    have hall : ∀ m : Nat, m < l.length → (m : Int) ∈ l.eraseIdx j := by
      intro m hm
      obtain ⟨q, hq, eq⟩ := mem_getD (h m hm)
      have pick : ∀ q : Nat, q < l.length → q ≠ j → l.getD q 0 ∈ l.eraseIdx j := by
        intro q hq hne
        rw [List.getD_eq_getElem?_getD, List.getElem?_eq_getElem hq]
        rw [List.mem_eraseIdx_iff_getElem]
        exact ⟨q, hq, hne, rfl⟩
      by_cases hqj : q = j
      · subst hqj
        rw [← eq, ← e]
        exact pick i hi (by omega)
      · rw [← eq]
        exact pick q hq hqj
    have := all_le l.length (l.eraseIdx j) hall
    omega
  intro i j hi hj e
  rcases Nat.lt_trichotomy i j with hlt | heq | hgt
  · exact (key i j hlt hj e).elim
  · exact heq
  · exact (key j i hgt hi e.symm).elim

theorem ext_getD {a b : List Int} (hl : a.length = b.length) (h : ∀ i : Nat, i < a.length → a.getD i 0 = b.getD i 0) : a = b := by
  refine List.ext_getElem hl fun i h1 h2 => ?_
  have := h i h1
  rw [List.getD_eq_getElem?_getD, List.getD_eq_getElem?_getD, List.getElem?_eq_getElem h1, List.getElem?_eq_getElem h2] at this
  exact this

/-- Each number is written at its place. -/
def place : List Int → Nat → List Int → List Int
  | [], _, out => out
  | v :: r, i, out => place r (i + 1) (out.set v.toNat (i : Int))

theorem place_length (l : List Int) : ∀ (i : Nat) (out : List Int), (place l i out).length = out.length := by
  induction l with
  | nil => intro i out; rfl
  | cons v r ih => intro i out; simp [place, ih]

def inv (p : List Int) : List Int := place p 0 (List.replicate p.length 0)

theorem inv_length (p : List Int) : (inv p).length = p.length := by unfold inv; rw [place_length]; simp

theorem getD_set_eq (out : List Int) (a : Nat) (x : Int) (h : a < out.length) : (out.set a x).getD a 0 = x := by
  rw [List.getD_eq_getElem?_getD, List.getElem?_eq_getElem (by simpa using h)]
  simp

theorem getD_set_ne (out : List Int) (a b : Nat) (x : Int) (h : a ≠ b) : (out.set a x).getD b 0 = out.getD b 0 := by
  rw [List.getD_eq_getElem?_getD, List.getD_eq_getElem?_getD, List.getElem?_set_ne h]

theorem place_keep (l : List Int) : ∀ (i : Nat) (out : List Int) (b : Nat), (∀ x ∈ l, x.toNat ≠ b) → (place l i out).getD b 0 = out.getD b 0 := by
  induction l with
  | nil => intro i out b _; rfl
  | cons v r ih =>
    intro i out b h
    simp only [place]
    rw [ih (i + 1) _ b (fun x hx => h x (List.mem_cons_of_mem _ hx)), getD_set_ne _ _ _ _ (h v List.mem_cons_self)]

theorem place_at (l : List Int) : ∀ (s : Nat) (out : List Int) (i : Nat), i < l.length → (∀ x ∈ l, 0 ≤ x ∧ x.toNat < out.length) →
    (∀ i j : Nat, i < l.length → j < l.length → l.getD i 0 = l.getD j 0 → i = j) → (place l s out).getD (l.getD i 0).toNat 0 = ((s + i : Nat) : Int) := by
  induction l with
  | nil => intro s out i h; simp at h
  | cons v r ih =>
    intro s out i hi hr hinj
    simp only [place]
    cases i with
    | zero =>
      simp only [List.getD_cons_zero]
      rw [place_keep]
      · rw [getD_set_eq _ _ _ (hr v List.mem_cons_self).2]
        simp
      · intro x hx e
        obtain ⟨q, hq, eq⟩ := mem_getD hx
        have h1 := hr v List.mem_cons_self
        have h2 := hr x (List.mem_cons_of_mem _ hx)
        have : x = v := by omega
        have := hinj (q + 1) 0 (by simpa using hq) (by simp) (by simp only [List.getD_cons_succ, List.getD_cons_zero]; rw [eq, this])
        omega
    | succ i =>
      simp only [List.getD_cons_succ]
      rw [ih (s + 1) _ i (by simpa using hi) (fun x hx => by have := hr x (List.mem_cons_of_mem _ hx); simpa using this)
        (fun a b ha hb e => by have := hinj (a + 1) (b + 1) (by simpa using ha) (by simpa using hb) (by simpa using e); omega)]
      have : s + 1 + i = s + (i + 1) := by omega
      rw [this]

theorem inv_at {p : List Int} (h : ∀ i : Nat, i < p.length → (i : Int) ∈ p) (i : Nat) (hi : i < p.length) : (inv p).getD (p.getD i 0).toNat 0 = (i : Int) := by
  unfold inv
  have := place_at p 0 (List.replicate p.length 0) i hi (fun x hx => by have := perm_range h x hx; simp; omega) (perm_inj h)
  rw [Nat.zero_add] at this
  exact this

theorem inv_perm {p : List Int} (h : ∀ i : Nat, i < p.length → (i : Int) ∈ p) : ∀ i : Nat, i < (inv p).length → (i : Int) ∈ inv p := by
  intro i hi
  rw [inv_length] at hi
  rw [← inv_at h i hi]
  refine getD_mem' ?_
  rw [inv_length]
  have := perm_range h _ (getD_mem' hi)
  omega

theorem inv_back {p : List Int} (h : ∀ i : Nat, i < p.length → (i : Int) ∈ p) (v : Nat) (hv : v < p.length) : p.getD ((inv p).getD v 0).toNat 0 = (v : Int) := by
  obtain ⟨i, hi, e⟩ := mem_getD (h v hv)
  have := inv_at h i hi
  rw [e] at this
  have e2 : ((v : Int)).toNat = v := by omega
  rw [e2] at this
  rw [this]
  simpa using e

theorem inv_inv {p : List Int} (h : ∀ i : Nat, i < p.length → (i : Int) ∈ p) : inv (inv p) = p := by
  refine ext_getD (by rw [inv_length, inv_length]) fun v hv => ?_
  rw [inv_length, inv_length] at hv
  have h2 := inv_perm h
  -- q = inv p; (inv q)[q[j]] = j; take j = p[v]
  have hr := perm_range h _ (getD_mem' hv)
  have e := inv_at h2 (p.getD v 0).toNat (by rw [inv_length]; omega)
  rw [inv_at h v hv] at e
  have e2 : ((v : Int)).toNat = v := by omega
  rw [e2] at e
  rw [e]
  omega

theorem isPerm_inv {p : List Int} (h : isPerm p = true) : isPerm (inv p) = true := by
  rw [isPerm_iff] at h ⊢
  have := inv_perm h.2.2
  rw [inv_length] at this ⊢
  exact ⟨h.1, h.2.1, this⟩

/-! ### Fair and loose ones -/
def P4 (a b c d : Int) : Prop := (c < a ∧ a < d ∧ d < b) ∨ (b < d ∧ d < a ∧ a < c)
def LB (p : List Int) (a b c d : Nat) : Prop := a < b ∧ b < c ∧ c < d ∧ d < p.length ∧ P4 (pv p a) (pv p b) (pv p c) (pv p d)

theorem pat_iff (p : List Int) (a b c d : Nat) : pat p a b c d = true ↔ P4 (pv p a) (pv p b) (pv p c) (pv p d) := by
  unfold pat P4
  simp only [Bool.or_eq_true, Bool.and_eq_true, decide_eq_true_eq, and_assoc]
theorem tight_iff (a b c d : Int) : Go.Proofs.Ytgehkabfjpifiaa.S.tightB a b c d = true ↔ P4 a b c d := by
  unfold Go.Proofs.Ytgehkabfjpifiaa.S.tightB P4
  simp only [Bool.or_eq_true, Bool.and_eq_true, decide_eq_true_eq, and_assoc]
theorem unfair_iff (a b c d : Int) : Go.Proofs.Ytgehkabfjpifiaa.S.unfairB a b c d = true ↔ P4 a b c d := by
  unfold Go.Proofs.Ytgehkabfjpifiaa.S.unfairB P4 mx mn
  simp only [Bool.or_eq_true, Bool.and_eq_true, decide_eq_true_eq, and_assoc]
  constructor
  · rintro (⟨h1, h2, h3⟩ | ⟨h1, h2, h3⟩) <;> split at h1 <;> split at h2 <;> omega
  · rintro (⟨h1, h2, h3⟩ | ⟨h1, h2, h3⟩)
    · left; refine ⟨?_, ?_, h2⟩ <;> split <;> omega
    · right; refine ⟨?_, ?_, h2⟩ <;> split <;> omega

theorem fairS_iff (p : List Int) : fairS p 1 (p.length - 3) = true ↔ ∀ a b d, ¬ LB p a b (b + 1) d := by
  unfold fairS
  rw [allFrom_iff]
  constructor
  · rintro h a b d ⟨h1, h2, h3, h4, h5⟩
    have e1 := h b (by omega) (by omega)
    rw [allFrom_iff] at e1
    have e2 := e1 a (by omega) (by omega)
    rw [allFrom_iff] at e2
    have e3 := e2 d (by omega) (by omega)
    rw [(pat_iff p a b (b + 1) d).2 h5] at e3
    simp at e3
  · intro h b h1 h2
    rw [allFrom_iff]
    intro a h3 h4
    rw [allFrom_iff]
    intro d h5 h6
    have := h a b d
    cases e : pat p a b (b + 1) d
    · rfl
    · exact absurd ⟨by omega, by omega, by omega, by omega, (pat_iff p a b (b + 1) d).1 e⟩ this
theorem looseS_iff (p : List Int) : looseS p 0 p.length = true ↔ ∀ a b c d, ¬ LB p a b c d := by
  unfold looseS
  rw [allFrom_iff]
  constructor
  · rintro h a b c d ⟨h1, h2, h3, h4, h5⟩
    have e1 := h a (by omega) (by omega)
    rw [allFrom_iff] at e1
    have e2 := e1 b (by omega) (by omega)
    rw [allFrom_iff] at e2
    have e3 := e2 c (by omega) (by omega)
    rw [allFrom_iff] at e3
    have e4 := e3 d (by omega) (by omega)
    rw [(pat_iff p a b c d).2 h5] at e4
    simp at e4
  · intro h a h1 h2
    rw [allFrom_iff]
    intro b h3 h4
    rw [allFrom_iff]
    intro c h5 h6
    rw [allFrom_iff]
    intro d h7 h8
    cases e : pat p a b c d
    · rfl
    · exact absurd ⟨by omega, by omega, by omega, by omega, (pat_iff p a b c d).1 e⟩ (h a b c d)
theorem fairB_iff (p : List Int) : Go.Proofs.Ytgehkabfjpifiaa.S.fairB p = true ↔ ∀ a b d, ¬ LB p a b (b + 1) d := by
  unfold Go.Proofs.Ytgehkabfjpifiaa.S.fairB
  rw [List.all_eq_true]
  constructor
  · rintro h a b d ⟨h1, h2, h3, h4, h5⟩
    have := h (a, b, b + 1, d) ((Go.Proofs.Ytgehkabfjpifiaa.S.mem_foursL _ _ _ _ _).2 ⟨h1, h2, h3, h4⟩)
    have e := (unfair_iff _ _ _ _).2 h5
    unfold pv at e
    have hb : Go.Proofs.Ytgehkabfjpifiaa.S.badFair p (a, b, b + 1, d) = true := by show (decide (b + 1 = b + 1) && Go.Proofs.Ytgehkabfjpifiaa.S.unfairB _ _ _ _) = true; rw [e]; simp
    rw [hb] at this; cases this
  · rintro h ⟨a, b, c, d⟩ hx
    obtain ⟨h1, h2, h3, h4⟩ := (Go.Proofs.Ytgehkabfjpifiaa.S.mem_foursL _ _ _ _ _).1 hx
    cases e : Go.Proofs.Ytgehkabfjpifiaa.S.badFair p (a, b, c, d)
    · rfl
    · exfalso
      simp only [Go.Proofs.Ytgehkabfjpifiaa.S.badFair, Bool.and_eq_true, decide_eq_true_eq] at e
      obtain ⟨rfl, e⟩ := e
      exact h a b d ⟨h1, h2, h3, h4, (unfair_iff _ _ _ _).1 e⟩
theorem looseB_iff (p : List Int) : Go.Proofs.Ytgehkabfjpifiaa.S.looseB p = true ↔ ∀ a b c d, ¬ LB p a b c d := by
  unfold Go.Proofs.Ytgehkabfjpifiaa.S.looseB
  rw [List.all_eq_true]
  constructor
  · rintro h a b c d ⟨h1, h2, h3, h4, h5⟩
    have := h (a, b, c, d) ((Go.Proofs.Ytgehkabfjpifiaa.S.mem_foursL _ _ _ _ _).2 ⟨h1, h2, h3, h4⟩)
    have e := (tight_iff _ _ _ _).2 h5
    unfold pv at e
    have hb : Go.Proofs.Ytgehkabfjpifiaa.S.badLoose p (a, b, c, d) = true := e
    rw [hb] at this; cases this
  · rintro h ⟨a, b, c, d⟩ hx
    obtain ⟨h1, h2, h3, h4⟩ := (Go.Proofs.Ytgehkabfjpifiaa.S.mem_foursL _ _ _ _ _).1 hx
    cases e : Go.Proofs.Ytgehkabfjpifiaa.S.badLoose p (a, b, c, d)
    · rfl
    · exact absurd ⟨h1, h2, h3, h4, (tight_iff _ _ _ _).1 e⟩ (h a b c d)
theorem fairS_eq (p : List Int) : fairS p 1 (p.length - 3) = Go.Proofs.Ytgehkabfjpifiaa.S.fairB p := by rw [Bool.eq_iff_iff, fairS_iff, fairB_iff]
theorem looseS_eq (p : List Int) : looseS p 0 p.length = Go.Proofs.Ytgehkabfjpifiaa.S.looseB p := by rw [Bool.eq_iff_iff, looseS_iff, looseB_iff]
theorem fair_of_loose {p : List Int} (h : Go.Proofs.Ytgehkabfjpifiaa.S.looseB p = true) : Go.Proofs.Ytgehkabfjpifiaa.S.fairB p = true :=
  (fairB_iff p).2 fun a b d => (looseB_iff p).1 h a b (b + 1) d


/-! ### What the reference counts -/
def selS (lo : Bool) (x : List Int) : Bool := if lo = true then looseS x 0 x.length else fairS x 1 (x.length - 3)

theorem count_l1 (p : List Int) (hb : p.length ≤ 7) (n : Int) (lo : Bool) (c : Int) (k : Nat) (hk : k ≤ 7) (d : Nat) : ∀ (i : Nat) (used : Bool) (K : Nat), i + d = p.length →
    spec_l6Count.l1 (K + (d + 1)) p n lo c (k : Int) used (i : Int) = if (used || decide ((k : Int) ∈ p.drop i)) = true then spec_l6Count.l0 K p n lo c ((k + 1 : Nat) : Int)
      else (spec_l6Count.f K (p ++ [(k : Int)]) n lo).bind fun t => spec_l6Count.l0 K p n lo (wrap64 (c + t)) ((k + 1 : Nat) : Int) := by
  have ek : wrap64 ((k : Int) + 1) = ((k + 1 : Nat) : Int) := by rw [w64 _ (by omega)]; omega
  induction d with
  | zero =>
    intro i used K hi
    obtain rfl : i = p.length := by omega
    simp only [Nat.zero_add, spec_l6Count.l1]
    rw [if_neg (by omega), ek, List.drop_length]
    simp only [List.not_mem_nil, decide_false, Bool.or_false, Option.bind_some, List.nil_append, List.length_nil]
    by_cases hu : used = true
    · rw [if_pos hu, if_pos hu]
    · rw [if_neg hu, if_neg hu, if_pos (by omega), if_pos (by omega)]
  | succ d ih =>
    intro i used K hi
    have hlt : i < p.length := by omega
    have nxt := fun u => ih (i + 1) u K (by omega)
    rw [show K + (d + 1 + 1) = (K + (d + 1)) + 1 by omega]
    generalize K + (d + 1) = K' at nxt ⊢
    simp only [spec_l6Count.l1]
    have ei : wrap64 ((i : Int) + 1) = ((i + 1 : Nat) : Int) := by rw [w64 _ (by omega)]; omega
    have ea : p.drop i = p.getD i 0 :: p.drop (i + 1) := by
      rw [List.drop_eq_getElem_cons hlt, List.getD_eq_getElem?_getD, List.getElem?_eq_getElem hlt]; rfl
    rw [if_pos (by omega), ei, nxt, nxt, rd_getD, ea]
    cases used
    · rw [if_neg (by simp), if_pos (by omega)]
      have : ((p.getD i 0 == (k : Int)) || decide ((k : Int) ∈ p.drop (i + 1))) = (false || decide ((k : Int) ∈ p.getD i 0 :: p.drop (i + 1))) := by
        rw [Bool.eq_iff_iff]
        simp only [Bool.or_eq_true, beq_iff_eq, decide_eq_true_eq, List.mem_cons, Bool.false_eq_true, false_or]
        constructor
        · rintro (h | h)
          · exact .inl h.symm
          · exact .inr h
        · rintro (h | h)
          · exact .inl h.symm
          · exact .inr h
      rw [this]
    · rw [if_pos rfl]
      rfl

theorem count_l0 (n : Nat) (hn : n ≤ 7) (lo : Bool) (m : Nat) (p : List Int) (hp : p.length + (m + 1) = n)
    (hf : ∀ q : List Int, q.length + m = n → ∀ K, 8001 + 200 * m ≤ K → spec_l6Count.f K q n lo = some (((permsF n m q).countP (selS lo) : Nat) : Int)) (j : Nat) :
    ∀ (k : Nat) (c : Nat) (K : Nat), k + j = n → c + (kids (permsF n m) p k j).countP (selS lo) ≤ 1000000 → 8001 + 200 * m + 10 * j + 1 ≤ K →
    spec_l6Count.l0 K p n lo (c : Int) (k : Int) = some (((c + (kids (permsF n m) p k j).countP (selS lo) : Nat)) : Int) := by
  induction j with
  | zero =>
    intro k c K hk hc hK
    obtain ⟨K, rfl⟩ : ∃ m, K = m + 1 := ⟨K - 1, by omega⟩
    simp only [spec_l6Count.l0, kids]
    rw [if_neg (by omega)]
    simp
  | succ j ih =>
    intro k c K hk hc hK
    obtain ⟨K, rfl⟩ : ∃ q, K = (q + (p.length + 1)) + 1 := ⟨K - p.length - 2, by omega⟩
    simp only [spec_l6Count.l0]
    have z : ((0 : Nat) : Int) = 0 := rfl
    have e0 := count_l1 p (by omega) n lo c k (by omega) p.length 0 false K (by omega)
    rw [z] at e0
    rw [if_pos (by omega), e0, List.drop_zero]
    simp only [kids, List.countP_append] at hc ⊢
    by_cases hin : (k : Int) ∈ p
    · rw [if_pos (by simp [hin])]
      simp only [if_pos hin, List.countP_nil, Nat.zero_add] at hc ⊢
      exact ih (k + 1) c K (by omega) hc (by omega)
    · rw [if_neg (by simp [hin])]
      simp only [if_neg hin] at hc ⊢
      rw [hf (p ++ [(k : Int)]) (by simp; omega) K (by omega), Option.bind_some, w64 _ (by omega)]
      have := ih (k + 1) (c + (permsF n m (p ++ [(k : Int)])).countP (selS lo)) K (by omega) (by omega) (by omega)
      rw [← Int.natCast_add, this]
      congr 2
      omega

theorem count_f (n : Nat) (hn : n ≤ 7) (lo : Bool) (m : Nat) : ∀ q : List Int, q.length + m = n → ∀ K, 8001 + 200 * m ≤ K → spec_l6Count.f K q n lo = some (((permsF n m q).countP (selS lo) : Nat) : Int) := by
  induction m with
  | zero =>
    intro q hq K hK
    obtain ⟨K, rfl⟩ : ∃ m, K = m + 1 := ⟨K - 1, by omega⟩
    simp only [spec_l6Count.f, permsF]
    rw [if_pos (by omega)]
    cases lo
    · rw [if_neg (by simp), spec_fair_eq q (by omega) K (by omega), Option.bind_some]
      simp only [List.countP_cons, List.countP_nil, selS, Bool.false_eq_true, if_false]
      cases fairS q 1 (q.length - 3) <;> rfl
    · rw [if_pos rfl]
      by_cases hK8 : 8000 ≤ K
      · rw [spec_loose_eq q (by omega) K hK8, Option.bind_some]
        simp only [List.countP_cons, List.countP_nil, selS, if_true]
        cases looseS q 0 q.length <;> rfl
      · exfalso; omega
  | succ m ih =>
    intro q hq K hK
    obtain ⟨K, rfl⟩ : ∃ m, K = m + 1 := ⟨K - 1, by omega⟩
    simp only [spec_l6Count.f]
    rw [if_neg (by omega)]
    have hc := permsF_many n (m + 1) q
    have h2 : n ^ (m + 1) ≤ 7 ^ 7 := Nat.le_trans (Nat.pow_le_pow_left hn _) (Nat.pow_le_pow_right (by omega) (by omega))
    have h3 : (7 : Nat) ^ 7 = 823543 := by decide
    have h4 := List.countP_le_length (p := selS lo) (l := permsF n (m + 1) q)
    simp only [permsF] at hc h4 ⊢
    have := count_l0 n hn lo m q (by omega) ih n 0 0 K (by omega) (by omega) (by omega)
    simpa using this

/-! ### Both count the same -/
theorem countP_ext (f g : List Int → Bool) (h : ∀ x, f x = g x) (l : List (List Int)) : l.countP f = l.countP g := by
  rw [show f = g from funext h]
def cntS (lo : Bool) (n : Int) : Int × Bool := if 1 ≤ n ∧ n ≤ 7 then ((((permsF n.toNat n.toNat []).countP (selS lo) : Nat) : Int), true) else (0, false)
theorem spec_count_eq (n : Int) (lo : Bool) (h : 1 ≤ n ∧ n ≤ 7) (k : Nat) (hk : 20000 ≤ k) : spec_l6Count.f k [] n lo = some (cntS lo n).1 := by
  obtain ⟨m, rfl⟩ := Int.eq_ofNat_of_zero_le (show 0 ≤ n by omega)
  unfold cntS
  rw [if_pos h]
  exact count_f m (by omega) lo m [] (by simp) k (by omega)
theorem spec_faircount_eq (n : Int) (k : Nat) (hk : 20000 ≤ k) : spec_PermFairCount.f k n = some (Go.Proofs.Ytgehkabfjpifiaa.S.cnt Go.Proofs.Ytgehkabfjpifiaa.S.fairB n) := by
  unfold spec_PermFairCount.f
  rw [l6In_eq, Option.bind_some]
  by_cases h : 1 ≤ n ∧ n ≤ 7
  · rw [if_pos (by simp; omega), spec_count_eq n false h k hk, Option.bind_some]
    unfold cntS Go.Proofs.Ytgehkabfjpifiaa.S.cnt
    rw [if_pos h, if_pos h, countP_ext (selS false) Go.Proofs.Ytgehkabfjpifiaa.S.fairB (fun x => by unfold selS; rw [if_neg (by simp)]; exact fairS_eq x)]
  · rw [if_neg (by simp; omega)]
    unfold Go.Proofs.Ytgehkabfjpifiaa.S.cnt
    rw [if_neg h]
theorem spec_loosecount_eq (n : Int) (k : Nat) (hk : 20000 ≤ k) : spec_PermLooseCount.f k n = some (Go.Proofs.Ytgehkabfjpifiaa.S.cnt Go.Proofs.Ytgehkabfjpifiaa.S.looseB n) := by
  unfold spec_PermLooseCount.f
  rw [l6In_eq, Option.bind_some]
  by_cases h : 1 ≤ n ∧ n ≤ 7
  · rw [if_pos (by simp; omega), spec_count_eq n true h k hk, Option.bind_some]
    unfold cntS Go.Proofs.Ytgehkabfjpifiaa.S.cnt
    rw [if_pos h, if_pos h, countP_ext (selS true) Go.Proofs.Ytgehkabfjpifiaa.S.looseB (fun x => by unfold selS; rw [if_pos rfl]; exact looseS_eq x)]
  · rw [if_neg (by simp; omega)]
    unfold Go.Proofs.Ytgehkabfjpifiaa.S.cnt
    rw [if_neg h]

end Go.Proofs.Ytgehkabfjpifiaa.QcL

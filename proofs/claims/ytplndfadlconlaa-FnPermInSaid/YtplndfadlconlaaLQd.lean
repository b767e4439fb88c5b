/- Permutations in order: what the printed functions come to. -/
import Derived.Test.YtplndfadlconlaaQd2
import Derived.Test.YtplndfadlconlaaQd1
import Derived.Test.YtplndfadlconlaaSorted
import Derived.Test.YtplndfadlconlaaLQr
namespace Go.Proofs.Ytplndfadlconlaa.QdL
open Go.RowKit Go.Proofs.Ytplndfadlconlaa.Qd Go.Proofs.YtplndfadlconlaaW.PrintWords Go.Proofs.YtplndfadlconlaaW.PrintLast Go.Proofs.YtplndfadlconlaaW.PrintMore
open Go.Proofs.Ytplndfadlconlaa.S
set_option linter.unusedVariables false
set_option linter.unusedSimpArgs false

theorem w64 (x : Int) (h : -9223372036854775808 ≤ x ∧ x ≤ 9223372036854775807) : wrap64 x = x := by unfold wrap64; omega

theorem rd_getD (l : List Int) (i : Nat) : rd l (i : Int) = l.getD i 0 := by simp [rd]


theorem l6In_eq (a b c : Int) : spec_l6In.f a b c = some (decide (b ≤ a) && decide (a ≤ c)) := by
  unfold spec_l6In.f
  by_cases h : b ≤ a
  · rw [if_pos h]; simp [h]
  · rw [if_neg h]; simp [h]


/-! ### Permutations as lists of whole numbers -/
/-- Each number below the length is there. -/
def hasAll (l : List Int) : Bool := (List.range l.length).all fun i => decide ((i : Int) ∈ l)
def isPerm (l : List Int) : Bool := decide (1 ≤ l.length) && decide (l.length ≤ 7) && hasAll l

theorem hasAll_iff (l : List Int) : hasAll l = true ↔ ∀ i : Nat, i < l.length → (i : Int) ∈ l := by
  unfold hasAll
  rw [List.all_eq_true]
  constructor
  · intro h i hi
    have := h i (List.mem_range.2 hi)
    simpa using this
  · intro h i hi
    have := h i (List.mem_range.1 hi)
    simpa using this

theorem isPerm_iff (l : List Int) : isPerm l = true ↔ 1 ≤ l.length ∧ l.length ≤ 7 ∧ ∀ i : Nat, i < l.length → (i : Int) ∈ l := by
  unfold isPerm
  simp only [Bool.and_eq_true, decide_eq_true_eq, hasAll_iff, and_assoc]

theorem all_le (n : Nat) : ∀ l : List Int, (∀ i : Nat, i < n → (i : Int) ∈ l) → n ≤ l.length := by
  induction n with
  | zero => intro l _; omega
  | succ n ih =>
    intro l h
    have hn := h n (by omega)
    have := ih (l.erase (n : Int)) (fun i hi => (List.mem_erase_of_ne (by omega)).2 (h i (by omega)))
    rw [List.length_erase_of_mem hn] at this
    have := List.length_pos_of_mem hn
    omega

theorem perm_range {l : List Int} (h : ∀ i : Nat, i < l.length → (i : Int) ∈ l) : ∀ x ∈ l, 0 ≤ x ∧ x < l.length := by
  intro x hx
  by_cases hr : 0 ≤ x ∧ x < l.length
  · exact hr
  · exfalso
    have := all_le l.length (l.erase x) (fun i hi => (List.mem_erase_of_ne (by omega)).2 (h i hi))
    rw [List.length_erase_of_mem hx] at this
    have := List.length_pos_of_mem hx
    omega

theorem getD_mem' {l : List Int} {i : Nat} (h : i < l.length) : l.getD i 0 ∈ l := by
  rw [List.getD_eq_getElem?_getD, List.getElem?_eq_getElem h]
  exact List.getElem_mem h

theorem mem_getD {l : List Int} {x : Int} (h : x ∈ l) : ∃ i, i < l.length ∧ l.getD i 0 = x := by
  obtain ⟨i, hi, e⟩ := List.getElem_of_mem h
  exact ⟨i, hi, by rw [List.getD_eq_getElem?_getD, List.getElem?_eq_getElem hi]; exact e⟩

theorem perm_inj {l : List Int} (h : ∀ i : Nat, i < l.length → (i : Int) ∈ l) : ∀ i j : Nat, i < l.length → j < l.length → l.getD i 0 = l.getD j 0 → i = j := by
  have key : ∀ i j : Nat, i < j → j < l.length → l.getD i 0 = l.getD j 0 → False := by
    intro i j hij hj e
    -- strike place j: all numbers are still there
    have hi : i < l.length := by omega
    have hlen : (l.eraseIdx j).length = l.length - 1 := List.length_eraseIdx_of_lt hj
    have hall : ∀ m : Nat, m < l.length → (m : Int) ∈ l.eraseIdx j := by
      intro m hm
      obtain ⟨q, hq, eq⟩ := mem_getD (h m hm)
      have pick : ∀ q : Nat, q < l.length → q ≠ j → l.getD q 0 ∈ l.eraseIdx j := by
        intro q hq hne
        rw [List.getD_eq_getElem?_getD, List.getElem?_eq_getElem hq]
        rw [List.mem_eraseIdx_iff_getElem]
        exact ⟨q, hq, hne, rfl⟩
      by_cases hqj : q = j
      · subst hqj
        rw [← eq, ← e]
        exact pick i hi (by omega)
      · rw [← eq]
        exact pick q hq hqj
    have := all_le l.length (l.eraseIdx j) hall
    omega
  intro i j hi hj e
  rcases Nat.lt_trichotomy i j with hlt | heq | hgt
  · exact (key i j hlt hj e).elim
  · exact heq
  · exact (key j i hgt hi e.symm).elim

theorem ext_getD {a b : List Int} (hl : a.length = b.length) (h : ∀ i : Nat, i < a.length → a.getD i 0 = b.getD i 0) : a = b := by
  refine List.ext_getElem hl fun i h1 h2 => ?_
  have := h i h1
  rw [List.getD_eq_getElem?_getD, List.getD_eq_getElem?_getD, List.getElem?_eq_getElem h1, List.getElem?_eq_getElem h2] at this
  exact this

/-- Each number is written at its place. -/
def place : List Int → Nat → List Int → List Int
  | [], _, out => out
  | v :: r, i, out => place r (i + 1) (out.set v.toNat (i : Int))

theorem place_length (l : List Int) : ∀ (i : Nat) (out : List Int), (place l i out).length = out.length := by
  induction l with
  | nil => intro i out; rfl
  | cons v r ih => intro i out; simp [place, ih]

def inv (p : List Int) : List Int := place p 0 (List.replicate p.length 0)

theorem inv_length (p : List Int) : (inv p).length = p.length := by unfold inv; rw [place_length]; simp

theorem getD_set_eq (out : List Int) (a : Nat) (x : Int) (h : a < out.length) : (out.set a x).getD a 0 = x := by
  rw [List.getD_eq_getElem?_getD, List.getElem?_eq_getElem (by simpa using h)]
  simp

theorem getD_set_ne (out : List Int) (a b : Nat) (x : Int) (h : a ≠ b) : (out.set a x).getD b 0 = out.getD b 0 := by
  rw [List.getD_eq_getElem?_getD, List.getD_eq_getElem?_getD, List.getElem?_set_ne h]

theorem place_keep (l : List Int) : ∀ (i : Nat) (out : List Int) (b : Nat), (∀ x ∈ l, x.toNat ≠ b) → (place l i out).getD b 0 = out.getD b 0 := by
  induction l with
  | nil => intro i out b _; rfl
  | cons v r ih =>
    intro i out b h
    simp only [place]
    rw [ih (i + 1) _ b (fun x hx => h x (List.mem_cons_of_mem _ hx)), getD_set_ne _ _ _ _ (h v List.mem_cons_self)]

theorem place_at (l : List Int) : ∀ (s : Nat) (out : List Int) (i : Nat), i < l.length → (∀ x ∈ l, 0 ≤ x ∧ x.toNat < out.length) →
    (∀ i j : Nat, i < l.length → j < l.length → l.getD i 0 = l.getD j 0 → i = j) → (place l s out).getD (l.getD i 0).toNat 0 = ((s + i : Nat) : Int) := by
  induction l with
  | nil => intro s out i h; simp at h
  | cons v r ih =>
    intro s out i hi hr hinj
    simp only [place]
    cases i with
    | zero =>
      simp only [List.getD_cons_zero]
      rw [place_keep]
      · rw [getD_set_eq _ _ _ (hr v List.mem_cons_self).2]
        simp
      · intro x hx e
        obtain ⟨q, hq, eq⟩ := mem_getD hx
        have h1 := hr v List.mem_cons_self
        have h2 := hr x (List.mem_cons_of_mem _ hx)
        have : x = v := by omega
        have := hinj (q + 1) 0 (by simpa using hq) (by simp) (by simp only [List.getD_cons_succ, List.getD_cons_zero]; rw [eq, this])
        omega
    | succ i =>
      simp only [List.getD_cons_succ]
      rw [ih (s + 1) _ i (by simpa using hi) (fun x hx => by have := hr x (List.mem_cons_of_mem _ hx); simpa using this)
        (fun a b ha hb e => by have := hinj (a + 1) (b + 1) (by simpa using ha) (by simpa using hb) (by simpa using e); omega)]
      have : s + 1 + i = s + (i + 1) := by omega
      rw [this]

theorem inv_at {p : List Int} (h : ∀ i : Nat, i < p.length → (i : Int) ∈ p) (i : Nat) (hi : i < p.length) : (inv p).getD (p.getD i 0).toNat 0 = (i : Int) := by
  unfold inv
  have := place_at p 0 (List.replicate p.length 0) i hi (fun x hx => by have := perm_range h x hx; simp; omega) (perm_inj h)
  rw [Nat.zero_add] at this
  exact this

theorem inv_perm {p : List Int} (h : ∀ i : Nat, i < p.length → (i : Int) ∈ p) : ∀ i : Nat, i < (inv p).length → (i : Int) ∈ inv p := by
  intro i hi
  rw [inv_length] at hi
  rw [← inv_at h i hi]
  refine getD_mem' ?_
  rw [inv_length]
  have := perm_range h _ (getD_mem' hi)
  omega

theorem inv_back {p : List Int} (h : ∀ i : Nat, i < p.length → (i : Int) ∈ p) (v : Nat) (hv : v < p.length) : p.getD ((inv p).getD v 0).toNat 0 = (v : Int) := by
  obtain ⟨i, hi, e⟩ := mem_getD (h v hv)
  have := inv_at h i hi
  rw [e] at this
  have e2 : ((v : Int)).toNat = v := by omega
  rw [e2] at this
  rw [this]
  simpa using e

theorem inv_inv {p : List Int} (h : ∀ i : Nat, i < p.length → (i : Int) ∈ p) : inv (inv p) = p := by
  refine ext_getD (by rw [inv_length, inv_length]) fun v hv => ?_
  rw [inv_length, inv_length] at hv
  have h2 := inv_perm h
  -- q = inv p; (inv q)[q[j]] = j; take j = p[v]
  have hr := perm_range h _ (getD_mem' hv)
  have e := inv_at h2 (p.getD v 0).toNat (by rw [inv_length]; omega)
  rw [inv_at h v hv] at e
  have e2 : ((v : Int)).toNat = v := by omega
  rw [e2] at e
  rw [e]
  omega

theorem isPerm_inv {p : List Int} (h : isPerm p = true) : isPerm (inv p) = true := by
  rw [isPerm_iff] at h ⊢
  have := inv_perm h.2.2
  rw [inv_length] at this ⊢
  exact ⟨h.1, h.2.1, this⟩

/-! ### PermIn -/
theorem index_l0 (l : List Int) (x : Int) (hb : l.length ≤ 140737488351232) (d : Nat) : ∀ (k i : Nat), i ≤ l.length → l.length - i = d → d < k →
    ∃ r, slices_Index_int_int.l0 k l x l.length (i : Int) = some r ∧ (0 ≤ r ↔ x ∈ l.drop i) := by
  induction d with
  | zero =>
    intro k i hi hd hk
    obtain ⟨k, rfl⟩ : ∃ m, k = m + 1 := ⟨k - 1, by omega⟩
    obtain rfl : i = l.length := by omega
    simp only [slices_Index_int_int.l0]
    rw [if_neg (by omega)]
    exact ⟨-1, rfl, by simp⟩
  | succ d ih =>
    intro k i hi hd hk
    obtain ⟨k, rfl⟩ : ∃ m, k = m + 1 := ⟨k - 1, by omega⟩
    have hlt : i < l.length := by omega
    simp only [slices_Index_int_int.l0]
    rw [if_pos (by omega), if_pos (by omega), if_pos (by omega), w64 _ (by omega), rd_getD]
    have ea : l.drop i = l.getD i 0 :: l.drop (i + 1) := by
      rw [List.drop_eq_getElem_cons hlt, List.getD_eq_getElem?_getD, List.getElem?_eq_getElem hlt]; rfl
    rw [ea]
    by_cases h : x = l.getD i 0
    · rw [if_pos h]
      exact ⟨(i : Int), rfl, by constructor <;> intro _ <;> first | omega | (rw [h]; exact List.mem_cons_self)⟩
    · rw [if_neg h]
      have e : ((i : Int) + 1) = ((i + 1 : Nat) : Int) := by omega
      rw [e]
      obtain ⟨r, hr, hx⟩ := ih k (i + 1) (by omega) (by omega) (by omega)
      refine ⟨r, hr, hx.trans ?_⟩
      rw [List.mem_cons]
      exact ⟨.inr, fun q => q.resolve_left h⟩

theorem contains_eq (l : List Int) (x : Int) (hb : l.length ≤ 140737488351232) (k : Nat) (hk : l.length < k) : slices_Contains_int_int.f k l x = some (decide (x ∈ l)) := by
  unfold slices_Contains_int_int.f slices_Index_int_int.f
  obtain ⟨r, hr, hx⟩ := index_l0 l x hb l.length k 0 (by omega) (by omega) hk
  have z : ((0 : Nat) : Int) = 0 := rfl
  rw [z] at hr
  rw [hr, Option.bind_some]
  congr 1
  rw [List.drop_zero] at hx
  exact decide_eq_decide.2 hx

theorem impl_permin_l0 (l : List Int) (hb : l.length ≤ 7) (d : Nat) : ∀ (k i : Nat), i ≤ l.length → l.length - i = d → d + 8 < k →
    impl_PermIn.l0 k l l.length (i : Int) = some ((List.range' i d).all fun j => decide ((j : Int) ∈ l)) := by
  induction d with
  | zero =>
    intro k i hi hd hk
    obtain ⟨k, rfl⟩ : ∃ m, k = m + 1 := ⟨k - 1, by omega⟩
    simp only [impl_PermIn.l0]
    rw [if_neg (by omega)]
    simp
  | succ d ih =>
    intro k i hi hd hk
    obtain ⟨k, rfl⟩ : ∃ m, k = m + 1 := ⟨k - 1, by omega⟩
    simp only [impl_PermIn.l0]
    rw [if_pos (by omega), contains_eq l _ (by omega) k (by omega), w64 _ (by omega)]
    simp only [Option.bind_some]
    have e : ((i : Int) + 1) = ((i + 1 : Nat) : Int) := by omega
    rw [e, ih k (i + 1) (by omega) (by omega) (by omega), List.range'_succ, List.all_cons]
    by_cases h : (i : Int) ∈ l
    · rw [if_pos (decide_eq_true h)]; simp [h]
    · rw [if_neg (by simp [h])]; simp [h]

theorem impl_permin_eq (l : List Int) (k : Nat) (hk : 20 ≤ k) : impl_PermIn.f k l = some (isPerm l) := by
  obtain ⟨k, rfl⟩ : ∃ m, k = m + 1 := ⟨k - 1, by omega⟩
  unfold impl_PermIn.f isPerm hasAll
  by_cases h1 : (l.length : Int) < 1
  · rw [if_pos h1]
    have : ¬ (1 ≤ l.length) := by omega
    simp only [impl_PermIn.j0, if_true]
    simp [this]
  · rw [if_neg h1]
    by_cases h7 : (l.length : Int) > 7
    · have : ¬ (l.length ≤ 7) := by omega
      simp only [impl_PermIn.j0]
      rw [if_pos (decide_eq_true h7)]
      simp [this]
    · have e1 : 1 ≤ l.length := by omega
      have e7 : l.length ≤ 7 := by omega
      simp only [impl_PermIn.j0]
      rw [if_neg (by simpa using h7)]
      have := impl_permin_l0 l e7 l.length k 0 (by omega) (by omega) (by omega)
      have z : ((0 : Nat) : Int) = 0 := rfl
      rw [z] at this
      rw [this, List.range_eq_range']
      simp only [decide_eq_true e1, decide_eq_true e7, Bool.true_and]

theorem or_nat (a b : Nat) (ha : a < 128) (hb : b < 128) : Go.bits .or .i64 (a : Int) (b : Int) = ((a ||| b : Nat) : Int) := by
  have hx : a ||| b < 2 ^ 7 := Nat.or_lt_two_pow (by omega) (by omega)
  have h1 : (BitVec.ofInt 64 (a : Int)).toNat = a := by
    rw [BitVec.ofInt_natCast, BitVec.toNat_ofNat]; exact Nat.mod_eq_of_lt (by omega)
  have h2 : (BitVec.ofInt 64 (b : Int)).toNat = b := by
    rw [BitVec.ofInt_natCast, BitVec.toNat_ofNat]; exact Nat.mod_eq_of_lt (by omega)
  show IntKind.i64.wrap ((BitVec.ofInt 64 (a : Int) ||| BitVec.ofInt 64 (b : Int)).toNat : Int) = _
  rw [BitVec.toNat_or, h1, h2]
  simp only [IntKind.wrap, IntKind.bits, IntKind.signed]
  simp
  omega

theorem shl_one (v : Nat) (hv : v ≤ 7) : shl .i64 1 (v : Int) = ((2 ^ v : Nat) : Int) := by
  have : v = 0 ∨ v = 1 ∨ v = 2 ∨ v = 3 ∨ v = 4 ∨ v = 5 ∨ v = 6 ∨ v = 7 := by omega
  rcases this with rfl | rfl | rfl | rfl | rfl | rfl | rfl | rfl <;> decide

/-- The set of the numbers of a list, as bits. -/
def bitsOf : List Int → Nat → Nat
  | [], s => s
  | v :: r, s => bitsOf r (s ||| 2 ^ v.toNat)

theorem bitsOf_lt (n : Nat) (l : List Int) : ∀ s : Nat, s < 2 ^ n → (∀ x ∈ l, x.toNat < n) → bitsOf l s < 2 ^ n := by
  induction l with
  | nil => intro s hs _; exact hs
  | cons v r ih =>
    intro s hs h
    exact ih _ (Nat.or_lt_two_pow hs (Nat.pow_lt_pow_of_lt (by omega) (h v List.mem_cons_self))) (fun x hx => h x (List.mem_cons_of_mem _ hx))

theorem bitsOf_test (l : List Int) : ∀ (s i : Nat), (bitsOf l s).testBit i = (s.testBit i || l.any fun x => decide (x.toNat = i)) := by
  induction l with
  | nil => intro s i; simp [bitsOf]
  | cons v r ih =>
    intro s i
    simp only [bitsOf, ih, Nat.testBit_or, Nat.testBit_two_pow, List.any_cons, Bool.or_assoc]

theorem bitsOf_all (l : List Int) (n : Nat) (h : ∀ x ∈ l, 0 ≤ x ∧ x < n) : bitsOf l 0 = 2 ^ n - 1 ↔ ∀ i : Nat, i < n → (i : Int) ∈ l := by
  constructor
  · intro e i hi
    have t := bitsOf_test l 0 i
    rw [e, Nat.testBit_two_pow_sub_one] at t
    simp only [Nat.zero_testBit, Bool.false_or, decide_eq_true hi] at t
    have t := t.symm
    rw [List.any_eq_true] at t
    obtain ⟨x, hx, ex⟩ := t
    have := h x hx
    have ex := of_decide_eq_true ex
    have : x = (i : Int) := by omega
    rw [← this]; exact hx
  · intro hall
    refine Nat.eq_of_testBit_eq fun i => ?_
    rw [bitsOf_test, Nat.testBit_two_pow_sub_one]
    simp only [Nat.zero_testBit, Bool.false_or]
    rw [Bool.eq_iff_iff, List.any_eq_true, decide_eq_true_iff]
    constructor
    · rintro ⟨x, hx, ex⟩
      have := h x hx
      have ex := of_decide_eq_true ex
      omega
    · intro hi
      exact ⟨(i : Int), hall i hi, decide_eq_true (by omega)⟩

/-- Over long lists the answer is no, whatever has been gathered. -/
theorem spec_permin_long (l : List Int) (hb : l.length ≤ 1048576) (h7 : 7 < l.length ∨ l.length = 0) (d : Nat) : ∀ (k i : Nat) (s : Int), i ≤ l.length → l.length - i = d → d < k →
    spec_PermIn.l0 k l s (i : Int) = some false := by
  induction d with
  | zero =>
    intro k i s hi hd hk
    obtain ⟨k, rfl⟩ : ∃ m, k = m + 1 := ⟨k - 1, by omega⟩
    simp only [spec_PermIn.l0]
    rw [if_neg (by omega), l6In_eq]
    simp only [Option.bind_some]
    rw [if_neg (by simp; omega)]
  | succ d ih =>
    intro k i s hi hd hk
    obtain ⟨k, rfl⟩ : ∃ m, k = m + 1 := ⟨k - 1, by omega⟩
    simp only [spec_PermIn.l0]
    rw [if_pos (by omega), if_pos (by omega), l6In_eq]
    simp only [Option.bind_some]
    generalize rd l (i : Int) = x
    by_cases h : (decide (0 ≤ x) && decide (x ≤ wrap64 ((l.length : Int) - 1))) = true
    · rw [if_pos h]
      simp only [Bool.and_eq_true, decide_eq_true_eq] at h
      have e : ((i : Int) + 1) = ((i + 1 : Nat) : Int) := by omega
      rw [if_pos h.1, w64 ((i : Int) + 1) (by omega), e]
      exact ih k (i + 1) _ (by omega) (by omega) (by omega)
    · rw [if_neg h]

theorem spec_permin_short (l : List Int) (h1 : 1 ≤ l.length) (h7 : l.length ≤ 7) (d : Nat) : ∀ (k i s : Nat), i ≤ l.length → l.length - i = d → d < k → s < 2 ^ l.length →
    spec_PermIn.l0 k l (s : Int) (i : Int) = some (((l.drop i).all fun x => decide (0 ≤ x) && decide (x < l.length)) && (bitsOf (l.drop i) s == 2 ^ l.length - 1)) := by
  have hp : 2 ^ l.length ≤ 128 := Nat.pow_le_pow_right (n := 2) (by omega) h7
  have hp1 : 1 ≤ 2 ^ l.length := Nat.one_le_two_pow
  induction d with
  | zero =>
    intro k i s hi hd hk hs
    obtain ⟨k, rfl⟩ : ∃ m, k = m + 1 := ⟨k - 1, by omega⟩
    obtain rfl : i = l.length := by omega
    simp only [spec_PermIn.l0]
    rw [if_neg (by omega), l6In_eq]
    simp only [Option.bind_some]
    rw [if_pos (by simp; omega), shl_one _ h7, w64 _ (by omega), List.drop_length]
    simp only [bitsOf, List.all_nil, Bool.true_and]
    congr 1
    rw [Bool.eq_iff_iff, beq_iff_eq, beq_iff_eq]
    omega
  | succ d ih =>
    intro k i s hi hd hk hs
    obtain ⟨k, rfl⟩ : ∃ m, k = m + 1 := ⟨k - 1, by omega⟩
    have hlt : i < l.length := by omega
    simp only [spec_PermIn.l0]
    rw [if_pos (by omega), if_pos (by omega), l6In_eq, rd_getD, w64 ((l.length : Int) - 1) (by omega)]
    simp only [Option.bind_some]
    have ea : l.drop i = l.getD i 0 :: l.drop (i + 1) := by
      rw [List.drop_eq_getElem_cons hlt, List.getD_eq_getElem?_getD, List.getElem?_eq_getElem hlt]; rfl
    rw [ea]
    generalize l.getD i 0 = x
    simp only [List.all_cons, bitsOf]
    by_cases h : 0 ≤ x ∧ x < l.length
    · rw [if_pos (by simp; omega), if_pos h.1]
      obtain ⟨v, rfl⟩ := Int.eq_ofNat_of_zero_le h.1
      have hv : v < l.length := by omega
      have h2v : 2 ^ v < 2 ^ l.length := Nat.pow_lt_pow_of_lt (by omega) hv
      have e : ((i : Int) + 1) = ((i + 1 : Nat) : Int) := by omega
      rw [shl_one v (by omega), or_nat s (2 ^ v) (by omega) (by omega), w64 ((i : Int) + 1) (by omega), e,
        ih k (i + 1) _ (by omega) (by omega) (by omega) (Nat.or_lt_two_pow hs h2v)]
      have et : ((v : Int)).toNat = v := by omega
      rw [et, decide_eq_true h.1, decide_eq_true h.2]
      simp
    · rw [if_neg (by simp; omega)]
      have : (decide (0 ≤ x) && decide (x < (l.length : Int))) = false := by
        rw [Bool.eq_false_iff]; intro q; simp only [Bool.and_eq_true, decide_eq_true_eq] at q; exact h q
      rw [this]
      simp

theorem spec_permin_eq (l : List Int) (hb : l.length ≤ 1048576) (k : Nat) (hk : l.length < k) : spec_PermIn.f k l = some (isPerm l) := by
  unfold spec_PermIn.f
  by_cases h : 1 ≤ l.length ∧ l.length ≤ 7
  · have := spec_permin_short l h.1 h.2 l.length k 0 0 (by omega) (by omega) hk (Nat.two_pow_pos _)
    have z : ((0 : Nat) : Int) = 0 := rfl
    rw [z, List.drop_zero] at this
    rw [this]
    congr 1
    rw [Bool.eq_iff_iff, isPerm_iff, Bool.and_eq_true, List.all_eq_true, beq_iff_eq]
    constructor
    · rintro ⟨h1, h2⟩
      have hr : ∀ x ∈ l, 0 ≤ x ∧ x < (l.length : Int) := fun x hx => by simpa using h1 x hx
      exact ⟨h.1, h.2, (bitsOf_all l l.length hr).1 h2⟩
    · rintro ⟨_, _, h3⟩
      have hr := perm_range h3
      exact ⟨fun x hx => by simpa using hr x hx, (bitsOf_all l l.length hr).2 h3⟩
  · have := spec_permin_long l hb (by omega) l.length k 0 0 (by omega) (by omega) hk
    have z : ((0 : Nat) : Int) = 0 := rfl
    rw [z] at this
    rw [this]
    congr 1
    symm
    rw [Bool.eq_false_iff]
    intro q
    rw [isPerm_iff] at q
    exact h ⟨q.1, q.2.1⟩

theorem drop_cons {l : List Int} {i : Nat} (h : i < l.length) : l.drop i = l.getD i 0 :: l.drop (i + 1) := by
  rw [List.drop_eq_getElem_cons h, List.getD_eq_getElem?_getD, List.getElem?_eq_getElem h]; rfl

theorem impl_other_l0 (p : List Int) (hb : p.length ≤ 7) (hr : ∀ x ∈ p, 0 ≤ x ∧ x < p.length) (d : Nat) : ∀ (k i : Nat) (out : List Int), i ≤ p.length → p.length - i = d → d < k → out.length = p.length →
    impl_PermOther.l0 k out p p.length (i : Int) = some (place (p.drop i) i out, true) := by
  induction d with
  | zero =>
    intro k i out hi hd hk ho
    obtain ⟨k, rfl⟩ : ∃ m, k = m + 1 := ⟨k - 1, by omega⟩
    obtain rfl : i = p.length := by omega
    simp only [impl_PermOther.l0]
    rw [if_neg (by omega), List.drop_length]
    rfl
  | succ d ih =>
    intro k i out hi hd hk ho
    obtain ⟨k, rfl⟩ : ∃ m, k = m + 1 := ⟨k - 1, by omega⟩
    have hlt : i < p.length := by omega
    have hx := hr _ (getD_mem' hlt)
    simp only [impl_PermOther.l0]
    rw [rd_getD, if_pos (by omega), if_pos (by omega), if_pos (by omega), if_pos hx.1, if_pos (by omega), w64 _ (by omega), drop_cons hlt]
    have e : ((i : Int) + 1) = ((i + 1 : Nat) : Int) := by omega
    rw [e, ih k (i + 1) _ (by omega) (by omega) (by omega) (by simpa using ho)]
    rfl

def otherR (p : List Int) : List Int × Bool := if isPerm p = true then (inv p, true) else ([], false)

theorem impl_other_eq (p : List Int) (k : Nat) (hk : 20 ≤ k) : impl_PermOther.f k p = some (otherR p) := by
  unfold impl_PermOther.f otherR
  rw [impl_permin_eq p k hk]
  simp only [Option.bind_some]
  by_cases h : isPerm p = true
  · rw [if_pos h, if_pos h]
    rw [isPerm_iff] at h
    have e : ((p.length : Int)).toNat = p.length := by omega
    rw [if_pos (by omega), e, if_pos (by omega)]
    have := impl_other_l0 p h.2.1 (perm_range h.2.2) p.length k 0 (List.replicate p.length 0) (by omega) (by omega) (by omega) (by simp)
    unfold inv
    simpa using this
  · rw [if_neg h, if_neg h]

theorem otherR_length (p : List Int) : (otherR p).1.length ≤ 7 := by
  unfold otherR
  by_cases h : isPerm p = true
  · rw [if_pos h]
    rw [isPerm_iff] at h
    simp only [inv_length]
    exact h.2.1
  · rw [if_neg h]; simp

def backR (p : List Int) : List Int × Bool := if isPerm p = true then (p.reverse, true) else ([], false)

theorem reverse_eq (l : List Int) (hl : l.length ≤ 7) (k : Nat) (hk : 20 ≤ k) : slices_Reverse_int_int.f k l = some l.reverse := by
  obtain ⟨m, rfl⟩ : ∃ m, k = m + 20 := ⟨k - 20, by omega⟩
  match l, hl with
  | [], _ => simp [slices_Reverse_int_int.f, slices_Reverse_int_int.l0, rd, wrap64]
  | [a], _ => simp [slices_Reverse_int_int.f, slices_Reverse_int_int.l0, rd, wrap64]
  | [a, b], _ => simp [slices_Reverse_int_int.f, slices_Reverse_int_int.l0, rd, wrap64]
  | [a, b, c], _ => simp [slices_Reverse_int_int.f, slices_Reverse_int_int.l0, rd, wrap64]
  | [a, b, c, d], _ => simp [slices_Reverse_int_int.f, slices_Reverse_int_int.l0, rd, wrap64]
  | [a, b, c, d, e], _ => simp [slices_Reverse_int_int.f, slices_Reverse_int_int.l0, rd, wrap64]
  | [a, b, c, d, e, f], _ => simp [slices_Reverse_int_int.f, slices_Reverse_int_int.l0, rd, wrap64]
  | [a, b, c, d, e, f, g], _ => simp [slices_Reverse_int_int.f, slices_Reverse_int_int.l0, rd, wrap64]
  | a :: b :: c :: d :: e :: f :: g :: h :: t, hl => simp at hl

theorem impl_back_eq (p : List Int) (k : Nat) (hk : 20 ≤ k) : impl_PermBack.f k p = some (backR p) := by
  unfold impl_PermBack.f backR
  rw [impl_permin_eq p k hk]
  simp only [Option.bind_some]
  by_cases h : isPerm p = true
  · have h7 := ((isPerm_iff p).1 h)
    have hc : Go.Proofs.Ytplndfadlconlaa.S.slices_Clone.f p = some p := if_pos (by omega)
    rw [if_pos h, if_pos h, hc]
    simp only [Option.bind_some]
    rw [reverse_eq p h7.2.1 k hk]
    rfl
  · rw [if_neg h, if_neg h]

theorem backR_length (p : List Int) : (backR p).1.length ≤ 7 := by
  unfold backR
  by_cases h : isPerm p = true
  · rw [if_pos h]; have := ((isPerm_iff p).1 h).2.1; simpa using this
  · rw [if_neg h]; simp

/-! ### Inserting puts the numbers in order -/
theorem getD_set (l : List Int) (a b : Nat) (x : Int) (h : b < l.length) : (l.set a x).getD b 0 = if a = b then x else l.getD b 0 := by
  by_cases e : a = b
  · subst e; rw [if_pos rfl, getD_set_eq _ _ _ h]
  · rw [if_neg e, getD_set_ne _ _ _ _ e]

theorem mem_of_getD {l : List Int} {x : Int} (i : Nat) (hi : i < l.length) (e : l.getD i 0 = x) : x ∈ l := e ▸ getD_mem' hi

theorem shift_mem (k : Nat) : ∀ (l : List Int) (x : Int), k < l.length → ∀ z ∈ l.set k x, z ∈ shiftTo k l x := by
  induction k with
  | zero => intro l x _ z hz; exact hz
  | succ k ih =>
    intro l x hk z hz
    simp only [shiftTo]
    by_cases h : x < l.getD k 0
    · rw [if_pos h]
      refine ih _ x (by simp; omega) z ?_
      obtain ⟨i, hi, e⟩ := mem_getD hz
      rw [List.length_set] at hi
      rw [getD_set _ _ _ _ hi] at e
      by_cases h1 : k + 1 = i
      · rw [if_pos h1] at e
        refine mem_of_getD k (by simp; omega) ?_
        rw [getD_set _ _ _ _ (by simp; omega), if_pos rfl, e]
      · rw [if_neg h1] at e
        by_cases h2 : k = i
        · refine mem_of_getD (k + 1) (by simp; omega) ?_
          rw [getD_set _ _ _ _ (by simp; omega), if_neg (by omega), getD_set _ _ _ _ (by omega), if_pos rfl, h2, e]
        · refine mem_of_getD i (by simp; omega) ?_
          rw [getD_set _ _ _ _ (by simp; omega), if_neg h2, getD_set _ _ _ _ (by omega), if_neg h1, e]
    · rw [if_neg h]; exact hz

theorem sort_mem (l : List Int) (m : Nat) (hm : m < l.length ∨ m = 0) : ∀ z ∈ l, z ∈ sortTo l m := by
  induction m with
  | zero => intro z hz; exact hz
  | succ m ih =>
    intro z hz
    have h1 := ih (by omega) z hz
    simp only [sortTo]
    have hl := sortTo_length l m
    refine shift_mem (m + 1) _ _ (by omega) z ?_
    obtain ⟨i, hi, e⟩ := mem_getD h1
    refine mem_of_getD i (by simpa using hi) ?_
    rw [getD_set _ _ _ _ hi]
    split
    · next h => rw [h]; exact e
    · exact e

theorem shift_sorted (m : Nat) (k : Nat) : ∀ (l : List Int) (x : Int), k ≤ m → m < l.length → (∀ i, i + 1 < k → l.getD i 0 ≤ l.getD (i + 1) 0) → (∀ i, k < i → i + 1 ≤ m → l.getD i 0 ≤ l.getD (i + 1) 0) →
    (1 ≤ k → k + 1 ≤ m → l.getD (k - 1) 0 ≤ l.getD (k + 1) 0) → (k + 1 ≤ m → x < l.getD (k + 1) 0) → ∀ i, i + 1 ≤ m → (shiftTo k l x).getD i 0 ≤ (shiftTo k l x).getD (i + 1) 0 := by
  induction k with
  | zero =>
    intro l x _ hm h1 h2 h3 h4 i hi
    simp only [shiftTo]
    rw [getD_set _ _ _ _ (by omega), getD_set _ _ _ _ (by omega), if_neg (show ¬ 0 = i + 1 by omega)]
    by_cases h : 0 = i
    · subst h; rw [if_pos rfl]; have := h4 hi; omega
    · rw [if_neg h]; exact h2 i (by omega) hi
  | succ k ih =>
    intro l x hk hm h1 h2 h3 h4
    simp only [shiftTo]
    by_cases h : x < l.getD k 0
    · rw [if_pos h]
      have g : ∀ i, i < l.length → (l.set (k + 1) (l.getD k 0)).getD i 0 = if k + 1 = i then l.getD k 0 else l.getD i 0 := fun i hi => getD_set _ _ _ _ hi
      refine ih _ x (by omega) (by simpa using hm) ?_ ?_ ?_ ?_
      · intro i hi
        rw [g i (by omega), g (i + 1) (by omega), if_neg (by omega), if_neg (by omega)]
        exact h1 i (by omega)
      · intro i hi hi2
        rw [g i (by omega), g (i + 1) (by omega), if_neg (show ¬ k + 1 = i + 1 by omega)]
        by_cases e : k + 1 = i
        · rw [if_pos e]; have := h3 (by omega) (by omega); rw [← e]; simpa using this
        · rw [if_neg e]; exact h2 i (by omega) hi2
      · intro hk1 hk2
        rw [g (k - 1) (by omega), g (k + 1) (by omega), if_pos rfl, if_neg (by omega)]
        have := h1 (k - 1) (by omega)
        rwa [show k - 1 + 1 = k by omega] at this
      · intro _
        rw [g (k + 1) (by omega), if_pos rfl]; exact h
    · rw [if_neg h]
      intro i hi
      rw [getD_set _ _ _ _ (by omega), getD_set _ _ _ _ (by omega)]
      by_cases e : k + 1 = i
      · rw [if_pos e, if_neg (by omega)]; have := h4 (by omega); rw [← e]; omega
      · rw [if_neg e]
        by_cases e2 : k + 1 = i + 1
        · rw [if_pos e2]; obtain rfl : k = i := by omega
          omega
        · rw [if_neg e2]
          by_cases e3 : i + 1 < k + 1
          · exact h1 i e3
          · exact h2 i (by omega) hi

theorem sort_sorted (l : List Int) (m : Nat) (hm : m < l.length ∨ m = 0) : ∀ i, i + 1 ≤ m → (sortTo l m).getD i 0 ≤ (sortTo l m).getD (i + 1) 0 := by
  induction m with
  | zero => intro i hi; omega
  | succ m ih =>
    have h := ih (by omega)
    simp only [sortTo]
    exact shift_sorted (m + 1) (m + 1) _ _ (Nat.le_refl _) (by rw [sortTo_length]; omega) (fun i hi => h i (by omega)) (fun i h1 h2 => by omega) (fun _ h2 => by omega) (fun h => by omega)

theorem sort_perm {p : List Int} (h : isPerm p = true) (i : Nat) (hi : i < p.length) : (sortTo p (p.length - 1)).getD i 0 = (i : Int) := by
  have hp := (isPerm_iff p).1 h
  have hl := sortTo_length p (p.length - 1)
  have hs := sort_sorted p (p.length - 1) (by omega)
  have hm := sort_mem p (p.length - 1) (by omega)
  generalize sortTo p (p.length - 1) = r at *
  have hall : ∀ j : Nat, j < r.length → (j : Int) ∈ r := fun j hj => hm _ (hp.2.2 j (by omega))
  have hr := perm_range hall
  have hst : ∀ j, j + 1 < r.length → r.getD j 0 < r.getD (j + 1) 0 := fun j hj => by
    have a := hs j (by omega)
    have b := perm_inj hall j (j + 1) (by omega) hj
    by_cases e : r.getD j 0 = r.getD (j + 1) 0
    · have := b e; omega
    · omega
  have lo : ∀ j : Nat, j < r.length → (j : Int) ≤ r.getD j 0 := by
    intro j
    induction j with
    | zero => intro hj; have := hr _ (getD_mem' hj); omega
    | succ j ih => intro hj; have := ih (by omega); have := hst j hj; omega
  have hi' : ∀ d j : Nat, j + d + 1 = r.length → r.getD j 0 ≤ (j : Int) := by
    intro d
    induction d with
    | zero => intro j hj; have := hr _ (getD_mem' (show j < r.length by omega)); omega
    | succ d ih => intro j hj; have := ih (j + 1) (by omega); have := hst j (by omega); omega
  have a := lo i (by omega)
  have b := hi' (r.length - 1 - i) i (by omega)
  omega

end Go.Proofs.Ytplndfadlconlaa.QdL

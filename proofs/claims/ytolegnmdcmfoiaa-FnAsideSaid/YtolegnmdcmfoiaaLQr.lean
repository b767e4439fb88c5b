/- What is drawn: lists of at most eight numbers. -/
import Derived.Test.YtolegnmdcmfoiaaCalm
import Derived.Test.YtolegnmdcmfoiaaQr1
namespace Go.Proofs.Ytolegnmdcmfoiaa.QrL
open Go.RowKit Go.Proofs.Ytolegnmdcmfoiaa.Qr Go.Proofs.YtolegnmdcmfoiaaW.PrintWords Go.Proofs.YtolegnmdcmfoiaaW.PrintLast Go.Proofs.YtolegnmdcmfoiaaW.PrintMore
open Go.Proofs.Ytolegnmdcmfoiaa.S
set_option linter.unusedVariables false
set_option linter.unusedSimpArgs false

theorem w64 (x : Int) (h : -9223372036854775808 ≤ x ∧ x ≤ 9223372036854775807) : wrap64 x = x := by unfold wrap64; omega

theorem rd_getD (l : List Int) (i : Nat) : rd l (i : Int) = l.getD i 0 := by simp [rd]


theorem l6In_eq (a b c : Int) : spec_l6In.f a b c = some (decide (b ≤ a) && decide (a ≤ c)) := by
  unfold spec_l6In.f
  by_cases h : b ≤ a
  · rw [if_pos h]; simp [h]
  · rw [if_neg h]; simp [h]


/-! ### Permutations as lists of whole numbers -/
/-- Each number below the length is there. -/
def hasAll (l : List Int) : Bool := (List.range l.length).all fun i => decide ((i : Int) ∈ l)
def isPerm (l : List Int) : Bool := decide (1 ≤ l.length) && decide (l.length ≤ 7) && hasAll l

theorem hasAll_iff (l : List Int) : hasAll l = true ↔ ∀ i : Nat, i < l.length → (i : Int) ∈ l := by
  unfold hasAll
  rw [List.all_eq_true]
  constructor
  · intro h i hi
    have := h i (List.mem_range.2 hi)
    simpa using this
  · intro h i hi
    have := h i (List.mem_range.1 hi)
    simpa using this

theorem isPerm_iff (l : List Int) : isPerm l = true ↔ 1 ≤ l.length ∧ l.length ≤ 7 ∧ ∀ i : Nat, i < l.length → (i : Int) ∈ l := by
  unfold isPerm
  simp only [Bool.and_eq_true, decide_eq_true_eq, hasAll_iff, and_assoc]

theorem all_le (n : Nat) : ∀ l : List Int, (∀ i : Nat, i < n → (i : Int) ∈ l) → n ≤ l.length := by
  induction n with
  | zero => intro l _; omega
  | succ n ih =>
    intro l h
    have hn := h n (by omega)
    have := ih (l.erase (n : Int)) (fun i hi => (List.mem_erase_of_ne (by omega)).2 (h i (by omega)))
    rw [List.length_erase_of_mem hn] at this
    have := List.length_pos_of_mem hn
    omega

theorem perm_range {l : List Int} (h : ∀ i : Nat, i < l.length → (i : Int) ∈ l) : ∀ x ∈ l, 0 ≤ x ∧ x < l.length := by
  intro x hx
  by_cases hr : 0 ≤ x ∧ x < l.length
  · exact hr
  · exfalso
    have := all_le l.length (l.erase x) (fun i hi => (List.mem_erase_of_ne (by omega)).2 (h i hi))
    rw [List.length_erase_of_mem hx] at this
    have := List.length_pos_of_mem hx
    omega

theorem getD_mem' {l : List Int} {i : Nat} (h : i < l.length) : l.getD i 0 ∈ l := by
  rw [List.getD_eq_getElem?_getD, List.getElem?_eq_getElem h]
  exact List.getElem_mem h

theorem mem_getD {l : List Int} {x : Int} (h : x ∈ l) : ∃ i, i < l.length ∧ l.getD i 0 = x := by
  obtain ⟨i, hi, e⟩ := List.getElem_of_mem h
  exact ⟨i, hi, by rw [List.getD_eq_getElem?_getD, List.getElem?_eq_getElem hi]; exact e⟩

theorem perm_inj {l : List Int} (h : ∀ i : Nat, i < l.length → (i : Int) ∈ l) : ∀ i j : Nat, i < l.length → j < l.length → l.getD i 0 = l.getD j 0 → i = j := by
  have key : ∀ i j : Nat, i < j → j < l.length → l.getD i 0 = l.getD j 0 → False := by
    intro i j hij hj e
    -- strike place j: all numbers are still there
    have hi : i < l.length := by omega
    have hlen : (l.eraseIdx j).length = l.length - 1 := List.length_eraseIdx_of_lt hj
    have hall : ∀ m : Nat, m < l.length → (m : Int) ∈ l.eraseIdx j := by
      intro m hm
      obtain ⟨q, hq, eq⟩ := mem_getD (h m hm)
      have pick : ∀ q : Nat, q < l.length → q ≠ j → l.getD q 0 ∈ l.eraseIdx j := by
        intro q hq hne
        rw [List.getD_eq_getElem?_getD, List.getElem?_eq_getElem hq]
        rw [List.mem_eraseIdx_iff_getElem]
        exact ⟨q, hq, hne, rfl⟩
      by_cases hqj : q = j
      · subst hqj
        rw [← eq, ← e]
        exact pick i hi (by omega)
      · rw [← eq]
        exact pick q hq hqj
    have := all_le l.length (l.eraseIdx j) hall
    omega
  intro i j hi hj e
  rcases Nat.lt_trichotomy i j with hlt | heq | hgt
  · exact (key i j hlt hj e).elim
  · exact heq
  · exact (key j i hgt hi e.symm).elim

theorem ext_getD {a b : List Int} (hl : a.length = b.length) (h : ∀ i : Nat, i < a.length → a.getD i 0 = b.getD i 0) : a = b := by
  refine List.ext_getElem hl fun i h1 h2 => ?_
  have := h i h1
  rw [List.getD_eq_getElem?_getD, List.getD_eq_getElem?_getD, List.getElem?_eq_getElem h1, List.getElem?_eq_getElem h2] at this
  exact this

/-- Each number is written at its place. -/
def place : List Int → Nat → List Int → List Int
  | [], _, out => out
  | v :: r, i, out => place r (i + 1) (out.set v.toNat (i : Int))

theorem place_length (l : List Int) : ∀ (i : Nat) (out : List Int), (place l i out).length = out.length := by
  induction l with
  | nil => intro i out; rfl
  | cons v r ih => intro i out; simp [place, ih]

def inv (p : List Int) : List Int := place p 0 (List.replicate p.length 0)

theorem inv_length (p : List Int) : (inv p).length = p.length := by unfold inv; rw [place_length]; simp

theorem getD_set_eq (out : List Int) (a : Nat) (x : Int) (h : a < out.length) : (out.set a x).getD a 0 = x := by
  rw [List.getD_eq_getElem?_getD, List.getElem?_eq_getElem (by simpa using h)]
  simp

theorem getD_set_ne (out : List Int) (a b : Nat) (x : Int) (h : a ≠ b) : (out.set a x).getD b 0 = out.getD b 0 := by
  rw [List.getD_eq_getElem?_getD, List.getD_eq_getElem?_getD, List.getElem?_set_ne h]

theorem place_keep (l : List Int) : ∀ (i : Nat) (out : List Int) (b : Nat), (∀ x ∈ l, x.toNat ≠ b) → (place l i out).getD b 0 = out.getD b 0 := by
  induction l with
  | nil => intro i out b _; rfl
  | cons v r ih =>
    intro i out b h
    simp only [place]
    rw [ih (i + 1) _ b (fun x hx => h x (List.mem_cons_of_mem _ hx)), getD_set_ne _ _ _ _ (h v List.mem_cons_self)]

theorem place_at (l : List Int) : ∀ (s : Nat) (out : List Int) (i : Nat), i < l.length → (∀ x ∈ l, 0 ≤ x ∧ x.toNat < out.length) →
    (∀ i j : Nat, i < l.length → j < l.length → l.getD i 0 = l.getD j 0 → i = j) → (place l s out).getD (l.getD i 0).toNat 0 = ((s + i : Nat) : Int) := by
  induction l with
  | nil => intro s out i h; simp at h
  | cons v r ih =>
    intro s out i hi hr hinj
    simp only [place]
    cases i with
    | zero =>
      simp only [List.getD_cons_zero]
      rw [place_keep]
      · rw [getD_set_eq _ _ _ (hr v List.mem_cons_self).2]
        simp
      · intro x hx e
        obtain ⟨q, hq, eq⟩ := mem_getD hx
        have h1 := hr v List.mem_cons_self
        have h2 := hr x (List.mem_cons_of_mem _ hx)
        have : x = v := by omega
        have := hinj (q + 1) 0 (by simpa using hq) (by simp) (by simp only [List.getD_cons_succ, List.getD_cons_zero]; rw [eq, this])
        omega
    | succ i =>
      simp only [List.getD_cons_succ]
      rw [ih (s + 1) _ i (by simpa using hi) (fun x hx => by have := hr x (List.mem_cons_of_mem _ hx); simpa using this)
        (fun a b ha hb e => by have := hinj (a + 1) (b + 1) (by simpa using ha) (by simpa using hb) (by simpa using e); omega)]
      have : s + 1 + i = s + (i + 1) := by omega
      rw [this]

theorem inv_at {p : List Int} (h : ∀ i : Nat, i < p.length → (i : Int) ∈ p) (i : Nat) (hi : i < p.length) : (inv p).getD (p.getD i 0).toNat 0 = (i : Int) := by
  unfold inv
  have := place_at p 0 (List.replicate p.length 0) i hi (fun x hx => by have := perm_range h x hx; simp; omega) (perm_inj h)
  rw [Nat.zero_add] at this
  exact this

theorem inv_perm {p : List Int} (h : ∀ i : Nat, i < p.length → (i : Int) ∈ p) : ∀ i : Nat, i < (inv p).length → (i : Int) ∈ inv p := by
  intro i hi
  rw [inv_length] at hi
  rw [← inv_at h i hi]
  refine getD_mem' ?_
  rw [inv_length]
  have := perm_range h _ (getD_mem' hi)
  omega

theorem inv_back {p : List Int} (h : ∀ i : Nat, i < p.length → (i : Int) ∈ p) (v : Nat) (hv : v < p.length) : p.getD ((inv p).getD v 0).toNat 0 = (v : Int) := by
  obtain ⟨i, hi, e⟩ := mem_getD (h v hv)
  have := inv_at h i hi
  rw [e] at this
  have e2 : ((v : Int)).toNat = v := by omega
  rw [e2] at this
  rw [this]
  simpa using e

theorem inv_inv {p : List Int} (h : ∀ i : Nat, i < p.length → (i : Int) ∈ p) : inv (inv p) = p := by
  refine ext_getD (by rw [inv_length, inv_length]) fun v hv => ?_
  rw [inv_length, inv_length] at hv
  have h2 := inv_perm h
  -- q = inv p; (inv q)[q[j]] = j; take j = p[v]
  have hr := perm_range h _ (getD_mem' hv)
  have e := inv_at h2 (p.getD v 0).toNat (by rw [inv_length]; omega)
  rw [inv_at h v hv] at e
  have e2 : ((v : Int)).toNat = v := by omega
  rw [e2] at e
  rw [e]
  omega

theorem isPerm_inv {p : List Int} (h : isPerm p = true) : isPerm (inv p) = true := by
  rw [isPerm_iff] at h ⊢
  have := inv_perm h.2.2
  rw [inv_length] at this ⊢
  exact ⟨h.1, h.2.1, this⟩

/-! ### PermIn -/
theorem or_nat (a b : Nat) (ha : a < 128) (hb : b < 128) : Go.bits .or .i64 (a : Int) (b : Int) = ((a ||| b : Nat) : Int) := by
  have hx : a ||| b < 2 ^ 7 := Nat.or_lt_two_pow (by omega) (by omega)
  have h1 : (BitVec.ofInt 64 (a : Int)).toNat = a := by
    rw [BitVec.ofInt_natCast, BitVec.toNat_ofNat]; exact Nat.mod_eq_of_lt (by omega)
  have h2 : (BitVec.ofInt 64 (b : Int)).toNat = b := by
    rw [BitVec.ofInt_natCast, BitVec.toNat_ofNat]; exact Nat.mod_eq_of_lt (by omega)
  show IntKind.i64.wrap ((BitVec.ofInt 64 (a : Int) ||| BitVec.ofInt 64 (b : Int)).toNat : Int) = _
  rw [BitVec.toNat_or, h1, h2]
  simp only [IntKind.wrap, IntKind.bits, IntKind.signed]
  simp
  omega

theorem shl_one (v : Nat) (hv : v ≤ 7) : shl .i64 1 (v : Int) = ((2 ^ v : Nat) : Int) := by
  have : v = 0 ∨ v = 1 ∨ v = 2 ∨ v = 3 ∨ v = 4 ∨ v = 5 ∨ v = 6 ∨ v = 7 := by omega
  rcases this with rfl | rfl | rfl | rfl | rfl | rfl | rfl | rfl <;> decide

/-- The set of the numbers of a list, as bits. -/
def bitsOf : List Int → Nat → Nat
  | [], s => s
  | v :: r, s => bitsOf r (s ||| 2 ^ v.toNat)

theorem bitsOf_lt (n : Nat) (l : List Int) : ∀ s : Nat, s < 2 ^ n → (∀ x ∈ l, x.toNat < n) → bitsOf l s < 2 ^ n := by
  induction l with
  | nil => intro s hs _; exact hs
  | cons v r ih =>
    intro s hs h
    exact ih _ (Nat.or_lt_two_pow hs (Nat.pow_lt_pow_of_lt (by omega) (h v List.mem_cons_self))) (fun x hx => h x (List.mem_cons_of_mem _ hx))

theorem bitsOf_test (l : List Int) : ∀ (s i : Nat), (bitsOf l s).testBit i = (s.testBit i || l.any fun x => decide (x.toNat = i)) := by
  induction l with
  | nil => intro s i; simp [bitsOf]
  | cons v r ih =>
    intro s i
    simp only [bitsOf, ih, Nat.testBit_or, Nat.testBit_two_pow, List.any_cons, Bool.or_assoc]

theorem bitsOf_all (l : List Int) (n : Nat) (h : ∀ x ∈ l, 0 ≤ x ∧ x < n) : bitsOf l 0 = 2 ^ n - 1 ↔ ∀ i : Nat, i < n → (i : Int) ∈ l := by
  constructor
  · intro e i hi
    have t := bitsOf_test l 0 i
    rw [e, Nat.testBit_two_pow_sub_one] at t
    simp only [Nat.zero_testBit, Bool.false_or, decide_eq_true hi] at t
    have t := t.symm
    rw [List.any_eq_true] at t
    obtain ⟨x, hx, ex⟩ := t
    have := h x hx
    have ex := of_decide_eq_true ex
    have : x = (i : Int) := by omega
    rw [← this]; exact hx
  · intro hall
    refine Nat.eq_of_testBit_eq fun i => ?_
    rw [bitsOf_test, Nat.testBit_two_pow_sub_one]
    simp only [Nat.zero_testBit, Bool.false_or]
    rw [Bool.eq_iff_iff, List.any_eq_true, decide_eq_true_iff]
    constructor
    · rintro ⟨x, hx, ex⟩
      have := h x hx
      have ex := of_decide_eq_true ex
      omega
    · intro hi
      exact ⟨(i : Int), hall i hi, decide_eq_true (by omega)⟩

/-- Over long lists the answer is no, whatever has been gathered. -/
theorem spec_permin_long (l : List Int) (hb : l.length ≤ 1048576) (h7 : 7 < l.length ∨ l.length = 0) (d : Nat) : ∀ (k i : Nat) (s : Int), i ≤ l.length → l.length - i = d → d < k →
    spec_PermIn.l0 k l s (i : Int) = some false := by
  induction d with
  | zero =>
    intro k i s hi hd hk
    obtain ⟨k, rfl⟩ : ∃ m, k = m + 1 := ⟨k - 1, by omega⟩
    simp only [spec_PermIn.l0]
    rw [if_neg (by omega), l6In_eq]
    simp only [Option.bind_some]
    rw [if_neg (by simp; omega)]
  | succ d ih =>
    intro k i s hi hd hk
    obtain ⟨k, rfl⟩ : ∃ m, k = m + 1 := ⟨k - 1, by omega⟩
    simp only [spec_PermIn.l0]
    rw [if_pos (by omega), if_pos (by omega), l6In_eq]
    simp only [Option.bind_some]
    generalize rd l (i : Int) = x
    by_cases h : (decide (0 ≤ x) && decide (x ≤ wrap64 ((l.length : Int) - 1))) = true
    · rw [if_pos h]
      simp only [Bool.and_eq_true, decide_eq_true_eq] at h
      have e : ((i : Int) + 1) = ((i + 1 : Nat) : Int) := by omega
      rw [if_pos h.1, w64 ((i : Int) + 1) (by omega), e]
      exact ih k (i + 1) _ (by omega) (by omega) (by omega)
    · rw [if_neg h]

theorem spec_permin_short (l : List Int) (h1 : 1 ≤ l.length) (h7 : l.length ≤ 7) (d : Nat) : ∀ (k i s : Nat), i ≤ l.length → l.length - i = d → d < k → s < 2 ^ l.length →
    spec_PermIn.l0 k l (s : Int) (i : Int) = some (((l.drop i).all fun x => decide (0 ≤ x) && decide (x < l.length)) && (bitsOf (l.drop i) s == 2 ^ l.length - 1)) := by
  have hp : 2 ^ l.length ≤ 128 := Nat.pow_le_pow_right (n := 2) (by omega) h7
  have hp1 : 1 ≤ 2 ^ l.length := Nat.one_le_two_pow
  induction d with
  | zero =>
    intro k i s hi hd hk hs
    obtain ⟨k, rfl⟩ : ∃ m, k = m + 1 := ⟨k - 1, by omega⟩
    obtain rfl : i = l.length := by omega
    simp only [spec_PermIn.l0]
    rw [if_neg (by omega), l6In_eq]
    simp only [Option.bind_some]
    rw [if_pos (by simp; omega), shl_one _ h7, w64 _ (by omega), List.drop_length]
    simp only [bitsOf, List.all_nil, Bool.true_and]
    congr 1
    rw [Bool.eq_iff_iff, beq_iff_eq, beq_iff_eq]
    omega
  | succ d ih =>
    intro k i s hi hd hk hs
    obtain ⟨k, rfl⟩ : ∃ m, k = m + 1 := ⟨k - 1, by omega⟩
    have hlt : i < l.length := by omega
    simp only [spec_PermIn.l0]
    rw [if_pos (by omega), if_pos (by omega), l6In_eq, rd_getD, w64 ((l.length : Int) - 1) (by omega)]
    simp only [Option.bind_some]
    have ea : l.drop i = l.getD i 0 :: l.drop (i + 1) := by
      rw [List.drop_eq_getElem_cons hlt, List.getD_eq_getElem?_getD, List.getElem?_eq_getElem hlt]; rfl
    rw [ea]
    generalize l.getD i 0 = x
    simp only [List.all_cons, bitsOf]
    by_cases h : 0 ≤ x ∧ x < l.length
    · rw [if_pos (by simp; omega), if_pos h.1]
      obtain ⟨v, rfl⟩ := Int.eq_ofNat_of_zero_le h.1
      have hv : v < l.length := by omega
      have h2v : 2 ^ v < 2 ^ l.length := Nat.pow_lt_pow_of_lt (by omega) hv
      have e : ((i : Int) + 1) = ((i + 1 : Nat) : Int) := by omega
      rw [shl_one v (by omega), or_nat s (2 ^ v) (by omega) (by omega), w64 ((i : Int) + 1) (by omega), e,
        ih k (i + 1) _ (by omega) (by omega) (by omega) (Nat.or_lt_two_pow hs h2v)]
      have et : ((v : Int)).toNat = v := by omega
      rw [et, decide_eq_true h.1, decide_eq_true h.2]
      simp
    · rw [if_neg (by simp; omega)]
      have : (decide (0 ≤ x) && decide (x < (l.length : Int))) = false := by
        rw [Bool.eq_false_iff]; intro q; simp only [Bool.and_eq_true, decide_eq_true_eq] at q; exact h q
      rw [this]
      simp

theorem spec_permin_eq (l : List Int) (hb : l.length ≤ 1048576) (k : Nat) (hk : l.length < k) : spec_PermIn.f k l = some (isPerm l) := by
  unfold spec_PermIn.f
  by_cases h : 1 ≤ l.length ∧ l.length ≤ 7
  · have := spec_permin_short l h.1 h.2 l.length k 0 0 (by omega) (by omega) hk (Nat.two_pow_pos _)
    have z : ((0 : Nat) : Int) = 0 := rfl
    rw [z, List.drop_zero] at this
    rw [this]
    congr 1
    rw [Bool.eq_iff_iff, isPerm_iff, Bool.and_eq_true, List.all_eq_true, beq_iff_eq]
    constructor
    · rintro ⟨h1, h2⟩
      have hr : ∀ x ∈ l, 0 ≤ x ∧ x < (l.length : Int) := fun x hx => by simpa using h1 x hx
      exact ⟨h.1, h.2, (bitsOf_all l l.length hr).1 h2⟩
    · rintro ⟨_, _, h3⟩
      have hr := perm_range h3
      exact ⟨fun x hx => by simpa using hr x hx, (bitsOf_all l l.length hr).2 h3⟩
  · have := spec_permin_long l hb (by omega) l.length k 0 0 (by omega) (by omega) hk
    have z : ((0 : Nat) : Int) = 0 := rfl
    rw [z] at this
    rw [this]
    congr 1
    symm
    rw [Bool.eq_false_iff]
    intro q
    rw [isPerm_iff] at q
    exact h ⟨q.1, q.2.1⟩

/-! ### One permutation behind another -/
def raise (q : List Int) (n : Int) : List Int := q.map fun x => x + n
theorem raise_length (q : List Int) (n : Int) : (raise q n).length = q.length := by simp [raise]
theorem raise_reverse (q : List Int) (n : Int) : (raise q n).reverse = raise q.reverse n := by simp [raise]

theorem perm_lo {q : List Int} (h : isPerm q = true) : ∀ x ∈ q, 0 ≤ x ∧ x < 7 := by
  have hq := (isPerm_iff q).1 h
  intro x hx
  have := perm_range hq.2.2 x hx
  omega

theorem isPerm_join {p q : List Int} (hp : isPerm p = true) (hq : isPerm q = true) (hl : p.length + q.length ≤ 7) {r : List Int} (hr : r.length = p.length + q.length) (hpr : ∀ x ∈ p, x ∈ r) (hqr : ∀ x ∈ raise q p.length, x ∈ r) : isPerm r = true := by
  have h1 := (isPerm_iff p).1 hp
  have h2 := (isPerm_iff q).1 hq
  rw [isPerm_iff]
  refine ⟨by omega, by omega, fun i hi => ?_⟩
  by_cases h : i < p.length
  · exact hpr _ (h1.2.2 i h)
  · refine hqr _ (List.mem_map.2 ⟨((i - p.length : Nat) : Int), h2.2.2 (i - p.length) (by omega), by omega⟩)
theorem isPerm_aside {p q : List Int} (hp : isPerm p = true) (hq : isPerm q = true) (hl : p.length + q.length ≤ 7) : isPerm (p ++ raise q p.length) = true :=
  isPerm_join hp hq hl (by simp [raise_length]) (fun _ h => List.mem_append_left _ h) (fun _ h => List.mem_append_right _ h)
theorem isPerm_under {p q : List Int} (hp : isPerm p = true) (hq : isPerm q = true) (hl : p.length + q.length ≤ 7) : isPerm (raise q p.length ++ p) = true :=
  isPerm_join hp hq hl (by simp [raise_length]; omega) (fun _ h => List.mem_append_right _ h) (fun _ h => List.mem_append_left _ h)

theorem more_l0 (q : List Int) (n : Int) (hb : q.length ≤ 7) (hn : 0 ≤ n ∧ n ≤ 7) (hr : ∀ x ∈ q, 0 ≤ x ∧ x < 7) (d : Nat) : ∀ (k i : Nat), i ≤ q.length → q.length - i = d → d < k →
    spec_l6More.l0 k q n ((raise q n).take i) (i : Int) = some (raise q n) := by
  induction d with
  | zero =>
    intro k i hi hd hk
    obtain ⟨k, rfl⟩ : ∃ m, k = m + 1 := ⟨k - 1, by omega⟩
    obtain rfl : i = q.length := by omega
    simp only [spec_l6More.l0]
    rw [if_neg (by omega), ← raise_length q n, List.take_length]
  | succ d ih =>
    intro k i hi hd hk
    obtain ⟨k, rfl⟩ : ∃ m, k = m + 1 := ⟨k - 1, by omega⟩
    have hlt : i < q.length := by omega
    have hx := hr _ (getD_mem' hlt)
    simp only [spec_l6More.l0]
    rw [if_pos (by omega), if_pos (by omega), if_pos (by simp [raise_length]; omega), rd_getD, w64 (q.getD i 0 + n) (by omega), w64 _ (by omega)]
    have e : ((i : Int) + 1) = ((i + 1 : Nat) : Int) := by omega
    have e2 : (raise q n).take i ++ [q.getD i 0 + n] = (raise q n).take (i + 1) := by
      rw [List.take_succ_eq_append_getElem (by rw [raise_length]; exact hlt)]
      congr 2
      simp [raise, List.getD_eq_getElem?_getD, hlt]
    rw [e, e2]
    exact ih k (i + 1) (by omega) (by omega) (by omega)

theorem more_eq (q : List Int) (n : Int) (hb : q.length ≤ 7) (hn : 0 ≤ n ∧ n ≤ 7) (hr : ∀ x ∈ q, 0 ≤ x ∧ x < 7) (k : Nat) (hk : 10 ≤ k) : spec_l6More.f k q n = some (raise q n) := by
  have := more_l0 q n hb hn hr q.length k 0 (by omega) (by omega) (by omega)
  unfold spec_l6More.f
  simpa using this

def asideR (p q : List Int) : List Int × Bool := if isPerm p = true ∧ isPerm q = true ∧ p.length + q.length ≤ 7 then (p ++ raise q p.length, true) else ([], false)
def underR (p q : List Int) : List Int × Bool := if isPerm p = true ∧ isPerm q = true ∧ p.length + q.length ≤ 7 then (raise q p.length ++ p, true) else ([], false)

theorem asideR_length (p q : List Int) : (asideR p q).1.length ≤ 7 := by
  unfold asideR; split
  · next h => simp [raise_length]; exact h.2.2
  · simp
theorem underR_length (p q : List Int) : (underR p q).1.length ≤ 7 := by
  unfold underR; split
  · next h => simp [raise_length]; omega
  · simp

theorem spec_aside_eq (p q : List Int) (hp : p.length ≤ 1048576) (hq : q.length ≤ 1048576) (k : Nat) (hk : 1048590 ≤ k) : spec_PermAside.f k p q = some (asideR p q) := by
  unfold spec_PermAside.f asideR
  rw [spec_permin_eq p hp k (by omega), Option.bind_some]
  by_cases h1 : isPerm p = true
  · rw [if_pos h1, spec_permin_eq q hq k (by omega), Option.bind_some]
    by_cases h2 : isPerm q = true
    · rw [if_pos h2, w64 _ (by omega)]
      have q1 := (isPerm_iff p).1 h1
      have q2 := (isPerm_iff q).1 h2
      by_cases h3 : p.length + q.length ≤ 7
      · rw [if_neg (by omega), if_pos ⟨h1, h2, h3⟩]
        simp only [Option.bind_some]
        rw [if_pos (by simp; omega), more_eq q _ q2.2.1 (by omega) (perm_lo h2) k (by omega), Option.bind_some, if_pos (by simp [raise_length]; omega)]
        rfl
      · rw [if_pos (by omega), if_neg (fun h => h3 h.2.2)]
    · rw [if_neg h2, if_neg (fun h => h2 h.2.1)]
  · rw [if_neg h1, if_neg (fun h => h1 h.1)]

theorem spec_under_eq (p q : List Int) (hp : p.length ≤ 1048576) (hq : q.length ≤ 1048576) (k : Nat) (hk : 1048590 ≤ k) : spec_PermUnder.f k p q = some (underR p q) := by
  unfold spec_PermUnder.f underR
  rw [spec_permin_eq p hp k (by omega), Option.bind_some]
  by_cases h1 : isPerm p = true
  · rw [if_pos h1, spec_permin_eq q hq k (by omega), Option.bind_some]
    by_cases h2 : isPerm q = true
    · rw [if_pos h2, w64 _ (by omega)]
      have q1 := (isPerm_iff p).1 h1
      have q2 := (isPerm_iff q).1 h2
      by_cases h3 : p.length + q.length ≤ 7
      · rw [if_neg (by omega), if_pos ⟨h1, h2, h3⟩]
        rw [more_eq q _ q2.2.1 (by omega) (perm_lo h2) k (by omega), Option.bind_some, if_pos (by simp [raise_length]; omega)]
      · rw [if_pos (by omega), if_neg (fun h => h3 h.2.2)]
    · rw [if_neg h2, if_neg (fun h => h2 h.2.1)]
  · rw [if_neg h1, if_neg (fun h => h1 h.1)]

theorem xor_pos (a b : Int) (ha : 0 ≤ a) (hb : 0 ≤ b) (ha2 : a < 9223372036854775808) (hb2 : b < 9223372036854775808) : 0 ≤ Go.bits .xor .i64 a b := by
  obtain ⟨a, rfl⟩ := Int.eq_ofNat_of_zero_le ha
  obtain ⟨b, rfl⟩ := Int.eq_ofNat_of_zero_le hb
  have hx : a ^^^ b < 2 ^ 63 := Nat.xor_lt_two_pow (by omega) (by omega)
  have h1 : (BitVec.ofInt 64 (a : Int)).toNat = a := by
    rw [BitVec.ofInt_natCast, BitVec.toNat_ofNat]; exact Nat.mod_eq_of_lt (by omega)
  have h2 : (BitVec.ofInt 64 (b : Int)).toNat = b := by
    rw [BitVec.ofInt_natCast, BitVec.toNat_ofNat]; exact Nat.mod_eq_of_lt (by omega)
  show 0 ≤ IntKind.i64.wrap ((BitVec.ofInt 64 (a : Int) ^^^ BitVec.ofInt 64 (b : Int)).toNat : Int)
  rw [BitVec.toNat_xor, h1, h2]
  simp [IntKind.wrap, IntKind.bits, IntKind.signed]
  omega

def Bytes (l : List Int) : Prop := ∀ x ∈ l, 0 ≤ x ∧ x ≤ 255

theorem bytes_rd {l : List Int} (h : Bytes l) (i : Int) : 0 ≤ rd l i ∧ rd l i ≤ 255 := by
  unfold rd
  by_cases hi : i.toNat < l.length
  · rw [List.getD_eq_getElem?_getD, List.getElem?_eq_getElem hi]
    exact h _ (List.getElem_mem hi)
  · rw [List.getD_eq_getElem?_getD, List.getElem?_eq_none (by omega)]
    simp

theorem tmod_range (a n : Int) (ha : 0 ≤ a) (hn : 1 ≤ n) : 0 ≤ a.tmod n ∧ a.tmod n < n := by
  rw [Int.tmod_eq_emod_of_nonneg ha]
  exact ⟨Int.emod_nonneg _ (by omega), Int.emod_lt_of_pos _ (by omega)⟩

theorem pick_gives (l : List Int) (hl : Bytes l) (hll : l.length ≤ 2000) (p n : Int) (k : Nat) (hp : 0 ≤ p) (hp2 : p ≤ 1000000) (hn : 1 ≤ n) (hn2 : n ≤ 1000000) (hk : 1 ≤ k) :
    ∃ r, spec_l6Rd_pick.f k l p n = some (r, p + 1) ∧ 0 ≤ r ∧ r < n := by
  obtain ⟨k, rfl⟩ : ∃ m, k = m + 1 := ⟨k - 1, by omega⟩
  unfold spec_l6Rd_pick.f
  rw [if_neg (by omega)]
  have ew : wrap64 (p + 1) = p + 1 := by unfold wrap64; omega
  have ew1 : wrap64 (p + 1 - 1) = p := by unfold wrap64; omega
  rw [ew]
  simp only [spec_l6Rd_pick.j0]
  rw [ew1]
  by_cases h0 : ((l.length : Int) == 0) = true
  · rw [if_pos h0]
    exact ⟨0, rfl, by omega, by omega⟩
  · rw [if_neg h0]
    have hne : ¬ (l.length : Int) = 0 := by simpa using h0
    have hr0 := bytes_rd hl
    have ewr : ∀ i, wrap64 (rd l i) = rd l i := fun i => by have := hr0 i; unfold wrap64; omega
    by_cases h1 : p < (l.length : Int)
    · rw [if_pos h1, if_pos hp, if_neg (by omega), ewr]
      exact ⟨_, rfl, tmod_range _ _ (hr0 _).1 hn⟩
    · rw [if_neg h1, if_neg hne]
      have e7 : wrap64 (wrap64 (p * 7) + 3) = p * 7 + 3 := by unfold wrap64; omega
      rw [e7]
      have q1 := tmod_range p (l.length : Int) hp (by omega)
      have q2 := tmod_range (p * 7 + 3) (l.length : Int) (by omega) (by omega)
      rw [if_pos q1.1, if_pos q1.2, if_pos q2.1, if_pos q2.2, if_neg (by omega)]
      refine ⟨_, rfl, ?_⟩
      have d1 : 0 ≤ p.tdiv (l.length : Int) ∧ p.tdiv (l.length : Int) ≤ p := by
        rw [Int.tdiv_eq_ediv_of_nonneg hp]
        exact ⟨Int.ediv_nonneg hp (by omega), Int.ediv_le_self _ hp⟩
      have b1 := hr0 (p.tmod (l.length : Int))
      have b2 := hr0 ((p * 7 + 3).tmod (l.length : Int))
      rw [ewr, ewr]
      generalize rd l (p.tmod (l.length : Int)) = u at *
      generalize rd l ((p * 7 + 3).tmod (l.length : Int)) = v at *
      generalize p.tdiv (l.length : Int) = q at *
      clear ew ew1 e7
      have eX : ∃ X, wrap64 (wrap64 (wrap64 (wrap64 (u * 131) + wrap64 (v * 1117)) + wrap64 (p * 29)) + wrap64 (wrap64 q * 53)) = X ∧ 0 ≤ X ∧ X < 9223372036854775808 := by
        rw [w64 (u * 131) (by omega), w64 (v * 1117) (by omega), w64 (p * 29) (by omega), w64 q (by omega), w64 (q * 53) (by omega), w64 (u * 131 + v * 1117) (by omega),
          w64 (u * 131 + v * 1117 + p * 29) (by omega), w64 (u * 131 + v * 1117 + p * 29 + q * 53) (by omega)]
        exact ⟨_, rfl, by omega, by omega⟩
      obtain ⟨X, eX, x0, x1⟩ := eX
      rw [eX]
      have eY : ∃ Y, wrap64 (X.tdiv 64) = Y ∧ 0 ≤ Y ∧ Y < 9223372036854775808 := by
        rw [Int.tdiv_eq_ediv_of_nonneg x0, w64 (X / 64) (by omega)]
        exact ⟨_, rfl, by omega, by omega⟩
      obtain ⟨Y, eY, y0, y1⟩ := eY
      rw [eY]
      exact tmod_range _ _ (xor_pos X Y x0 y0 x1 y1) hn

theorem open_gives (l : List Int) (hl : Bytes l) : ∃ b, spec_l6Open.f l = some (b, 0) ∧ Bytes b ∧ b.length ≤ 2000 := by
  unfold spec_l6Open.f
  by_cases h : (l.length : Int) > 2000
  · rw [if_pos h, if_pos (by omega)]
    exact ⟨_, rfl, fun x hx => hl x (List.mem_of_mem_take hx), by simp; omega⟩
  · rw [if_neg h]
    exact ⟨_, rfl, hl, by omega⟩

theorem bytes_of_wf {l : List Int} (h : ∀ x ∈ l, (Lit.int .u8 x).wf = true) : Bytes l := by
  intro x hx
  have := h x hx
  have hmin : IntKind.u8.min = 0 := rfl
  have hmax : IntKind.u8.max = 255 := rfl
  simp only [Lit.wf, Bool.and_eq_true, decide_eq_true_eq] at this
  omega

/-! ### What is drawn: lists of at most eight numbers -/
theorem permL_gives (b : List Int) (hb : Bytes b) (hbl : b.length ≤ 2000) (k : Nat) (hk : 1 ≤ k) : ∀ (m : Nat) (cur : List Int) (q : Int), 0 ≤ q → q + m ≤ 100000 → m + cur.length ≤ 8 →
    ∃ out, permL k b m cur q = some (out, q + m) ∧ out.length = cur.length + m := by
  intro m
  induction m with
  | zero => intro cur q _ _ _; exact ⟨cur, by simp [permL], by omega⟩
  | succ m ih =>
    intro cur q h0 h1 hm
    obtain ⟨r, hr, r0, r1⟩ := pick_gives b hb hbl q ((cur.length : Int) + 1) k h0 (by omega) (by omega) (by omega) hk
    have hl := ins_length cur r.toNat (cur.length : Int) (by omega)
    obtain ⟨out, ho, hol⟩ := ih (ins cur r.toNat (cur.length : Int)) (q + 1) (by omega) (by omega) (by omega)
    refine ⟨out, ?_, by omega⟩
    simp only [permL]
    rw [hr, Option.bind_some]
    simp only
    rw [if_pos ⟨r0, by omega⟩, ho]
    congr 2
    omega

theorem perm_gives (b : List Int) (hb : Bytes b) (hbl : b.length ≤ 2000) (k : Nat) (hk : 1 ≤ k) (p most : Int) (h0 : 0 ≤ p) (h1 : p ≤ 50000) (m1 : 1 ≤ most) (m8 : most ≤ 8) :
    ∃ r p', spec_l92Perm.f k b p most = some (r, p') ∧ 1 ≤ r.length ∧ r.length ≤ 8 ∧ 0 ≤ p' ∧ p' ≤ p + 10 := by
  obtain ⟨t, ht, t0, t1⟩ := pick_gives b hb hbl p most k h0 (by omega) m1 (by omega) hk
  obtain ⟨out, ho, hol⟩ := permL_gives b hb hbl k hk (1 + t).toNat [] (p + 1) (by omega) (by omega) (by simp; omega)
  obtain ⟨s, hs, s0, s1⟩ := pick_gives b hb hbl (p + 1 + ((1 + t).toNat : Int)) 30 k (by omega) (by omega) (by omega) (by omega) hk
  simp only [List.length_nil, Nat.zero_add] at hol
  refine ⟨if s = 0 then out.set 0 (1 + t) else out, p + 1 + ((1 + t).toNat : Int) + 1, ?_, ?_, ?_, ?_, ?_⟩
  · unfold spec_l92Perm.f
    rw [ht, Option.bind_some]
    simp only
    rw [if_pos ⟨t0, by omega⟩, ho, Option.bind_some]
    simp only
    rw [hs, Option.bind_some]
  · split <;> (try simp only [List.length_set]) <;> omega
  · split <;> (try simp only [List.length_set]) <;> omega
  · omega
  · omega

theorem drawn_gives (l : List Int) (hl : Bytes l) (k : Nat) (hk : 1 ≤ k) (most : Int) (m1 : 1 ≤ most) (m8 : most ≤ 8) : ∃ r, drawn most k l = some r ∧ 1 ≤ r.length ∧ r.length ≤ 8 := by
  obtain ⟨b, hb, hbb, hbl⟩ := open_gives l hl
  obtain ⟨r, p', hr, hr1, hr8, _⟩ := perm_gives b hbb hbl k hk 0 most (by omega) (by omega) m1 m8
  refine ⟨r, ?_, hr1, hr8⟩
  unfold drawn
  rw [hb, Option.bind_some]
  simp only
  rw [hr, Option.bind_some]

theorem one_gives (l : List Int) (hl : Bytes l) (k : Nat) (hk : 1 ≤ k) : ∃ r, spec_l92One.f k l = some r ∧ 1 ≤ r.length ∧ r.length ≤ 8 := drawn_gives l hl k hk 7 (by omega) (by omega)
theorem in_gives (l : List Int) (hl : Bytes l) (k : Nat) (hk : 1 ≤ k) : ∃ r, spec_DrawPermIn.f k l = some r ∧ 1 ≤ r.length ∧ r.length ≤ 8 := drawn_gives l hl k hk 8 (by omega) (by omega)
theorem pair_gives (l : List Int) (hl : Bytes l) (k : Nat) (hk : 1 ≤ k) : ∃ r1 r2, spec_l92Pair.f k l = some (r1, r2) ∧ r1.length ≤ 8 ∧ r2.length ≤ 8 := by
  obtain ⟨b, hb, hbb, hbl⟩ := open_gives l hl
  obtain ⟨r1, p1, hr1, _, hr8, p10, p11⟩ := perm_gives b hbb hbl k hk 0 4 (by omega) (by omega) (by omega) (by omega)
  obtain ⟨s, hs, s0, s1⟩ := pick_gives b hbb hbl p1 24 k p10 (by omega) (by omega) (by omega) hk
  obtain ⟨r2, p2, hr2, _, hr8', _, _⟩ := perm_gives b hbb hbl k hk (p1 + 1) (3 + s / 23) (by omega) (by omega) (by omega) (by omega)
  refine ⟨r1, r2, ?_, hr8, hr8'⟩
  unfold spec_l92Pair.f
  rw [hb, Option.bind_some]
  simp only
  rw [hr1, Option.bind_some]
  simp only
  rw [hs, Option.bind_some]
  simp only
  rw [if_pos ⟨s0, s1⟩, hr2, Option.bind_some]

/-! ### What is drawn for fair and loose ones -/
theorem calmL_gives (b : List Int) (hb : Bytes b) (hbl : b.length ≤ 2000) (k : Nat) (hk : 1048590 ≤ k) : ∀ (m : Nat) (p : List Int) (q : Int), 0 ≤ q → q + 30 * m ≤ 40000 → p.length ≤ 8 →
    ∃ out q', calmL k b m p q = some (out, q') ∧ out.length ≤ 8 := by
  intro m
  induction m with
  | zero => intro p q _ _ hp; exact ⟨p, q, rfl, hp⟩
  | succ m ih =>
    intro p q h0 h1 hp
    obtain ⟨u, q1, hu, _, hu8, q10, q11⟩ := perm_gives b hb hbl k (by omega) q 2 h0 (by omega) (by omega) (by omega)
    obtain ⟨s, hs, s0, s1⟩ := pick_gives b hb hbl q1 2 k q10 (by omega) (by omega) (by omega) (by omega)
    have ea := spec_aside_eq p u (by omega) (by omega) k hk
    have la := asideR_length p u
    by_cases hs0 : s = 0
    · obtain ⟨v, q2, hv, _, hv8, q20, q21⟩ := perm_gives b hb hbl k (by omega) (q1 + 1) 2 (by omega) (by omega) (by omega) (by omega)
      have eu := spec_under_eq p v (by omega) (by omega) k hk
      have lu := underR_length p v
      obtain ⟨out, q', ho, hol⟩ := ih (if (underR p v).2 = true then (underR p v).1 else p) q2 q20 (by omega) (by split <;> omega)
      refine ⟨out, q', ?_, hol⟩
      simp only [calmL]
      rw [hu, Option.bind_some]
      simp only
      rw [ea, Option.bind_some, hs, Option.bind_some]
      simp only
      rw [if_pos hs0, hv, Option.bind_some]
      simp only
      rw [eu, Option.bind_some]
      exact ho
    · obtain ⟨out, q', ho, hol⟩ := ih (if (asideR p u).2 = true then (asideR p u).1 else p) (q1 + 1) (by omega) (by omega) (by split <;> omega)
      refine ⟨out, q', ?_, hol⟩
      simp only [calmL]
      rw [hu, Option.bind_some]
      simp only
      rw [ea, Option.bind_some, hs, Option.bind_some]
      simp only
      rw [if_neg hs0]
      exact ho

theorem calm_gives (l : List Int) (hl : Bytes l) (k : Nat) (hk : 1048590 ≤ k) : ∃ r, spec_l92Calm.f k l = some r ∧ r.length ≤ 8 := by
  obtain ⟨b, hb, hbb, hbl⟩ := open_gives l hl
  obtain ⟨s, hs, s0, s1⟩ := pick_gives b hbb hbl 0 3 k (by omega) (by omega) (by omega) (by omega) (by omega)
  unfold spec_l92Calm.f
  rw [hb, Option.bind_some]
  simp only
  rw [hs, Option.bind_some]
  simp only
  by_cases h : s = 0
  · obtain ⟨u, q1, hu, _, hu8, _⟩ := perm_gives b hbb hbl k (by omega) (0 + 1) 7 (by omega) (by omega) (by omega) (by omega)
    rw [if_pos h, hu, Option.bind_some]
    exact ⟨u, rfl, hu8⟩
  · obtain ⟨u, q1, hu, _, hu8, q10, q11⟩ := perm_gives b hbb hbl k (by omega) (0 + 1) 2 (by omega) (by omega) (by omega) (by omega)
    obtain ⟨out, q', ho, hol⟩ := calmL_gives b hbb hbl k hk 4 u q1 q10 (by omega) hu8
    rw [if_neg h, hu, Option.bind_some]
    simp only
    rw [ho, Option.bind_some]
    exact ⟨out, rfl, hol⟩

end Go.Proofs.Ytolegnmdcmfoiaa.QrL

/- Laws of the table's values, on numbers alone. No program. -/
import Derived.Test.YtjbijfdiojhmcaaSFuns
namespace Go.Proofs.Ytjbijfdiojhmcaa.S
open Go.RowKit
set_option linter.unusedVariables false
set_option linter.unusedSimpArgs false

theorem maxI_le (a b B : Int) : maxI a b ≤ B ↔ a ≤ B ∧ b ≤ B := by unfold maxI; split <;> omega
theorem le_minI (a b B : Int) : B ≤ minI a b ↔ B ≤ a ∧ B ≤ b := by unfold minI; split <;> omega

theorem cutW_le (V : Nat → Nat → Int) (x y : Nat) (o B : Int) (K : Nat) : cutW maxI V x y o K ≤ B ↔ o ≤ B ∧ ∀ k, 1 ≤ k → k ≤ K → V k y + V (x - k) y ≤ B := by
  induction K with
  | zero => simp only [cutW]; exact ⟨fun h => ⟨h, fun k a b => by omega⟩, fun h => h.1⟩
  | succ K ih =>
    simp only [cutW]
    rw [maxI_le, ih]
    constructor
    · rintro ⟨⟨h1, h2⟩, h3⟩
      refine ⟨h1, fun k a b => ?_⟩
      by_cases e : k = K + 1
      · rw [e]; exact h3
      · exact h2 k a (by omega)
    · rintro ⟨h1, h2⟩
      exact ⟨⟨h1, fun k a b => h2 k a (by omega)⟩, h2 (K + 1) (by omega) (by omega)⟩

theorem cutH_le (V : Nat → Nat → Int) (x y : Nat) (o B : Int) (K : Nat) : cutH maxI V x y o K ≤ B ↔ o ≤ B ∧ ∀ k, 1 ≤ k → k ≤ K → V x k + V x (y - k) ≤ B := by
  induction K with
  | zero => simp only [cutH]; exact ⟨fun h => ⟨h, fun k a b => by omega⟩, fun h => h.1⟩
  | succ K ih =>
    simp only [cutH]
    rw [maxI_le, ih]
    constructor
    · rintro ⟨⟨h1, h2⟩, h3⟩
      refine ⟨h1, fun k a b => ?_⟩
      by_cases e : k = K + 1
      · rw [e]; exact h3
      · exact h2 k a (by omega)
    · rintro ⟨h1, h2⟩
      exact ⟨⟨h1, fun k a b => h2 k a (by omega)⟩, h2 (K + 1) (by omega) (by omega)⟩

theorem le_cutW (V : Nat → Nat → Int) (x y : Nat) (o B : Int) (K : Nat) : B ≤ cutW minI V x y o K ↔ B ≤ o ∧ ∀ k, 1 ≤ k → k ≤ K → B ≤ V k y + V (x - k) y := by
  induction K with
  | zero => simp only [cutW]; exact ⟨fun h => ⟨h, fun k a b => by omega⟩, fun h => h.1⟩
  | succ K ih =>
    simp only [cutW]
    rw [le_minI, ih]
    constructor
    · rintro ⟨⟨h1, h2⟩, h3⟩
      refine ⟨h1, fun k a b => ?_⟩
      by_cases e : k = K + 1
      · rw [e]; exact h3
      · exact h2 k a (by omega)
    · rintro ⟨h1, h2⟩
      exact ⟨⟨h1, fun k a b => h2 k a (by omega)⟩, h2 (K + 1) (by omega) (by omega)⟩

theorem le_cutH (V : Nat → Nat → Int) (x y : Nat) (o B : Int) (K : Nat) : B ≤ cutH minI V x y o K ↔ B ≤ o ∧ ∀ k, 1 ≤ k → k ≤ K → B ≤ V x k + V x (y - k) := by
  induction K with
  | zero => simp only [cutH]; exact ⟨fun h => ⟨h, fun k a b => by omega⟩, fun h => h.1⟩
  | succ K ih =>
    simp only [cutH]
    rw [le_minI, ih]
    constructor
    · rintro ⟨⟨h1, h2⟩, h3⟩
      refine ⟨h1, fun k a b => ?_⟩
      by_cases e : k = K + 1
      · rw [e]; exact h3
      · exact h2 k a (by omega)
    · rintro ⟨h1, h2⟩
      exact ⟨⟨h1, fun k a b => h2 k a (by omega)⟩, h2 (K + 1) (by omega) (by omega)⟩

/-- All cuts of a sheet. -/
def cutB (be : Int → Int → Int) (V : Nat → Nat → Int) (x y : Nat) (o : Int) : Int := cutH be V x y (cutW be V x y o (x - 1)) (y - 1)

theorem cutB_le (V : Nat → Nat → Int) (x y : Nat) (o B : Int) : cutB maxI V x y o ≤ B ↔ o ≤ B ∧ (∀ k, 1 ≤ k → k < x → V k y + V (x - k) y ≤ B) ∧ ∀ k, 1 ≤ k → k < y → V x k + V x (y - k) ≤ B := by
  unfold cutB
  rw [cutH_le, cutW_le]
  exact ⟨fun ⟨⟨a, b⟩, c⟩ => ⟨a, fun k h1 h2 => b k h1 (by omega), fun k h1 h2 => c k h1 (by omega)⟩, fun ⟨a, b, c⟩ => ⟨⟨a, fun k h1 h2 => b k h1 (by omega)⟩, fun k h1 h2 => c k h1 (by omega)⟩⟩

theorem le_cutB (V : Nat → Nat → Int) (x y : Nat) (o B : Int) : B ≤ cutB minI V x y o ↔ B ≤ o ∧ (∀ k, 1 ≤ k → k < x → B ≤ V k y + V (x - k) y) ∧ ∀ k, 1 ≤ k → k < y → B ≤ V x k + V x (y - k) := by
  unfold cutB
  rw [le_cutH, le_cutW]
  exact ⟨fun ⟨⟨a, b⟩, c⟩ => ⟨a, fun k h1 h2 => b k h1 (by omega), fun k h1 h2 => c k h1 (by omega)⟩, fun ⟨a, b, c⟩ => ⟨⟨a, fun k h1 h2 => b k h1 (by omega)⟩, fun k h1 h2 => c k h1 (by omega)⟩⟩

/-- Half of the cuts tell as much. -/
theorem cutW_half (V : Nat → Nat → Int) (x y : Nat) (o : Int) : cutW maxI V x y o (x / 2) = cutW maxI V x y o (x - 1) := by
  have h1 := (cutW_le V x y o _ (x / 2)).1 (Int.le_refl _)
  have h2 := (cutW_le V x y o _ (x - 1)).1 (Int.le_refl _)
  refine Int.le_antisymm ((cutW_le V x y o _ _).2 ⟨h2.1, fun k a b => h2.2 k a (by omega)⟩) ((cutW_le V x y o _ _).2 ⟨h1.1, fun k a b => ?_⟩)
  by_cases hk : k ≤ x / 2
  · exact h1.2 k a hk
  · have := h1.2 (x - k) (by omega) (by omega)
    rw [show x - (x - k) = k by omega] at this
    omega

theorem cutH_half (V : Nat → Nat → Int) (x y : Nat) (o : Int) : cutH maxI V x y o (y / 2) = cutH maxI V x y o (y - 1) := by
  have h1 := (cutH_le V x y o _ (y / 2)).1 (Int.le_refl _)
  have h2 := (cutH_le V x y o _ (y - 1)).1 (Int.le_refl _)
  refine Int.le_antisymm ((cutH_le V x y o _ _).2 ⟨h2.1, fun k a b => h2.2 k a (by omega)⟩) ((cutH_le V x y o _ _).2 ⟨h1.1, fun k a b => ?_⟩)
  by_cases hk : k ≤ y / 2
  · exact h1.2 k a hk
  · have := h1.2 (y - k) (by omega) (by omega)
    rw [show y - (y - k) = k by omega] at this
    omega

theorem cutW_congr0 (be : Int → Int → Int) (V V' : Nat → Nat → Int) (x y : Nat) (o : Int) (K : Nat) (hK : K ≤ x - 1) (h : ∀ k, 1 ≤ k → k < x → V k y = V' k y) :
    cutW be V x y o K = cutW be V' x y o K := by
  induction K with
  | zero => rfl
  | succ K ih => simp only [cutW]; rw [ih (by omega), h (K + 1) (by omega) (by omega), h (x - (K + 1)) (by omega) (by omega)]

theorem cutH_congr0 (be : Int → Int → Int) (V V' : Nat → Nat → Int) (x y : Nat) (o : Int) (K : Nat) (hK : K ≤ y - 1) (h : ∀ k, 1 ≤ k → k < y → V x k = V' x k) :
    cutH be V x y o K = cutH be V' x y o K := by
  induction K with
  | zero => rfl
  | succ K ih => simp only [cutH]; rw [ih (by omega), h (K + 1) (by omega) (by omega), h (y - (K + 1)) (by omega) (by omega)]

theorem cutB_congr (be : Int → Int → Int) (V V' : Nat → Nat → Int) (x y : Nat) (o : Int) (hw : ∀ k, 1 ≤ k → k < x → V k y = V' k y) (hh : ∀ k, 1 ≤ k → k < y → V x k = V' x k) : cutB be V x y o = cutB be V' x y o := by
  unfold cutB
  rw [cutW_congr0 be V V' x y o _ (Nat.le_refl _) hw, cutH_congr0 be V V' x y _ _ (Nat.le_refl _) hh]

/-- The recurrence from sides of nought on. -/
def Vz (al be : Int → Int → Int) (x y : Nat) : Int := Vf al be (x + y + 1) x y

theorem Vf_enough0 (al be : Int → Int → Int) (d : Nat) : ∀ x y, x + y < d → Vf al be d x y = Vf al be (d + 1) x y := by
  induction d with
  | zero => intro x y h; omega
  | succ d ih =>
    intro x y h
    exact cutB_congr be (Vf al be d) (Vf al be (d + 1)) x y (al x y) (fun k a b => ih k y (by omega)) (fun k a b => ih x k (by omega))

theorem Vf_more0 (al be : Int → Int → Int) (x y n : Nat) : Vf al be (x + y + 1 + n) x y = Vz al be x y := by
  induction n with
  | zero => rfl
  | succ n ih => rw [← ih, ← Nat.add_assoc]; exact (Vf_enough0 al be (x + y + 1 + n) x y (by omega)).symm

theorem Vz_fills (al be : Int → Int → Int) (x y : Nat) : Vz al be x y = cutB be (Vz al be) x y (al x y) := by
  show cutB be (Vf al be (x + y)) x y (al x y) = _
  refine cutB_congr be _ _ x y _ (fun k a b => ?_) (fun k a b => ?_)
  · have := Vf_more0 al be k y (x - 1 - k)
    rwa [show k + y + 1 + (x - 1 - k) = x + y by omega] at this
  · have := Vf_more0 al be x k (y - 1 - k)
    rwa [show x + k + 1 + (y - 1 - k) = x + y by omega] at this

theorem Vz_eq (al be : Int → Int → Int) (x y : Nat) (hx : 1 ≤ x) (hy : 1 ≤ y) : Vz al be x y = Vt al be x y := Vf_more al be x y hx hy 1

def m1 (x : Nat) : Nat := if x = 0 then 1 else x
theorem m1_pos (x : Nat) : 1 ≤ m1 x := by unfold m1; split <;> omega
theorem m1_eq (x : Nat) (h : 1 ≤ x) : m1 x = x := by unfold m1; rw [if_neg (by omega)]

theorem Vz_bound (al : Int → Int → Int) (L M : Int) (hM : 0 ≤ M) (h : ∀ x y : Nat, x ≤ 12 → y ≤ 12 → L ≤ al x y ∧ al x y ≤ M) : ∀ n x y, x + y ≤ n → x ≤ 12 → y ≤ 12 →
    L ≤ Vz al maxI x y ∧ Vz al maxI x y ≤ M * ((m1 x * m1 y : Nat) : Int) := by
  intro n
  induction n with
  | zero =>
    intro x y e hx hy
    obtain ⟨rfl, rfl⟩ : x = 0 ∧ y = 0 := by omega
    have h0 := h 0 0 (by omega) (by omega)
    show L ≤ al 0 0 ∧ al 0 0 ≤ M * ((m1 0 * m1 0 : Nat) : Int)
    have e1 : ((m1 0 * m1 0 : Nat) : Int) = 1 := rfl
    rw [e1, Int.mul_one]
    exact h0
  | succ n ih =>
    intro x y e hx hy
    have h0 := h x y hx hy
    rw [Vz_fills]
    refine ⟨Int.le_trans h0.1 ((cutB_le _ x y _ _).1 (Int.le_refl _)).1, (cutB_le _ x y _ _).2 ⟨?_, fun k a b => ?_, fun k a b => ?_⟩⟩
    · refine Int.le_trans h0.2 ?_
      have h1 : 1 ≤ m1 x * m1 y := Nat.mul_pos (m1_pos x) (m1_pos y)
      calc M = M * 1 := (Int.mul_one M).symm
        _ ≤ M * ((m1 x * m1 y : Nat) : Int) := Int.mul_le_mul_of_nonneg_left (by omega) hM
    · have e1 := (ih k y (by omega) (by omega) hy).2
      have e2 := (ih (x - k) y (by omega) (by omega) hy).2
      have e3 : M * ((m1 k * m1 y : Nat) : Int) + M * ((m1 (x - k) * m1 y : Nat) : Int) = M * ((m1 x * m1 y : Nat) : Int) := by
        rw [← Int.mul_add, ← Int.natCast_add, ← Nat.add_mul, m1_eq k a, m1_eq (x - k) (by omega), m1_eq x (by omega), show k + (x - k) = x by omega]
      omega
    · have e1 := (ih x k (by omega) hx (by omega)).2
      have e2 := (ih x (y - k) (by omega) hx (by omega)).2
      have e3 : M * ((m1 x * m1 k : Nat) : Int) + M * ((m1 x * m1 (y - k) : Nat) : Int) = M * ((m1 x * m1 y : Nat) : Int) := by
        rw [← Int.mul_add, ← Int.natCast_add, ← Nat.mul_add, m1_eq k a, m1_eq (y - k) (by omega), m1_eq y (by omega), show k + (y - k) = y by omega]
      omega

theorem Fills_unique {al be : Int → Int → Int} {V V' : Nat → Nat → Int} (h : Fills al be V) (h' : Fills al be V') : ∀ n x y, x + y ≤ n → 1 ≤ x → x ≤ 12 → 1 ≤ y → y ≤ 12 → V x y = V' x y := by
  intro n
  induction n with
  | zero => intro x y e; omega
  | succ n ih =>
    intro x y e a b c d
    rw [h x y a b c d, h' x y a b c d]
    exact cutB_congr be V V' x y _ (fun k p q => ih k y (by omega) p (by omega) c d) (fun k p q => ih x k (by omega) a b p (by omega))

theorem Vt_cut (al be : Int → Int → Int) (x y : Nat) (a : 1 ≤ x) (b : x ≤ 12) (c : 1 ≤ y) (d : y ≤ 12) : Vt al be x y = cutB be (Vt al be) x y (al x y) := Vt_fills al be x y a b c d

/-! ### Least squares -/
theorem cutW_neg (V : Nat → Nat → Int) (x y : Nat) (o : Int) (K : Nat) : cutW maxI (fun a b => -V a b) x y (-o) K = -cutW minI V x y o K := by
  induction K with
  | zero => rfl
  | succ K ih => simp only [cutW]; rw [ih]; unfold maxI minI; split <;> split <;> omega
theorem cutH_neg (V : Nat → Nat → Int) (x y : Nat) (o : Int) (K : Nat) : cutH maxI (fun a b => -V a b) x y (-o) K = -cutH minI V x y o K := by
  induction K with
  | zero => rfl
  | succ K ih => simp only [cutH]; rw [ih]; unfold maxI minI; split <;> split <;> omega
theorem cutB_neg (V : Nat → Nat → Int) (x y : Nat) (o : Int) : cutB maxI (fun a b => -V a b) x y (-o) = -cutB minI V x y o := by
  unfold cutB; rw [cutW_neg, cutH_neg]

def aSq (x y : Int) : Int := if x = y then -1 else -100000

theorem prodLe (x y : Nat) (b : x ≤ 12) (d : y ≤ 12) : x * y ≤ 144 := Nat.mul_le_mul b d

theorem sq_area (x y : Nat) (a : 1 ≤ x) (b : x ≤ 12) (c : 1 ≤ y) (d : y ≤ 12) : Vt alSquare minI x y ≤ ((x * y : Nat) : Int) := by
  have h := ((le_cutB (Vt alSquare minI) x y (alSquare x y) _).1 (Int.le_refl _)).1
  rw [← Vt_cut alSquare minI x y a b c d] at h
  refine Int.le_trans h ?_
  have h1 : 1 ≤ x * y := Nat.mul_pos a c
  unfold alSquare
  split
  · omega
  · rw [← Int.natCast_mul]; omega

theorem sq_neg (x y : Nat) (a : 1 ≤ x) (b : x ≤ 12) (c : 1 ≤ y) (d : y ≤ 12) : Vt aSq maxI x y = -Vt alSquare minI x y := by
  refine Fills_unique (Vt_fills aSq maxI) (V' := fun x y => -Vt alSquare minI x y) ?_ (x + y) x y (Nat.le_refl _) a b c d
  intro x y a b c d
  show -Vt alSquare minI x y = cutB maxI (fun x y => -Vt alSquare minI x y) x y (aSq x y)
  rw [Vt_cut alSquare minI x y a b c d]
  by_cases e : (x : Int) = (y : Int)
  · have e1 : aSq x y = -(1 : Int) := if_pos e
    have e2 : alSquare x y = 1 := if_pos e
    rw [e1, e2, cutB_neg]
  · have e1 : aSq x y = -(100000 : Int) := if_neg e
    have e2 : alSquare x y = ((x * y : Nat) : Int) := by rw [Int.natCast_mul]; exact if_neg e
    rw [e1, e2, cutB_neg]
    have hp := prodLe x y b d
    have hc : ∀ B, (∀ k, 1 ≤ k → k < x → B ≤ Vt alSquare minI k y + Vt alSquare minI (x - k) y) → (∀ k, 1 ≤ k → k < y → B ≤ Vt alSquare minI x k + Vt alSquare minI x (y - k)) → B ≤ ((x * y : Nat) : Int) := by
      intro B h1 h2
      by_cases hx : 1 < x
      · have q := h1 1 (by omega) hx
        have q1 := sq_area 1 y (by omega) (by omega) c d
        have q2 := sq_area (x - 1) y (by omega) (by omega) c d
        have q3 : ((1 * y : Nat) : Int) + (((x - 1) * y : Nat) : Int) = ((x * y : Nat) : Int) := by
          rw [← Int.natCast_add, ← Nat.add_mul, show 1 + (x - 1) = x by omega]
        omega
      · have hy : 1 < y := by omega
        have q := h2 1 (by omega) hy
        have q1 := sq_area x 1 a b (by omega) (by omega)
        have q2 := sq_area x (y - 1) a b (by omega) (by omega)
        have q3 : ((x * 1 : Nat) : Int) + ((x * (y - 1) : Nat) : Int) = ((x * y : Nat) : Int) := by
          rw [← Int.natCast_add, ← Nat.mul_add, show 1 + (y - 1) = y by omega]
        omega
    have h1 := (le_cutB (Vt alSquare minI) x y ((x * y : Nat) : Int) _).1 (Int.le_refl _)
    have h2 := (le_cutB (Vt alSquare minI) x y 100000 _).1 (Int.le_refl _)
    have g1 := (le_cutB (Vt alSquare minI) x y 100000 _).2 ⟨by have := h1.1; omega, h1.2⟩
    have g2 := (le_cutB (Vt alSquare minI) x y ((x * y : Nat) : Int) _).2 ⟨hc _ h2.2.1 h2.2.2, h2.2⟩
    omega

/-! ### Turned sheets -/
theorem cutB_turn_max (V : Nat → Nat → Int) (x y : Nat) (o : Int) : cutB maxI V x y o = cutB maxI (fun a b => V b a) y x o := by
  have h1 := (cutB_le V x y o _).1 (Int.le_refl _)
  have h2 := (cutB_le (fun a b => V b a) y x o _).1 (Int.le_refl _)
  exact Int.le_antisymm ((cutB_le _ _ _ _ _).2 ⟨h2.1, h2.2.2, h2.2.1⟩) ((cutB_le _ _ _ _ _).2 ⟨h1.1, h1.2.2, h1.2.1⟩)
theorem cutB_turn_min (V : Nat → Nat → Int) (x y : Nat) (o : Int) : cutB minI V x y o = cutB minI (fun a b => V b a) y x o := by
  have h1 := (le_cutB V x y o _).1 (Int.le_refl _)
  have h2 := (le_cutB (fun a b => V b a) y x o _).1 (Int.le_refl _)
  exact Int.le_antisymm ((le_cutB _ _ _ _ _).2 ⟨h1.1, h1.2.2, h1.2.1⟩) ((le_cutB _ _ _ _ _).2 ⟨h2.1, h2.2.2, h2.2.1⟩)

theorem Vt_turn_max (al : Int → Int → Int) (hs : ∀ x y, al x y = al y x) (x y : Nat) (a : 1 ≤ x) (b : x ≤ 12) (c : 1 ≤ y) (d : y ≤ 12) : Vt al maxI y x = Vt al maxI x y := by
  refine (Fills_unique (Vt_fills al maxI) (V' := fun x y => Vt al maxI y x) ?_ (x + y) x y (Nat.le_refl _) a b c d).symm
  intro x y a b c d
  show Vt al maxI y x = cutB maxI (fun x y => Vt al maxI y x) x y (al x y)
  rw [Vt_cut al maxI y x c d a b, cutB_turn_max, hs y x]
theorem Vt_turn_min (al : Int → Int → Int) (hs : ∀ x y, al x y = al y x) (x y : Nat) (a : 1 ≤ x) (b : x ≤ 12) (c : 1 ≤ y) (d : y ≤ 12) : Vt al minI y x = Vt al minI x y := by
  refine (Fills_unique (Vt_fills al minI) (V' := fun x y => Vt al minI y x) ?_ (x + y) x y (Nat.le_refl _) a b c d).symm
  intro x y a b c d
  show Vt al minI y x = cutB minI (fun x y => Vt al minI y x) x y (al x y)
  rw [Vt_cut al minI y x c d a b, cutB_turn_min, hs y x]

/-! ### Greatest values: cuts add up -/
theorem Vt_alone (al : Int → Int → Int) (x y : Nat) (a : 1 ≤ x) (b : x ≤ 12) (c : 1 ≤ y) (d : y ≤ 12) : al x y ≤ Vt al maxI x y := by
  rw [Vt_cut al maxI x y a b c d]; exact ((cutB_le _ x y _ _).1 (Int.le_refl _)).1
theorem Vt_addW (al : Int → Int → Int) (x k y : Nat) (a : 1 ≤ k) (e : k < x) (b : x ≤ 12) (c : 1 ≤ y) (d : y ≤ 12) : Vt al maxI k y + Vt al maxI (x - k) y ≤ Vt al maxI x y := by
  rw [Vt_cut al maxI x y (by omega) b c d]; exact ((cutB_le _ x y _ _).1 (Int.le_refl _)).2.1 k a e
theorem Vt_addH (al : Int → Int → Int) (x k y : Nat) (a : 1 ≤ x) (b : x ≤ 12) (c : 1 ≤ k) (e : k < y) (d : y ≤ 12) : Vt al maxI x k + Vt al maxI x (y - k) ≤ Vt al maxI x y := by
  rw [Vt_cut al maxI x y a b (by omega) d]; exact ((cutB_le _ x y _ _).1 (Int.le_refl _)).2.2 k c e

section
set_option linter.unusedSectionVars false
variable {al : Int → Int → Int} (h0 : ∀ x y : Nat, 1 ≤ x → x ≤ 12 → 1 ≤ y → y ≤ 12 → 0 ≤ Vt al maxI x y)
include h0
theorem Vt_moreW (x x' y : Nat) (a : 1 ≤ x) (e : x ≤ x') (b : x' ≤ 12) (c : 1 ≤ y) (d : y ≤ 12) : Vt al maxI x y ≤ Vt al maxI x' y := by
  by_cases q : x = x'
  · rw [q]; exact Int.le_refl _
  · have h1 := Vt_addW al x' x y a (by omega) b c d
    have h2 := h0 (x' - x) y (by omega) (by omega) c d
    omega
theorem Vt_moreH (x y y' : Nat) (a : 1 ≤ x) (b : x ≤ 12) (c : 1 ≤ y) (e : y ≤ y') (d : y' ≤ 12) : Vt al maxI x y ≤ Vt al maxI x y' := by
  by_cases q : y = y'
  · rw [q]; exact Int.le_refl _
  · have h1 := Vt_addH al x y y' a b c (by omega) d
    have h2 := h0 x (y' - y) a b (by omega) (by omega)
    omega
theorem Vt_timesW (p y : Nat) (hp : 1 ≤ p) (c : 1 ≤ y) (d : y ≤ 12) (m : Nat) : 1 ≤ m → m * p ≤ 12 → (m : Int) * Vt al maxI p y ≤ Vt al maxI (m * p) y := by
  induction m with
  | zero => intro h; omega
  | succ m ih =>
    intro _ hm
    have e : (m + 1) * p = m * p + p := Nat.succ_mul m p
    by_cases q : m = 0
    · subst q; simp
    · have h1 := ih (by omega) (by omega)
      have hpos : 1 ≤ m * p := Nat.mul_pos (by omega) hp
      have h2 := Vt_addW al ((m + 1) * p) (m * p) y hpos (by omega) hm c d
      rw [show (m + 1) * p - m * p = p by omega] at h2
      have e2 : ((m + 1 : Nat) : Int) * Vt al maxI p y = (m : Int) * Vt al maxI p y + Vt al maxI p y := by rw [Int.natCast_add, Int.add_mul]; simp
      omega
theorem Vt_timesH (x q : Nat) (a : 1 ≤ x) (b : x ≤ 12) (hq : 1 ≤ q) (m : Nat) : 1 ≤ m → m * q ≤ 12 → (m : Int) * Vt al maxI x q ≤ Vt al maxI x (m * q) := by
  induction m with
  | zero => intro h; omega
  | succ m ih =>
    intro _ hm
    have e : (m + 1) * q = m * q + q := Nat.succ_mul m q
    by_cases z : m = 0
    · subst z; simp
    · have h1 := ih (by omega) (by omega)
      have hpos : 1 ≤ m * q := Nat.mul_pos (by omega) hq
      have h2 := Vt_addH al x (m * q) ((m + 1) * q) a b hpos (by omega) hm
      rw [show (m + 1) * q - m * q = q by omega] at h2
      have e2 : ((m + 1 : Nat) : Int) * Vt al maxI x q = (m : Int) * Vt al maxI x q + Vt al maxI x q := by rw [Int.natCast_add, Int.add_mul]; simp
      omega
/-- As many as lie in rows, each worth v. -/
theorem Vt_rows (x y p q : Nat) (v : Int) (hv0 : 0 ≤ v) (a : 1 ≤ x) (b : x ≤ 12) (c : 1 ≤ y) (d : y ≤ 12) (hp : 1 ≤ p) (hq : 1 ≤ q) (hv : p ≤ 12 → q ≤ 12 → v ≤ Vt al maxI p q) :
    (((x / p) * (y / q) : Nat) : Int) * v ≤ Vt al maxI x y := by
  by_cases h1 : x / p = 0
  · rw [h1]; simp; exact h0 x y a b c d
  by_cases h2 : y / q = 0
  · rw [h2]; simp; exact h0 x y a b c d
  have e1 : x / p * p ≤ x := Nat.div_mul_le_self x p
  have e2 : y / q * q ≤ y := Nat.div_mul_le_self y q
  have p1 : 1 ≤ x / p := Nat.pos_of_ne_zero h1
  have p2 : 1 ≤ y / q := Nat.pos_of_ne_zero h2
  generalize x / p = m at *
  generalize y / q = n at *
  have f1 : p ≤ m * p := Nat.le_mul_of_pos_left p p1
  have f2 : q ≤ n * q := Nat.le_mul_of_pos_left q p2
  have g0 := hv (by omega) (by omega)
  have g1 := Vt_timesH h0 p q hp (by omega) hq n p2 (by omega)
  have g2 := Vt_timesW h0 p (n * q) hp (by omega) (by omega) m p1 (by omega)
  have g3 := Vt_moreH h0 (m * p) (n * q) y (by omega) (by omega) (by omega) e2 d
  have g4 := Vt_moreW h0 (m * p) x y (by omega) e1 b c d
  calc ((m * n : Nat) : Int) * v = (m : Int) * ((n : Int) * v) := by rw [Int.natCast_mul, Int.mul_assoc]
    _ ≤ (m : Int) * ((n : Int) * Vt al maxI p q) := Int.mul_le_mul_of_nonneg_left (Int.mul_le_mul_of_nonneg_left g0 (by omega)) (by omega)
    _ ≤ (m : Int) * Vt al maxI p (n * q) := Int.mul_le_mul_of_nonneg_left g1 (by omega)
    _ ≤ Vt al maxI (m * p) (n * q) := g2
    _ ≤ Vt al maxI x y := Int.le_trans g3 g4
end

/-! ### Squares and the greedy ones -/
theorem sq_two (x y : Nat) (a : 1 ≤ x) (b : x ≤ 12) (c : 1 ≤ y) (d : y ≤ 12) (h : x ≠ y) : 2 ≤ Vt alSquare minI x y := by
  rw [Vt_cut alSquare minI x y a b c d]
  refine (le_cutB _ x y _ _).2 ⟨?_, fun k p q => ?_, fun k p q => ?_⟩
  · unfold alSquare
    rw [if_neg (by omega), ← Int.natCast_mul]
    have : 2 ≤ x * y := by
      by_cases e : 2 ≤ x
      · exact Nat.le_trans e (Nat.le_mul_of_pos_right x c)
      · obtain rfl : x = 1 := by omega
        omega
    omega
  · have h1 := (Vt_square_bound k y p (by omega) c d).1
    have h2 := (Vt_square_bound (x - k) y (by omega) (by omega) c d).1
    omega
  · have h1 := (Vt_square_bound x k a b p (by omega)).1
    have h2 := (Vt_square_bound x (y - k) a b (by omega) (by omega)).1
    omega
theorem sq_one (x : Nat) (a : 1 ≤ x) (b : x ≤ 12) : Vt alSquare minI x x = 1 := by
  have h := ((le_cutB (Vt alSquare minI) x x (alSquare x x) _).1 (Int.le_refl _)).1
  rw [← Vt_cut alSquare minI x x a b a b] at h
  have h2 := (Vt_square_bound x x a b a b).1
  have e : alSquare x x = 1 := if_pos rfl
  omega
theorem sq_cut (x k y : Nat) (a : 1 ≤ k) (e : k < x) (b : x ≤ 12) (c : 1 ≤ y) (d : y ≤ 12) : Vt alSquare minI x y ≤ Vt alSquare minI k y + Vt alSquare minI (x - k) y := by
  rw [Vt_cut alSquare minI x y (by omega) b c d]; exact ((le_cutB _ x y _ _).1 (Int.le_refl _)).2.1 k a e
theorem alSquare_turn (x y : Int) : alSquare x y = alSquare y x := by
  unfold alSquare
  by_cases h : x = y
  · rw [if_pos h, if_pos h.symm]
  · rw [if_neg h, if_neg (fun e => h e.symm), Int.mul_comm]
/-- Any count that a greedy taker tells is no less. -/
theorem sq_greedy (g : Nat → Nat → Int) (h1 : ∀ x, 1 ≤ x → x ≤ 12 → 1 ≤ g x x) (h2 : ∀ x y, 1 ≤ x → x ≤ 12 → 1 ≤ y → y ≤ 12 → g x y = g y x) (h3 : ∀ x y, x ≤ 12 → 1 ≤ y → y < x → g x y = g (x - y) y + 1) :
    ∀ n x y, x + y ≤ n → 1 ≤ x → x ≤ 12 → 1 ≤ y → y ≤ 12 → Vt alSquare minI x y ≤ g x y := by
  intro n
  induction n with
  | zero => intro x y e; omega
  | succ n ih =>
    intro x y e a b c d
    have big : ∀ x y, x + y ≤ n + 1 → x ≤ 12 → 1 ≤ y → y < x → Vt alSquare minI x y ≤ g x y := by
      intro x y e b c q
      have q1 := sq_cut x y y c q b c (by omega)
      have q2 := sq_one y c (by omega)
      have q3 := ih (x - y) y (by omega) (by omega) (by omega) c (by omega)
      have q4 := h3 x y b c q
      omega
    by_cases q : x = y
    · subst q; rw [sq_one x a b]; exact h1 x a b
    · by_cases q2 : y < x
      · exact big x y e b c q2
      · have := big y x (by omega) d a (by omega)
        rw [Vt_turn_min alSquare alSquare_turn x y a b c d, ← h2 x y a b c d] at this
        exact this
end Go.Proofs.Ytjbijfdiojhmcaa.S

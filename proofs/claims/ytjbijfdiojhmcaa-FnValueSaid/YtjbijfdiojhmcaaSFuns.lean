/- What sheets are worth, as functions on numbers: the table's recurrence, its bounds. No program. -/
import Derived.Test.YtjbijfdiojhmcaaSTab
namespace Go.Proofs.Ytjbijfdiojhmcaa.S
open Go.RowKit
set_option linter.unusedVariables false
set_option linter.unusedSimpArgs false

theorem cutW_congr (be : Int → Int → Int) (V V' : Nat → Nat → Int) (x y : Nat) (o : Int) (K : Nat) (hK : K < x) (h : ∀ k, 1 ≤ k → k < x → V k y = V' k y) :
    cutW be V x y o K = cutW be V' x y o K := by
  induction K with
  | zero => rfl
  | succ K ih => simp only [cutW]; rw [ih (by omega), h (K + 1) (by omega) hK, h (x - (K + 1)) (by omega) (by omega)]

theorem cutH_congr (be : Int → Int → Int) (V V' : Nat → Nat → Int) (x y : Nat) (o : Int) (K : Nat) (hK : K < y) (h : ∀ k, 1 ≤ k → k < y → V x k = V' x k) :
    cutH be V x y o K = cutH be V' x y o K := by
  induction K with
  | zero => rfl
  | succ K ih => simp only [cutH]; rw [ih (by omega), h (K + 1) (by omega) hK, h (y - (K + 1)) (by omega) (by omega)]

/-- The recurrence, with so many steps to go. -/
def Vf (al be : Int → Int → Int) : Nat → Nat → Nat → Int
  | 0, _, _ => 0
  | d + 1, x, y => cutH be (Vf al be d) x y (cutW be (Vf al be d) x y (al x y) (x - 1)) (y - 1)

def Vt (al be : Int → Int → Int) (x y : Nat) : Int := Vf al be (x + y) x y

theorem Vf_enough (al be : Int → Int → Int) (d : Nat) : ∀ x y, 1 ≤ x → 1 ≤ y → x + y ≤ d → Vf al be d x y = Vf al be (d + 1) x y := by
  induction d with
  | zero => intro x y hx hy h; omega
  | succ d ih =>
    intro x y hx hy h
    have e1 : cutW be (Vf al be d) x y (al x y) (x - 1) = cutW be (Vf al be (d + 1)) x y (al x y) (x - 1) :=
      cutW_congr be _ _ x y _ _ (by omega) (fun k h1 h2 => ih k y h1 hy (by omega))
    show cutH be (Vf al be d) x y (cutW be (Vf al be d) x y (al x y) (x - 1)) (y - 1) = cutH be (Vf al be (d + 1)) x y (cutW be (Vf al be (d + 1)) x y (al x y) (x - 1)) (y - 1)
    rw [e1]
    exact cutH_congr be _ _ x y _ _ (by omega) (fun k h1 h2 => ih x k hx h1 (by omega))

theorem Vf_more (al be : Int → Int → Int) (x y : Nat) (hx : 1 ≤ x) (hy : 1 ≤ y) (n : Nat) : Vf al be (x + y + n) x y = Vt al be x y := by
  induction n with
  | zero => rfl
  | succ n ih => rw [← ih, ← Nat.add_assoc]; exact (Vf_enough al be (x + y + n) x y hx hy (by omega)).symm

theorem Vt_fills (al be : Int → Int → Int) : Fills al be (Vt al be) := by
  intro x y hx _ hy _
  have hd : x + y = (x + y - 1) + 1 := by omega
  have e : Vt al be x y = cutH be (Vf al be (x + y - 1)) x y (cutW be (Vf al be (x + y - 1)) x y (al x y) (x - 1)) (y - 1) := by
    unfold Vt
    rw [hd]
    rfl
  rw [e]
  have e1 : cutW be (Vf al be (x + y - 1)) x y (al x y) (x - 1) = cutW be (Vt al be) x y (al x y) (x - 1) :=
    cutW_congr be _ _ x y _ _ (by omega) (fun k h1 h2 => by
      have := Vf_more al be k y h1 hy (x - 1 - k)
      rwa [show k + y + (x - 1 - k) = x + y - 1 by omega] at this)
  rw [e1]
  exact cutH_congr be _ _ x y _ _ (by omega) (fun k h1 h2 => by
    have := Vf_more al be x k hx h1 (y - 1 - k)
    rwa [show x + k + (y - 1 - k) = x + y - 1 by omega] at this)

/-! ### The greatest, the least -/
theorem cutW_inv (be : Int → Int → Int) (V : Nat → Nat → Int) (x y : Nat) (o : Int) (P : Int → Prop) (ho : P o) (hb : ∀ a k, P a → 1 ≤ k → k < x → P (be a (V k y + V (x - k) y))) (K : Nat) (hK : K < x) : P (cutW be V x y o K) := by
  induction K with
  | zero => exact ho
  | succ K ih => exact hb _ (K + 1) (ih (by omega)) (by omega) hK
theorem cutH_inv (be : Int → Int → Int) (V : Nat → Nat → Int) (x y : Nat) (o : Int) (P : Int → Prop) (ho : P o) (hb : ∀ a k, P a → 1 ≤ k → k < y → P (be a (V x k + V x (y - k)))) (K : Nat) (hK : K < y) : P (cutH be V x y o K) := by
  induction K with
  | zero => exact ho
  | succ K ih => exact hb _ (K + 1) (ih (by omega)) (by omega) hK

/-- A law on all values, by cuts. -/
theorem Vt_inv (al be : Int → Int → Int) (P : Nat → Nat → Int → Prop) (h0 : ∀ x y, 1 ≤ x → x ≤ 12 → 1 ≤ y → y ≤ 12 → P x y (al x y))
    (hw : ∀ x y k a b c, 1 ≤ k → k < x → x ≤ 12 → 1 ≤ y → y ≤ 12 → P x y a → P k y b → P (x - k) y c → P x y (be a (b + c)))
    (hh : ∀ x y k a b c, 1 ≤ k → k < y → 1 ≤ x → x ≤ 12 → y ≤ 12 → P x y a → P x k b → P x (y - k) c → P x y (be a (b + c))) :
    ∀ n x y, x + y ≤ n → 1 ≤ x → x ≤ 12 → 1 ≤ y → y ≤ 12 → P x y (Vt al be x y) := by
  intro n
  induction n with
  | zero => intro x y h hx; omega
  | succ n ih =>
    intro x y h hx hx2 hy hy2
    rw [Vt_fills al be x y hx hx2 hy hy2]
    refine cutH_inv be _ x y _ (P x y) ?_ ?_ _ (by omega)
    · refine cutW_inv be _ x y _ (P x y) (h0 x y hx hx2 hy hy2) ?_ _ (by omega)
      intro a k ha h1 h2
      exact hw x y k a _ _ h1 h2 hx2 hy hy2 ha (ih k y (by omega) h1 (by omega) hy hy2) (ih (x - k) y (by omega) (by omega) (by omega) hy hy2)
    · intro a k ha h1 h2
      exact hh x y k a _ _ h1 h2 hx hx2 hy2 ha (ih x k (by omega) hx hx2 h1 (by omega)) (ih x (y - k) (by omega) hx hx2 (by omega) (by omega))

def maxI (a b : Int) : Int := if a < b then b else a
def minI (a b : Int) : Int := if b < a then b else a

theorem Vt_max_bound (al : Int → Int → Int) (M : Int) (hM : 0 ≤ M) (h0 : ∀ x y : Nat, 1 ≤ x → x ≤ 12 → 1 ≤ y → y ≤ 12 → 0 ≤ al x y ∧ al x y ≤ M) (x y : Nat) (hx : 1 ≤ x) (hx2 : x ≤ 12) (hy : 1 ≤ y) (hy2 : y ≤ 12) :
    0 ≤ Vt al maxI x y ∧ Vt al maxI x y ≤ M * ((x * y : Nat) : Int) := by
  refine Vt_inv al maxI (fun x y v => 0 ≤ v ∧ v ≤ M * ((x * y : Nat) : Int)) ?_ ?_ ?_ (x + y) x y (Nat.le_refl _) hx hx2 hy hy2
  · intro x y a b c d
    have := h0 x y a b c d
    refine ⟨this.1, Int.le_trans this.2 ?_⟩
    have h1 : 1 ≤ x * y := Nat.mul_pos a c
    calc M = M * 1 := (Int.mul_one M).symm
      _ ≤ M * ((x * y : Nat) : Int) := Int.mul_le_mul_of_nonneg_left (by omega) hM
  · intro x y k a b c h1 h2 h3 h4 h5 ha hb hc
    have e : M * ((k * y : Nat) : Int) + M * (((x - k) * y : Nat) : Int) = M * ((x * y : Nat) : Int) := by
      rw [← Int.mul_add, ← Int.natCast_add, ← Nat.add_mul, show k + (x - k) = x by omega]
    unfold maxI
    split <;> omega
  · intro x y k a b c h1 h2 h3 h4 h5 ha hb hc
    have e : M * ((x * k : Nat) : Int) + M * ((x * (y - k) : Nat) : Int) = M * ((x * y : Nat) : Int) := by
      rw [← Int.mul_add, ← Int.natCast_add, ← Nat.mul_add, show k + (y - k) = y by omega]
    unfold maxI
    split <;> omega

def alSquare (x y : Int) : Int := if x = y then 1 else x * y

theorem Vt_square_bound (x y : Nat) (hx : 1 ≤ x) (hx2 : x ≤ 12) (hy : 1 ≤ y) (hy2 : y ≤ 12) : 1 ≤ Vt alSquare minI x y ∧ Vt alSquare minI x y ≤ 1000 := by
  refine Vt_inv alSquare minI (fun x y v => 1 ≤ v ∧ v ≤ 1000) ?_ ?_ ?_ (x + y) x y (Nat.le_refl _) hx hx2 hy hy2
  · intro x y a b c d
    have h1 : 1 ≤ x * y := Nat.mul_pos a c
    have h2 : x * y ≤ 12 * 12 := Nat.mul_le_mul b d
    have e : (x : Int) * (y : Int) = ((x * y : Nat) : Int) := (Int.natCast_mul x y).symm
    unfold alSquare
    rw [e]
    split <;> omega
  · intro x y k a b c h1 h2 h3 h4 h5 ha hb hc
    unfold minI
    split <;> omega
  · intro x y k a b c h1 h2 h3 h4 h5 ha hb hc
    unfold minI
    split <;> omega

end Go.Proofs.Ytjbijfdiojhmcaa.S

/- Values are at least those of one kind alone (P83): for every code, of any length. -/
import Derived.Test.YtjbijfdiojhmcaaLQc
namespace Go.Proofs.Ytjbijfdiojhmcaa.Pure
open Go.RowKit Go.Proofs.Ytjbijfdiojhmcaa.Qc Go.Proofs.YtjbijfdiojhmcaaW.PrintWords Go.Proofs.YtjbijfdiojhmcaaW.PrintLast Go.Proofs.YtjbijfdiojhmcaaW.PrintMore
open Go.Proofs.Ytjbijfdiojhmcaa.QcL
set_option linter.unusedVariables false
set_option linter.unusedSimpArgs false

open Go.Proofs.Ytjbijfdiojhmcaa.S (impl_SheetMost.f alMost fitB alValue valTo okV okV_iff valueOk valTo_bound Vt maxI Vt_max_bound Vt_turn_max Vt_addW Vt_addH Vt_alone Vt_inv)

theorem maxI_or (a s : Int) : maxI a s = a ∨ maxI a s = s := by
  unfold maxI
  split
  · exact Or.inr rfl
  · exact Or.inl rfl

theorem fit_turn (x y p q : Int) : fitB x y p q = fitB y x p q := by
  unfold fitB
  rw [Bool.or_comm, Bool.and_comm (decide (x = q)), Bool.and_comm (decide (x = p))]

theorem valTo_turn (ws hs vs : List Int) (x y : Int) (K : Nat) : valTo ws hs vs x y K = valTo ws hs vs y x K := by
  induction K with
  | zero => rfl
  | succ K ih => simp only [valTo]; rw [ih, fit_turn]

theorem valTo_first (ws hs vs : List Int) (x y : Int) (hv : ∀ j, 0 ≤ vs.getD j 0 ∧ vs.getD j 0 ≤ 99) (K : Nat) (hf : fitB x y (ws.getD 0 0) (hs.getD 0 0) = true) : vs.getD 0 0 ≤ valTo ws hs vs x y (K + 1) := by
  induction K with
  | zero =>
    simp only [valTo]
    rw [if_pos hf]
    unfold maxI
    split <;> omega
  | succ K ih =>
    have e : valTo ws hs vs x y (K + 1 + 1) = if fitB x y (ws.getD (K + 1) 0) (hs.getD (K + 1) 0) = true then maxI (valTo ws hs vs x y (K + 1)) (vs.getD (K + 1) 0) else valTo ws hs vs x y (K + 1) := rfl
    rw [e]
    unfold maxI
    split
    · split <;> omega
    · exact ih

theorem value_one (ws hs vs : List Int) (hl : 1 ≤ vs.length) (hv : ∀ j, 0 ≤ vs.getD j 0 ∧ vs.getD j 0 ≤ 99) (x y : Nat) (a : 1 ≤ x) (b : x ≤ 12) (c : 1 ≤ y) (d : y ≤ 12) :
    Vt (alMost (ws.getD 0 0) (hs.getD 0 0)) maxI x y * vs.getD 0 0 ≤ Vt (alValue ws hs vs) maxI x y := by
  have hu : ∀ x y : Nat, 1 ≤ x → x ≤ 12 → 1 ≤ y → y ≤ 12 → 0 ≤ alValue ws hs vs x y ∧ alValue ws hs vs x y ≤ 99 := fun x y _ _ _ _ => valTo_bound ws hs vs hv x y vs.length
  have hz : ∀ x y : Nat, 1 ≤ x → x ≤ 12 → 1 ≤ y → y ≤ 12 → 0 ≤ Vt (alValue ws hs vs) maxI x y := fun x y a b c d => (Vt_max_bound _ 99 (by omega) hu x y a b c d).1
  refine Vt_inv (alMost (ws.getD 0 0) (hs.getD 0 0)) maxI (fun x y v => v * vs.getD 0 0 ≤ Vt (alValue ws hs vs) maxI x y) ?_ ?_ ?_ (x + y) x y (Nat.le_refl _) a b c d
  · intro x y a b c d
    by_cases hf : fitB x y (ws.getD 0 0) (hs.getD 0 0) = true
    · have h1 := Vt_alone (alValue ws hs vs) x y a b c d
      obtain ⟨K, hK⟩ : ∃ K, vs.length = K + 1 := ⟨vs.length - 1, by omega⟩
      have h2 : vs.getD 0 0 ≤ alValue ws hs vs x y := by
        unfold alValue; rw [hK]; exact valTo_first ws hs vs x y hv K hf
      have h3 : alMost (ws.getD 0 0) (hs.getD 0 0) x y = 1 := if_pos hf
      rw [h3, Int.one_mul]
      omega
    · have h3 : alMost (ws.getD 0 0) (hs.getD 0 0) x y = 0 := if_neg hf
      rw [h3, Int.zero_mul]
      exact hz x y a b c d
  · intro x y k a b c h1 h2 h3 h4 h5 ha hb hc
    have e := Vt_addW (alValue ws hs vs) x k y h1 h2 h3 h4 h5
    have e2 : (b + c) * vs.getD 0 0 = b * vs.getD 0 0 + c * vs.getD 0 0 := Int.add_mul _ _ _
    rcases maxI_or a (b + c) with q | q <;> rw [q] <;> omega
  · intro x y k a b c h1 h2 h3 h4 h5 ha hb hc
    have e := Vt_addH (alValue ws hs vs) x k y h3 h4 h1 h2 h5
    have e2 : (b + c) * vs.getD 0 0 = b * vs.getD 0 0 + c * vs.getD 0 0 := Int.add_mul _ _ _
    rcases maxI_or a (b + c) with q | q <;> rw [q] <;> omega

def mostV (a0 a1 a2 a3 : Int) : Int := Vt (alMost a2 a3) maxI a0.toNat a1.toNat
theorem impl_most_eq (a0 a1 a2 a3 : Int) : impl_SheetMost.f a0 a1 a2 a3 = some (if (inS a0 && inS a1 && inS a2 && inS a3) = true then (mostV a0 a1 a2 a3, true) else (0, false)) := rfl

theorem FnValue : laws_FnValue.Pure := by
  intro l _ _ hwf
  by_cases h0 : (l.length : Int) > 1048576
  · exact ⟨0, by unfold laws_FnValue.f; rw [if_pos h0]⟩
  obtain ⟨⟨w, h, ws, hs, vs⟩, hr⟩ := draw_value_all l (bytes_of_wf hwf)
  obtain ⟨n, hn⟩ := spec_value_eq w h ws hs vs (by
    have := draw_value_short l (bytes_of_wf hwf) _ (hr 20 (by omega))
    simp only at this
    omega)
  refine ⟨n + 21, ?_⟩
  unfold laws_FnValue.f
  rw [if_neg h0, hr (n + 21) (by omega)]
  simp only [Option.bind_some]
  rw [hn (n + 21) (by omega), impl_value_eq]
  simp only [Option.bind_some]
  by_cases hh : valueOk w h ws hs vs = true
  · simp only [if_pos hh]
    obtain ⟨c1, c2, c3, c4, c5, c6⟩ := (valueOk_iff _ _ _ _ _).1 hh
    have hh2 : valueOk h w ws hs vs = true := (valueOk_iff _ _ _ _ _).2 ⟨by rw [Bool.and_comm]; exact c1, c2, c3, c4, c5, c6⟩
    have hv := getD_bound vs (fun i hi => (c6 i hi).2.2)
    have k0 := c6 0 (by omega)
    simp only [Bool.and_eq_true, inS_iff] at c1
    obtain ⟨hw, hh'⟩ := c1
    have p0 := (inS_iff _).1 k0.1
    have q0 := (inS_iff _).1 k0.2.1
    have c7 : (inS w && inS h && inS (ws.getD 0 0) && inS (hs.getD 0 0)) = true := by simp only [Bool.and_eq_true, inS_iff]; exact ⟨⟨⟨hw, hh'⟩, p0⟩, q0⟩
    have z0 : ∀ l : List Int, rd l 0 = l.getD 0 0 := fun l => rd_getD l 0
    rw [if_neg (by simp), if_pos trivial]
    simp only [laws_FnValue.j0]
    rw [if_neg (by simp), impl_value_eq, if_pos hh2]
    simp only [Option.bind_some]
    rw [if_pos (by omega), if_pos (by omega), z0, z0, z0, impl_most_eq, if_pos c7]
    simp only [Option.bind_some]
    obtain ⟨x, rfl⟩ := Int.eq_ofNat_of_zero_le (show 0 ≤ w by omega)
    obtain ⟨y, rfl⟩ := Int.eq_ofNat_of_zero_le (show 0 ≤ h by omega)
    have e1 : valueV y x ws hs vs = valueV x y ws hs vs := Vt_turn_max (alValue ws hs vs) (fun x y => valTo_turn ws hs vs x y _) x y (by omega) (by omega) (by omega) (by omega)
    have e2 := value_one ws hs vs c2 hv x y (by omega) (by omega) (by omega) (by omega)
    have e3 := Vt_max_bound (alMost (ws.getD 0 0) (hs.getD 0 0)) 1 (by omega) (fun x y _ _ _ _ => by unfold alMost; split <;> omega) x y (by omega) (by omega) (by omega) (by omega)
    have e4 : x * y ≤ 12 * 12 := Nat.mul_le_mul (by omega) (by omega)
    have hv0 := hv 0
    have e5 : mostV x y (ws.getD 0 0) (hs.getD 0 0) = Vt (alMost (ws.getD 0 0) (hs.getD 0 0)) maxI x y := rfl
    have e6 : valueV x y ws hs vs = Vt (alValue ws hs vs) maxI x y := rfl
    rw [if_pos trivial, if_pos trivial, if_pos e1, if_pos (by omega), e5, e6]
    generalize Vt (alMost (ws.getD 0 0) (hs.getD 0 0)) maxI x y = m at *
    have e7 : 0 ≤ m * vs.getD 0 0 := Int.mul_nonneg e3.1 hv0.1
    have e8 : m * vs.getD 0 0 ≤ 144 * 99 := Int.mul_le_mul (by omega) hv0.2 hv0.1 (by omega)
    rw [w64 _ (by omega), decide_eq_true e2]
  · simp only [if_neg hh]
    simp [laws_FnValue.j0]

end Go.Proofs.Ytjbijfdiojhmcaa.Pure

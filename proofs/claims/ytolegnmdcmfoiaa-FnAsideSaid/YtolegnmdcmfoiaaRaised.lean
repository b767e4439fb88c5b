/- The walk of impl.raised: a row of its own, each number raised. -/
import Derived.Test.YtolegnmdcmfoiaaClone
namespace Go.Proofs.Ytolegnmdcmfoiaa.S
open Go.RowKit Go.Proofs.YtolegnmdcmfoiaaW.PrintWords Go.Proofs.Ytolegnmdcmfoiaa.Qa
set_option linter.unusedVariables false
set_option linter.unusedSimpArgs false

def impl_raised.f (l : List Int) (x : Int) : Option (List Int) := (slices_Clone.f l).bind fun t => some (t.map fun y => wrap64 (y + x))

/-- The first k numbers raised. -/
def rz (l : List Int) (x : Int) (k : Nat) : List Int := l.mapIdx fun i y => if i < k then wrap64 (y + x) else y
theorem rz_length (l : List Int) (x : Int) (k : Nat) : (rz l x k).length = l.length := by simp [rz]
theorem rz_zero (l : List Int) (x : Int) : rz l x 0 = l := by
  apply List.ext_getElem
  · simp [rz]
  · intro i h1 h2; simp [rz]
theorem rz_all (l : List Int) (x : Int) : rz l x l.length = l.map fun y => wrap64 (y + x) := by
  apply List.ext_getElem
  · simp [rz]
  · intro i h1 h2
    have : i < l.length := by simpa using h2
    simp [rz, this]
theorem rz_at (l : List Int) (x : Int) (k : Nat) (h : k < l.length) : rd (rz l x k) (k : Int) = l[k] := by
  have h' : k < (rz l x k).length := by rw [rz_length]; exact h
  unfold rd
  rw [show (k : Int).toNat = k by omega, List.getD_eq_getElem?_getD, List.getElem?_eq_getElem h']
  simp [rz]
theorem rz_set (l : List Int) (x : Int) (k : Nat) (h : k < l.length) : (rz l x k).set k (wrap64 (l[k] + x)) = rz l x (k + 1) := by
  apply List.ext_getElem
  · simp [rz_length]
  · intro i h1 h2
    rw [List.getElem_set]
    by_cases hik : k = i
    · subst hik; simp [rz]
    · rw [if_neg hik]
      simp only [rz, List.getElem_mapIdx]
      by_cases h3 : i < k
      · rw [if_pos h3, if_pos (by omega)]
      · rw [if_neg h3, if_neg (by omega)]

set_option maxHeartbeats 4000000 in
set_option maxRecDepth 100000 in
theorem impl_raised.calls (A0 : Option Addr) (c0 : Nat) (l0 : List Int) (a1 : Int) (r : List Int) (w : World) (hr0 : Kd.C (Kd.int .i64) w A0 l0.length l0) (hc0 : l0.length ≤ c0) (h : impl_raised.f l0 a1 = some r) :
    Calls Try.prog 33 #[.slice A0 l0.length c0, .int .i64 a1] w fun e w' => ∃ v0_ : Value, e = .returned v0_ ∧ Kd.R (Kd.int .i64) 3 w' w.heap.size (fun _ => True) v0_ r ∧ Below w.heap.size w w' := by
  obtain ⟨t, ht, h⟩ := Option.bind_eq_some_iff.1 h
  have ht' : l0.length ≤ 1048576 ∧ l0 = t := by
    unfold slices_Clone.f at ht
    by_cases hl : l0.length ≤ 1048576
    · rw [if_pos hl] at ht; exact ⟨hl, Option.some.inj ht⟩
    · rw [if_neg hl] at ht; cases ht
  obtain ⟨hl, rfl⟩ := ht'
  obtain rfl := Option.some.inj h
  have HT := Lib.hid ht
  have HR0 := Lib.hid hr0
  clear ht h hr0
  go_enter Try.func33, Try.ntmps33
  go_wp2_with fail
  refine (slices_Clone.calls A0 c0 l0 l0 w HR0.out hc0 HT.out).mono ?_
  rintro e w1 ⟨v1, rfl, hr1, hb1⟩
  obtain ⟨A1, c1, rfl⟩ := own_slice (Kd.own_of_R hr1)
  have HR1 := Lib.hid hr1
  have HB1 := Lib.hid hb1
  clear hr1 hb1
  have hl63 : (l0.length : Int) ≤ 1048576 := by omega
  go_wp2
  go_loopw [11] (fun i wr => ∃ k : Nat, k ≤ l0.length ∧ i = .int .i64 k ∧ Hid (Kd.R (Kd.int .i64) 3 wr w.heap.size (fun _ => True) (.slice A1 l0.length c1) (rz l0 a1 k)) ∧ Hid (Below w.heap.size w wr)) (fun i _ => l0.length - (Go.RowKit.intOf i).toNat)
  case atStart => exact ⟨0, Nat.zero_le _, rfl, Lib.hid (by rw [rz_zero]; exact HR1.out), HB1⟩
  case round =>
    obtain ⟨k, hk, rfl, HRk, HBk⟩ := hrel
    clear HR1 HB1
    by_cases hlt : k < l0.length
    · have ho := Kd.own_of_R HRk.out
      rw [rz_length] at ho
      obtain ⟨gg, cc, e, hgg, _⟩ := ho.form (by omega)
      injection e with e1 e2 e3
      subst e1
      clear e2 e3 ho
      obtain ⟨hc0, hf0⟩ := Kd.R_celln 0 HRk.out (k : Int) (by omega) (by omega)
      have hp := Kd.R_putn HRk.out (k : Int) (wrap64 (l0[k] + a1))
      rw [show (k : Int).toNat = k by omega] at hc0 hf0 hp
      rw [rz_set _ _ _ hlt] at hp
      have hat : rdOf 0 (rz l0 a1 k) (k : Int) = l0[k] := rz_at l0 a1 k hlt
      rw [hat] at hc0
      have HP := Lib.hid hp
      have HBn := Lib.hid (HBk.out.setCell (p := ⟨gg, k, none⟩) hgg (.int .i64 (wrap64 (l0[k] + a1))))
      obtain ⟨y, hy⟩ : ∃ y, y = l0[k] := ⟨_, rfl⟩
      rw [← hy] at hc0 HP HBn
      clear hp hat hy HRk HBk
      go_wp2
      go_roundw
      case rel => exact ⟨k + 1, by omega, by go_num, HP, HBn⟩
      case measure => simp [Go.RowKit.intOf]; omega
    · have hkl : k = l0.length := by omega
      subst hkl
      have hRf := HRk.out
      rw [rz_all] at hRf
      go_wp2
      go_ret
      exact ⟨_, rfl, hRf, HBk.out⟩
end Go.Proofs.Ytolegnmdcmfoiaa.S

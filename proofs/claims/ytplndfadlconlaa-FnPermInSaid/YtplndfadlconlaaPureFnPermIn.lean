/- Permutations are lists of all numbers (P55): for every code. -/
import Derived.Test.YtplndfadlconlaaLQd
namespace Go.Proofs.Ytplndfadlconlaa.Pure
open Go.RowKit Go.Proofs.Ytplndfadlconlaa.Qd Go.Proofs.YtplndfadlconlaaW.PrintWords Go.Proofs.YtplndfadlconlaaW.PrintLast Go.Proofs.YtplndfadlconlaaW.PrintMore
open Go.Proofs.Ytplndfadlconlaa.QdL
open Go.Proofs.Ytplndfadlconlaa.S
set_option linter.unusedVariables false
set_option linter.unusedSimpArgs false

theorem isPerm_reverse {p : List Int} (h : isPerm p = true) : isPerm p.reverse = true := by
  rw [isPerm_iff] at h ⊢
  refine ⟨by simpa using h.1, by simpa using h.2.1, fun i hi => ?_⟩
  rw [List.mem_reverse]
  exact h.2.2 i (by simpa using hi)

theorem in_l0 (b o r : List Int) (hb : isPerm b = true) (ho : isPerm o = true) (hl : r.length ≤ 7) (hr : ∀ i : Nat, i < r.length → r.getD i 0 = (i : Int)) (d : Nat) : ∀ (k i : Nat), i ≤ r.length → r.length - i = d → d + 30 < k →
    laws_FnPermIn.l0 k b true o true r (i : Int) = some true := by
  induction d with
  | zero =>
    intro k i hi hd hk
    obtain ⟨k, rfl⟩ : ∃ m, k = m + 1 := ⟨k - 1, by omega⟩
    simp only [laws_FnPermIn.l0]
    rw [if_neg (by omega), impl_permin_eq b k (by omega), impl_permin_eq o k (by omega), hb, ho]
    rfl
  | succ d ih =>
    intro k i hi hd hk
    obtain ⟨k, rfl⟩ : ∃ m, k = m + 1 := ⟨k - 1, by omega⟩
    simp only [laws_FnPermIn.l0]
    rw [if_pos (by omega), if_pos (by omega), rd_getD, if_pos (hr i (by omega)), w64 _ (by omega)]
    have e : ((i : Int) + 1) = ((i + 1 : Nat) : Int) := by omega
    rw [e]
    exact ih k (i + 1) (by omega) (by omega) (by omega)

theorem FnPermIn : laws_FnPermIn.Pure := by
  intro l _ _ hw
  refine ⟨1048600, ?_⟩
  unfold laws_FnPermIn.f
  by_cases h0 : (l.length : Int) > 1048576
  · rw [if_pos h0]
  rw [if_neg h0]
  obtain ⟨p, hp, hp1, hp8⟩ := Go.Proofs.Ytplndfadlconlaa.QrL.in_gives l (Go.Proofs.Ytplndfadlconlaa.QrL.bytes_of_wf hw) 1048600 (by omega)
  rw [hp]
  simp only [Option.bind_some]
  rw [impl_permin_eq p _ (by omega), spec_permin_eq p (by omega) _ (by omega)]
  simp only [Option.bind_some]
  rw [if_neg (by simp)]
  obtain ⟨K, hK⟩ : ∃ K : Nat, K = 1048599 := ⟨_, rfl⟩
  have e1 : (1048600 : Nat) = K + 1 := by omega
  rw [e1]
  simp only [laws_FnPermIn.j0]
  by_cases h : isPerm p = true
  · have h7 := (isPerm_iff p).1 h
    rw [h]
    simp only [Bool.not_true]
    rw [if_neg (by simp), impl_back_eq p _ (by omega)]
    simp only [Option.bind_some]
    rw [impl_other_eq p _ (by omega)]
    simp only [Option.bind_some]
    have b1 : backR p = (p.reverse, true) := by unfold backR; rw [if_pos h]
    have b2 : otherR p = (inv p, true) := by unfold otherR; rw [if_pos h]
    have b3 : Go.Proofs.Ytplndfadlconlaa.S.laws_sorted.f p = some (sortTo p (p.length - 1)) := by unfold Go.Proofs.Ytplndfadlconlaa.S.laws_sorted.f; rw [if_pos (by omega)]
    rw [b1, b2, b3]
    simp only [Option.bind_some]
    have hl := sortTo_length p (p.length - 1)
    have := in_l0 p.reverse (inv p) (sortTo p (p.length - 1)) (isPerm_reverse h) (isPerm_inv h) (by omega) (fun i hi => sort_perm h i (by omega)) (sortTo p (p.length - 1)).length K 0 (by omega) (by omega) (by omega)
    simpa using this
  · have hf : isPerm p = false := by simpa using h
    rw [hf]
    simp

end Go.Proofs.Ytplndfadlconlaa.Pure

-- Our own text, written by wip/qprint.py over the kit's print.
import Derived.Test.YtgehkabfjpifiaaQc0
namespace Go.Proofs.Ytgehkabfjpifiaa.Qc
open Go.RowKit Go.Proofs.Ytgehkabfjpifiaa.S Go.Proofs.YtgehkabfjpifiaaW.PrintWords Go.Proofs.YtgehkabfjpifiaaW.PrintLast Go.Proofs.YtgehkabfjpifiaaW.PrintMore
attribute [local go_sem] max2_int min2_int max_two min_two max_three min_three max_four min_four   -- for this text's walks alone
set_option linter.unusedVariables false
set_option linter.unusedSimpArgs false

/-! ### spec_l6Loose: function 33 -/
mutual
def spec_l6Loose.l0 : Nat → List Int → Int → Option (Bool)
  | 0, _, _ => none
  | k + 1, x0, x3 => if x3 < (x0.length : Int) then (spec_l6Loose.l1 k x0 x3 (wrap64 (x3 + 1))) else (some true)
def spec_l6Loose.l1 : Nat → List Int → Int → Int → Option (Bool)
  | 0, _, _, _ => none
  | k + 1, x0, x3, x4 => if x4 < (x0.length : Int) then (spec_l6Loose.l2 k x0 x3 x4 (wrap64 (x4 + 1))) else (spec_l6Loose.l0 k x0 (wrap64 (x3 + 1)))
def spec_l6Loose.l2 : Nat → List Int → Int → Int → Int → Option (Bool)
  | 0, _, _, _, _ => none
  | k + 1, x0, x3, x4, x5 => if x5 < (x0.length : Int) then (spec_l6Loose.l3 k x0 x3 x4 x5 (wrap64 (x5 + 1))) else (spec_l6Loose.l1 k x0 x3 (wrap64 (x4 + 1)))
def spec_l6Loose.l3 : Nat → List Int → Int → Int → Int → Int → Option (Bool)
  | 0, _, _, _, _, _ => none
  | k + 1, x0, x3, x4, x5, x6 => if x6 < (x0.length : Int) then (if 0 ≤ x5 then (if x5 < (x0.length : Int) then (if 0 ≤ x3 then (if x3 < (x0.length : Int) then (if (rd x0 x5) < (rd x0 x3) then (if 0 ≤ x6 then (if (rd x0 x3) < (rd x0 x6) then (if 0 ≤ x4 then (if x4 < (x0.length : Int) then (if (rd x0 x6) < (rd x0 x4) then (some false) else (if (rd x0 x4) < (rd x0 x6) then (if (rd x0 x6) < (rd x0 x3) then (if (rd x0 x3) < (rd x0 x5) then (some false) else (spec_l6Loose.l3 k x0 x3 x4 x5 (wrap64 (x6 + 1)))) else (spec_l6Loose.l3 k x0 x3 x4 x5 (wrap64 (x6 + 1)))) else (spec_l6Loose.l3 k x0 x3 x4 x5 (wrap64 (x6 + 1))))) else (none)) else (none)) else (if 0 ≤ x4 then (if x4 < (x0.length : Int) then (if (rd x0 x4) < (rd x0 x6) then (if (rd x0 x6) < (rd x0 x3) then (if (rd x0 x3) < (rd x0 x5) then (some false) else (spec_l6Loose.l3 k x0 x3 x4 x5 (wrap64 (x6 + 1)))) else (spec_l6Loose.l3 k x0 x3 x4 x5 (wrap64 (x6 + 1)))) else (spec_l6Loose.l3 k x0 x3 x4 x5 (wrap64 (x6 + 1)))) else (none)) else (none))) else (none)) else (if 0 ≤ x4 then (if x4 < (x0.length : Int) then (if 0 ≤ x6 then (if (rd x0 x4) < (rd x0 x6) then (if (rd x0 x6) < (rd x0 x3) then (if (rd x0 x3) < (rd x0 x5) then (some false) else (spec_l6Loose.l3 k x0 x3 x4 x5 (wrap64 (x6 + 1)))) else (spec_l6Loose.l3 k x0 x3 x4 x5 (wrap64 (x6 + 1)))) else (spec_l6Loose.l3 k x0 x3 x4 x5 (wrap64 (x6 + 1)))) else (none)) else (none)) else (none))) else (none)) else (none)) else (none)) else (none)) else (spec_l6Loose.l2 k x0 x3 x4 (wrap64 (x5 + 1)))
end
def spec_l6Loose.f (k : Nat) (l0 : List Int) : Option (Bool) := spec_l6Loose.l0 k l0 0
theorem spec_l6Loose.mono_l : ∀ k, (∀ y0 y1, LeO (spec_l6Loose.l0 k y0 y1) (spec_l6Loose.l0 (k + 1) y0 y1)) ∧ (∀ y0 y1 y2, LeO (spec_l6Loose.l1 k y0 y1 y2) (spec_l6Loose.l1 (k + 1) y0 y1 y2)) ∧ (∀ y0 y1 y2 y3, LeO (spec_l6Loose.l2 k y0 y1 y2 y3) (spec_l6Loose.l2 (k + 1) y0 y1 y2 y3)) ∧ (∀ y0 y1 y2 y3 y4, LeO (spec_l6Loose.l3 k y0 y1 y2 y3 y4) (spec_l6Loose.l3 (k + 1) y0 y1 y2 y3 y4))
  | 0 => ⟨fun _ _ r h => by simp [spec_l6Loose.l0] at h, fun _ _ _ r h => by simp [spec_l6Loose.l1] at h, fun _ _ _ _ r h => by simp [spec_l6Loose.l2] at h, fun _ _ _ _ _ r h => by simp [spec_l6Loose.l3] at h⟩
  | k + 1 => by
    obtain ⟨ih0, ih1, ih2, ih3⟩ := spec_l6Loose.mono_l k
    refine ⟨?_, ?_, ?_, ?_⟩
    · intro y0 y1
      unfold spec_l6Loose.l0
      repeat' first
      | (with_reducible exact ih0 _ _)
      | (with_reducible exact ih1 _ _ _)
      | (with_reducible exact ih2 _ _ _ _)
      | (with_reducible exact ih3 _ _ _ _ _)
      | (with_reducible exact LeO.refl _)
      | (with_reducible exact LeO.none _)
      | (with_reducible refine LeO.ite ?_ ?_)
      | (with_reducible refine LeO.bind ?_ (fun _ => ?_))
      | exact ih0 _ _
      | exact ih1 _ _ _
      | exact ih2 _ _ _ _
      | exact ih3 _ _ _ _ _
      | exact LeO.none _
      | refine LeO.ite ?_ ?_
      | refine LeO.bind ?_ (fun _ => ?_)
    · intro y0 y1 y2
      unfold spec_l6Loose.l1
      repeat' first
      | (with_reducible exact ih0 _ _)
      | (with_reducible exact ih1 _ _ _)
      | (with_reducible exact ih2 _ _ _ _)
      | (with_reducible exact ih3 _ _ _ _ _)
      | (with_reducible exact LeO.refl _)
      | (with_reducible exact LeO.none _)
      | (with_reducible refine LeO.ite ?_ ?_)
      | (with_reducible refine LeO.bind ?_ (fun _ => ?_))
      | exact ih0 _ _
      | exact ih1 _ _ _
      | exact ih2 _ _ _ _
      | exact ih3 _ _ _ _ _
      | exact LeO.none _
      | refine LeO.ite ?_ ?_
      | refine LeO.bind ?_ (fun _ => ?_)
    · intro y0 y1 y2 y3
      unfold spec_l6Loose.l2
      repeat' first
      | (with_reducible exact ih0 _ _)
      | (with_reducible exact ih1 _ _ _)
      | (with_reducible exact ih2 _ _ _ _)
      | (with_reducible exact ih3 _ _ _ _ _)
      | (with_reducible exact LeO.refl _)
      | (with_reducible exact LeO.none _)
      | (with_reducible refine LeO.ite ?_ ?_)
      | (with_reducible refine LeO.bind ?_ (fun _ => ?_))
      | exact ih0 _ _
      | exact ih1 _ _ _
      | exact ih2 _ _ _ _
      | exact ih3 _ _ _ _ _
      | exact LeO.none _
      | refine LeO.ite ?_ ?_
      | refine LeO.bind ?_ (fun _ => ?_)
    · intro y0 y1 y2 y3 y4
      unfold spec_l6Loose.l3
      repeat' first
      | (with_reducible exact ih0 _ _)
      | (with_reducible exact ih1 _ _ _)
      | (with_reducible exact ih2 _ _ _ _)
      | (with_reducible exact ih3 _ _ _ _ _)
      | (with_reducible exact LeO.refl _)
      | (with_reducible exact LeO.none _)
      | (with_reducible refine LeO.ite ?_ ?_)
      | (with_reducible refine LeO.bind ?_ (fun _ => ?_))
      | exact ih0 _ _
      | exact ih1 _ _ _
      | exact ih2 _ _ _ _
      | exact ih3 _ _ _ _ _
      | exact LeO.none _
      | refine LeO.ite ?_ ?_
      | refine LeO.bind ?_ (fun _ => ?_)
theorem spec_l6Loose.mono : ∀ a0 k, LeO (spec_l6Loose.f k a0) (spec_l6Loose.f (k + 1) a0) := by
  intro a0 k
  obtain ⟨ih0, ih1, ih2, ih3⟩ := spec_l6Loose.mono_l k
  unfold spec_l6Loose.f
  repeat' first
      | (with_reducible exact ih0 _ _)
      | (with_reducible exact ih1 _ _ _)
      | (with_reducible exact ih2 _ _ _ _)
      | (with_reducible exact ih3 _ _ _ _ _)
      | (with_reducible exact LeO.refl _)
      | (with_reducible exact LeO.none _)
      | (with_reducible refine LeO.ite ?_ ?_)
      | (with_reducible refine LeO.bind ?_ (fun _ => ?_))
      | exact ih0 _ _
      | exact ih1 _ _ _
      | exact ih2 _ _ _ _
      | exact ih3 _ _ _ _ _
      | exact LeO.none _
      | refine LeO.ite ?_ ?_
      | refine LeO.bind ?_ (fun _ => ?_)
set_option maxHeartbeats 8000000 in
set_option maxRecDepth 100000 in
theorem spec_l6Loose.calls (k : Nat) (A0 : Option Addr) (c0 : Nat) (l0 : List Int) (r : Bool) (w : World) (hr0 : Kd.C (Kd.int .i64) w A0 l0.length l0) (hc0 : l0.length ≤ c0) (h : spec_l6Loose.f k l0 = some r) :
    Calls Try.prog 33 #[.slice A0 l0.length c0] w fun e w' => e = .returned (.bool r) ∧ Drawn0 w w' := by
  have HR0 := Aside0.mk hr0
  have HC0 := Aside0.mk hc0
  clear hr0 hc0
  have H : (spec_l6Loose.l0 k l0 0) = some r := h
  clear h
  have H' := Aside0.mk H
  clear H
  go_enter Try.func33, Try.ntmps33
  go_wp2
  repeat (go_quiet (fail); try go_wp2)
  go_loopg [3] k (fun kq v3 w' => ∃ (x3_1 : Int), v3 = .int .i64 x3_1 ∧ Aside0 (spec_l6Loose.l0 kq l0 x3_1 = some r) ∧ Aside0 (kq ≤ k) ∧ Drawn0 w w')
  case atStart => exact ⟨(0), (by first | rfl | (simp; done) | (simp [*]; done)), H', ⟨Nat.le_refl _⟩, by repeat (first | exact Drawn0.refl _ | apply Drawn0.step)⟩
  case round =>
    clear H'
    obtain ⟨x3_1, rfl, HA, HK1, ⟨m1, rfl⟩⟩ := hrel
    cases gk with
    | zero => exact absurd HA.out (by simp [spec_l6Loose.l0])
    | succ k1 =>
      have H := HA.out
      clear HA
      simp only [spec_l6Loose.l0] at H
      by_cases c2 : x3_1 < (l0.length : Int)
      · rw [if_pos c2] at H
        have c2b0 : decide (x3_1 < (l0.length : Int)) = true := decide_eq_true c2
        clear c2
        have H' := Aside0.mk H
        clear H
        go_wp2
        repeat (go_quiet (fail); try go_wp2)
        go_loopg [4] k1 (fun kq v4 w' => ∃ (x4_2 : Int), v4 = .int .i64 x4_2 ∧ Aside0 (spec_l6Loose.l1 kq l0 x3_1 x4_2 = some r) ∧ Aside0 (kq ≤ k1) ∧ Drawn0 w w')
        case atStart => exact ⟨(wrap64 (x3_1 + 1)), (by first | rfl | (simp; done) | (simp [*]; done)), H', ⟨Nat.le_refl _⟩, by repeat (first | exact Drawn0.refl _ | apply Drawn0.step)⟩
        case round =>
          clear H'
          try clear c2
          try clear c2b0
          try clear p2
          obtain ⟨x4_2, rfl, HA, HK2, ⟨m2, rfl⟩⟩ := hrel
          cases gk with
          | zero => exact absurd HA.out (by simp [spec_l6Loose.l1])
          | succ k2 =>
            have H := HA.out
            clear HA
            simp only [spec_l6Loose.l1] at H
            by_cases c3 : x4_2 < (l0.length : Int)
            · rw [if_pos c3] at H
              have c3b0 : decide (x4_2 < (l0.length : Int)) = true := decide_eq_true c3
              clear c3
              have H' := Aside0.mk H
              clear H
              go_wp2
              repeat (go_quiet (fail); try go_wp2)
              go_loopg [5] k2 (fun kq v5 w' => ∃ (x5_3 : Int), v5 = .int .i64 x5_3 ∧ Aside0 (spec_l6Loose.l2 kq l0 x3_1 x4_2 x5_3 = some r) ∧ Aside0 (kq ≤ k2) ∧ Drawn0 w w')
              case atStart => exact ⟨(wrap64 (x4_2 + 1)), (by first | rfl | (simp; done) | (simp [*]; done)), H', ⟨Nat.le_refl _⟩, by repeat (first | exact Drawn0.refl _ | apply Drawn0.step)⟩
              case round =>
                clear H'
                try clear c2
                try clear c2b0
                try clear p2
                try clear c3
                try clear c3b0
                try clear p2
                obtain ⟨x5_3, rfl, HA, HK3, ⟨m3, rfl⟩⟩ := hrel
                cases gk with
                | zero => exact absurd HA.out (by simp [spec_l6Loose.l2])
                | succ k3 =>
                  have H := HA.out
                  clear HA
                  simp only [spec_l6Loose.l2] at H
                  by_cases c4 : x5_3 < (l0.length : Int)
                  · rw [if_pos c4] at H
                    have c4b0 : decide (x5_3 < (l0.length : Int)) = true := decide_eq_true c4
                    clear c4
                    have H' := Aside0.mk H
                    clear H
                    go_wp2
                    repeat (go_quiet (fail); try go_wp2)
                    go_loopg [6] k3 (fun kq v6 w' => ∃ (x6_4 : Int), v6 = .int .i64 x6_4 ∧ Aside0 (spec_l6Loose.l3 kq l0 x3_1 x4_2 x5_3 x6_4 = some r) ∧ Aside0 (kq ≤ k3) ∧ Drawn0 w w')
                    case atStart => exact ⟨(wrap64 (x5_3 + 1)), (by first | rfl | (simp; done) | (simp [*]; done)), H', ⟨Nat.le_refl _⟩, by repeat (first | exact Drawn0.refl _ | apply Drawn0.step)⟩
                    case round =>
                      clear H'
                      try clear c2
                      try clear c2b0
                      try clear p2
                      try clear c3
                      try clear c3b0
                      try clear c4
                      try clear c4b0
                      try clear p2
                      obtain ⟨x6_4, rfl, HA, HK4, ⟨m4, rfl⟩⟩ := hrel
                      cases gk with
                      | zero => exact absurd HA.out (by simp [spec_l6Loose.l3])
                      | succ k4 =>
                        have H := HA.out
                        clear HA
                        simp only [spec_l6Loose.l3] at H
                        by_cases c5 : x6_4 < (l0.length : Int)
                        · rw [if_pos c5] at H
                          have c5b0 : decide (x6_4 < (l0.length : Int)) = true := decide_eq_true c5
                          clear c5
                          by_cases c6 : 0 ≤ x5_3
                          · rw [if_pos c6] at H
                            have c6b0 : decide (0 ≤ x5_3) = true := decide_eq_true c6
                            clear c6
                            by_cases c7 : x5_3 < (l0.length : Int)
                            · rw [if_pos c7] at H
                              have c7b0 : decide (x5_3 < (l0.length : Int)) = true := decide_eq_true c7
                              clear c7
                              by_cases c8 : 0 ≤ x3_1
                              · rw [if_pos c8] at H
                                have c8b0 : decide (0 ≤ x3_1) = true := decide_eq_true c8
                                clear c8
                                by_cases c9 : x3_1 < (l0.length : Int)
                                · rw [if_pos c9] at H
                                  have c9b0 : decide (x3_1 < (l0.length : Int)) = true := decide_eq_true c9
                                  clear c9
                                  by_cases c10 : (rd l0 x5_3) < (rd l0 x3_1)
                                  · rw [if_pos c10] at H
                                    have c10b0 : decide ((rd l0 x5_3) < (rd l0 x3_1)) = true := decide_eq_true c10
                                    clear c10
                                    by_cases c11 : 0 ≤ x6_4
                                    · rw [if_pos c11] at H
                                      have c11b0 : decide (0 ≤ x6_4) = true := decide_eq_true c11
                                      clear c11
                                      by_cases c12 : (rd l0 x3_1) < (rd l0 x6_4)
                                      · rw [if_pos c12] at H
                                        have c12b0 : decide ((rd l0 x3_1) < (rd l0 x6_4)) = true := decide_eq_true c12
                                        clear c12
                                        by_cases c13 : 0 ≤ x4_2
                                        · rw [if_pos c13] at H
                                          have c13b0 : decide (0 ≤ x4_2) = true := decide_eq_true c13
                                          clear c13
                                          by_cases c14 : x4_2 < (l0.length : Int)
                                          · rw [if_pos c14] at H
                                            have c14b0 : decide (x4_2 < (l0.length : Int)) = true := decide_eq_true c14
                                            clear c14
                                            by_cases c15 : (rd l0 x6_4) < (rd l0 x4_2)
                                            · rw [if_pos c15] at H
                                              have c15b0 : decide ((rd l0 x6_4) < (rd l0 x4_2)) = true := decide_eq_true c15
                                              clear c15
                                              obtain rfl := Option.some.inj H
                                              have p101 : 0 ≤ (x5_3 : Int) := of_decide_eq_true (by first | (with_reducible assumption) | assumption)
                                              have q101 : x5_3 < (l0.length : Int) := of_decide_eq_true (by first | (with_reducible assumption) | assumption)
                                              obtain ⟨ad101, e101, hx101_0⟩ := Kd.at_int HR0.out x5_3 p101 q101
                                              cases e101
                                              replace p101 := eq_true p101
                                              replace q101 := eq_true q101
                                              have p102 : 0 ≤ (x3_1 : Int) := of_decide_eq_true (by first | (with_reducible assumption) | assumption)
                                              have q102 : x3_1 < (l0.length : Int) := of_decide_eq_true (by first | (with_reducible assumption) | assumption)
                                              obtain ⟨ad102, e102, hx102_0⟩ := Kd.at_int HR0.out x3_1 p102 q102
                                              obtain rfl : ad101 = ad102 := (by injection e102)
                                              replace p102 := eq_true p102
                                              replace q102 := eq_true q102
                                              have p103 : 0 ≤ (x3_1 : Int) := of_decide_eq_true (by first | (with_reducible assumption) | assumption)
                                              have q103 : x3_1 < (l0.length : Int) := of_decide_eq_true (by first | (with_reducible assumption) | assumption)
                                              obtain ⟨ad103, e103, hx103_0⟩ := Kd.at_int HR0.out x3_1 p103 q103
                                              obtain rfl : ad101 = ad103 := (by injection e103)
                                              replace p103 := eq_true p103
                                              replace q103 := eq_true q103
                                              have p104 : 0 ≤ (x6_4 : Int) := of_decide_eq_true (by first | (with_reducible assumption) | assumption)
                                              have q104 : x6_4 < (l0.length : Int) := of_decide_eq_true (by first | (with_reducible assumption) | assumption)
                                              obtain ⟨ad104, e104, hx104_0⟩ := Kd.at_int HR0.out x6_4 p104 q104
                                              obtain rfl : ad101 = ad104 := (by injection e104)
                                              replace p104 := eq_true p104
                                              replace q104 := eq_true q104
                                              have p105 : 0 ≤ (x6_4 : Int) := of_decide_eq_true (by first | (with_reducible assumption) | assumption)
                                              have q105 : x6_4 < (l0.length : Int) := of_decide_eq_true (by first | (with_reducible assumption) | assumption)
                                              obtain ⟨ad105, e105, hx105_0⟩ := Kd.at_int HR0.out x6_4 p105 q105
                                              obtain rfl : ad101 = ad105 := (by injection e105)
                                              replace p105 := eq_true p105
                                              replace q105 := eq_true q105
                                              have p106 : 0 ≤ (x4_2 : Int) := of_decide_eq_true (by first | (with_reducible assumption) | assumption)
                                              have q106 : x4_2 < (l0.length : Int) := of_decide_eq_true (by first | (with_reducible assumption) | assumption)
                                              obtain ⟨ad106, e106, hx106_0⟩ := Kd.at_int HR0.out x4_2 p106 q106
                                              obtain rfl : ad101 = ad106 := (by injection e106)
                                              replace p106 := eq_true p106
                                              replace q106 := eq_true q106
                                              go_wp2
                                              repeat (go_quiet (fail); try go_wp2)
                                              go_ret
                                              exact ⟨by first | rfl | (simp; done) | (simp [*]; done), by repeat (first | exact Drawn0.refl _ | apply Drawn0.step)⟩
                                            · rw [if_neg c15] at H
                                              have c15b0 : decide ((rd l0 x6_4) < (rd l0 x4_2)) = false := decide_eq_false c15
                                              clear c15
                                              by_cases c16 : (rd l0 x4_2) < (rd l0 x6_4)
                                              · rw [if_pos c16] at H
                                                have c16b0 : decide ((rd l0 x4_2) < (rd l0 x6_4)) = true := decide_eq_true c16
                                                clear c16
                                                by_cases c17 : (rd l0 x6_4) < (rd l0 x3_1)
                                                · rw [if_pos c17] at H
                                                  have c17b0 : decide ((rd l0 x6_4) < (rd l0 x3_1)) = true := decide_eq_true c17
                                                  clear c17
                                                  by_cases c18 : (rd l0 x3_1) < (rd l0 x5_3)
                                                  · rw [if_pos c18] at H
                                                    have c18b0 : decide ((rd l0 x3_1) < (rd l0 x5_3)) = true := decide_eq_true c18
                                                    clear c18
                                                    obtain rfl := Option.some.inj H
                                                    have p101 : 0 ≤ (x5_3 : Int) := of_decide_eq_true (by first | (with_reducible assumption) | assumption)
                                                    have q101 : x5_3 < (l0.length : Int) := of_decide_eq_true (by first | (with_reducible assumption) | assumption)
                                                    obtain ⟨ad101, e101, hx101_0⟩ := Kd.at_int HR0.out x5_3 p101 q101
                                                    cases e101
                                                    replace p101 := eq_true p101
                                                    replace q101 := eq_true q101
                                                    have p102 : 0 ≤ (x3_1 : Int) := of_decide_eq_true (by first | (with_reducible assumption) | assumption)
                                                    have q102 : x3_1 < (l0.length : Int) := of_decide_eq_true (by first | (with_reducible assumption) | assumption)
                                                    obtain ⟨ad102, e102, hx102_0⟩ := Kd.at_int HR0.out x3_1 p102 q102
                                                    obtain rfl : ad101 = ad102 := (by injection e102)
                                                    replace p102 := eq_true p102
                                                    replace q102 := eq_true q102
                                                    have p103 : 0 ≤ (x3_1 : Int) := of_decide_eq_true (by first | (with_reducible assumption) | assumption)
                                                    have q103 : x3_1 < (l0.length : Int) := of_decide_eq_true (by first | (with_reducible assumption) | assumption)
                                                    obtain ⟨ad103, e103, hx103_0⟩ := Kd.at_int HR0.out x3_1 p103 q103
                                                    obtain rfl : ad101 = ad103 := (by injection e103)
                                                    replace p103 := eq_true p103
                                                    replace q103 := eq_true q103
                                                    have p104 : 0 ≤ (x6_4 : Int) := of_decide_eq_true (by first | (with_reducible assumption) | assumption)
                                                    have q104 : x6_4 < (l0.length : Int) := of_decide_eq_true (by first | (with_reducible assumption) | assumption)
                                                    obtain ⟨ad104, e104, hx104_0⟩ := Kd.at_int HR0.out x6_4 p104 q104
                                                    obtain rfl : ad101 = ad104 := (by injection e104)
                                                    replace p104 := eq_true p104
                                                    replace q104 := eq_true q104
                                                    have p105 : 0 ≤ (x6_4 : Int) := of_decide_eq_true (by first | (with_reducible assumption) | assumption)
                                                    have q105 : x6_4 < (l0.length : Int) := of_decide_eq_true (by first | (with_reducible assumption) | assumption)
                                                    obtain ⟨ad105, e105, hx105_0⟩ := Kd.at_int HR0.out x6_4 p105 q105
                                                    obtain rfl : ad101 = ad105 := (by injection e105)
                                                    replace p105 := eq_true p105
                                                    replace q105 := eq_true q105
                                                    have p106 : 0 ≤ (x4_2 : Int) := of_decide_eq_true (by first | (with_reducible assumption) | assumption)
                                                    have q106 : x4_2 < (l0.length : Int) := of_decide_eq_true (by first | (with_reducible assumption) | assumption)
                                                    obtain ⟨ad106, e106, hx106_0⟩ := Kd.at_int HR0.out x4_2 p106 q106
                                                    obtain rfl : ad101 = ad106 := (by injection e106)
                                                    replace p106 := eq_true p106
                                                    replace q106 := eq_true q106
                                                    have p107 : 0 ≤ (x4_2 : Int) := of_decide_eq_true (by first | (with_reducible assumption) | assumption)
                                                    have q107 : x4_2 < (l0.length : Int) := of_decide_eq_true (by first | (with_reducible assumption) | assumption)
                                                    obtain ⟨ad107, e107, hx107_0⟩ := Kd.at_int HR0.out x4_2 p107 q107
                                                    obtain rfl : ad101 = ad107 := (by injection e107)
                                                    replace p107 := eq_true p107
                                                    replace q107 := eq_true q107
                                                    have p108 : 0 ≤ (x6_4 : Int) := of_decide_eq_true (by first | (with_reducible assumption) | assumption)
                                                    have q108 : x6_4 < (l0.length : Int) := of_decide_eq_true (by first | (with_reducible assumption) | assumption)
                                                    obtain ⟨ad108, e108, hx108_0⟩ := Kd.at_int HR0.out x6_4 p108 q108
                                                    obtain rfl : ad101 = ad108 := (by injection e108)
                                                    replace p108 := eq_true p108
                                                    replace q108 := eq_true q108
                                                    have p109 : 0 ≤ (x6_4 : Int) := of_decide_eq_true (by first | (with_reducible assumption) | assumption)
                                                    have q109 : x6_4 < (l0.length : Int) := of_decide_eq_true (by first | (with_reducible assumption) | assumption)
                                                    obtain ⟨ad109, e109, hx109_0⟩ := Kd.at_int HR0.out x6_4 p109 q109
                                                    obtain rfl : ad101 = ad109 := (by injection e109)
                                                    replace p109 := eq_true p109
                                                    replace q109 := eq_true q109
                                                    have p110 : 0 ≤ (x3_1 : Int) := of_decide_eq_true (by first | (with_reducible assumption) | assumption)
                                                    have q110 : x3_1 < (l0.length : Int) := of_decide_eq_true (by first | (with_reducible assumption) | assumption)
                                                    obtain ⟨ad110, e110, hx110_0⟩ := Kd.at_int HR0.out x3_1 p110 q110
                                                    obtain rfl : ad101 = ad110 := (by injection e110)
                                                    replace p110 := eq_true p110
                                                    replace q110 := eq_true q110
                                                    have p111 : 0 ≤ (x3_1 : Int) := of_decide_eq_true (by first | (with_reducible assumption) | assumption)
                                                    have q111 : x3_1 < (l0.length : Int) := of_decide_eq_true (by first | (with_reducible assumption) | assumption)
                                                    obtain ⟨ad111, e111, hx111_0⟩ := Kd.at_int HR0.out x3_1 p111 q111
                                                    obtain rfl : ad101 = ad111 := (by injection e111)
                                                    replace p111 := eq_true p111
                                                    replace q111 := eq_true q111
                                                    have p112 : 0 ≤ (x5_3 : Int) := of_decide_eq_true (by first | (with_reducible assumption) | assumption)
                                                    have q112 : x5_3 < (l0.length : Int) := of_decide_eq_true (by first | (with_reducible assumption) | assumption)
                                                    obtain ⟨ad112, e112, hx112_0⟩ := Kd.at_int HR0.out x5_3 p112 q112
                                                    obtain rfl : ad101 = ad112 := (by injection e112)
                                                    replace p112 := eq_true p112
                                                    replace q112 := eq_true q112
                                                    go_wp2
                                                    repeat (go_quiet (fail); try go_wp2)
                                                    go_ret
                                                    exact ⟨by first | rfl | (simp; done) | (simp [*]; done), by repeat (first | exact Drawn0.refl _ | apply Drawn0.step)⟩
                                                  · rw [if_neg c18] at H
                                                    have c18b0 : decide ((rd l0 x3_1) < (rd l0 x5_3)) = false := decide_eq_false c18
                                                    clear c18
                                                    have H' := Aside0.mk H
                                                    clear H
                                                    have p101 : 0 ≤ (x5_3 : Int) := of_decide_eq_true (by first | (with_reducible assumption) | assumption)
                                                    have q101 : x5_3 < (l0.length : Int) := of_decide_eq_true (by first | (with_reducible assumption) | assumption)
                                                    obtain ⟨ad101, e101, hx101_0⟩ := Kd.at_int HR0.out x5_3 p101 q101
                                                    cases e101
                                                    replace p101 := eq_true p101
                                                    replace q101 := eq_true q101
                                                    have p102 : 0 ≤ (x3_1 : Int) := of_decide_eq_true (by first | (with_reducible assumption) | assumption)
                                                    have q102 : x3_1 < (l0.length : Int) := of_decide_eq_true (by first | (with_reducible assumption) | assumption)
                                                    obtain ⟨ad102, e102, hx102_0⟩ := Kd.at_int HR0.out x3_1 p102 q102
                                                    obtain rfl : ad101 = ad102 := (by injection e102)
                                                    replace p102 := eq_true p102
                                                    replace q102 := eq_true q102
                                                    have p103 : 0 ≤ (x3_1 : Int) := of_decide_eq_true (by first | (with_reducible assumption) | assumption)
                                                    have q103 : x3_1 < (l0.length : Int) := of_decide_eq_true (by first | (with_reducible assumption) | assumption)
                                                    obtain ⟨ad103, e103, hx103_0⟩ := Kd.at_int HR0.out x3_1 p103 q103
                                                    obtain rfl : ad101 = ad103 := (by injection e103)
                                                    replace p103 := eq_true p103
                                                    replace q103 := eq_true q103
                                                    have p104 : 0 ≤ (x6_4 : Int) := of_decide_eq_true (by first | (with_reducible assumption) | assumption)
                                                    have q104 : x6_4 < (l0.length : Int) := of_decide_eq_true (by first | (with_reducible assumption) | assumption)
                                                    obtain ⟨ad104, e104, hx104_0⟩ := Kd.at_int HR0.out x6_4 p104 q104
                                                    obtain rfl : ad101 = ad104 := (by injection e104)
                                                    replace p104 := eq_true p104
                                                    replace q104 := eq_true q104
                                                    have p105 : 0 ≤ (x6_4 : Int) := of_decide_eq_true (by first | (with_reducible assumption) | assumption)
                                                    have q105 : x6_4 < (l0.length : Int) := of_decide_eq_true (by first | (with_reducible assumption) | assumption)
                                                    obtain ⟨ad105, e105, hx105_0⟩ := Kd.at_int HR0.out x6_4 p105 q105
                                                    obtain rfl : ad101 = ad105 := (by injection e105)
                                                    replace p105 := eq_true p105
                                                    replace q105 := eq_true q105
                                                    have p106 : 0 ≤ (x4_2 : Int) := of_decide_eq_true (by first | (with_reducible assumption) | assumption)
                                                    have q106 : x4_2 < (l0.length : Int) := of_decide_eq_true (by first | (with_reducible assumption) | assumption)
                                                    obtain ⟨ad106, e106, hx106_0⟩ := Kd.at_int HR0.out x4_2 p106 q106
                                                    obtain rfl : ad101 = ad106 := (by injection e106)
                                                    replace p106 := eq_true p106
                                                    replace q106 := eq_true q106
                                                    have p107 : 0 ≤ (x4_2 : Int) := of_decide_eq_true (by first | (with_reducible assumption) | assumption)
                                                    have q107 : x4_2 < (l0.length : Int) := of_decide_eq_true (by first | (with_reducible assumption) | assumption)
                                                    obtain ⟨ad107, e107, hx107_0⟩ := Kd.at_int HR0.out x4_2 p107 q107
                                                    obtain rfl : ad101 = ad107 := (by injection e107)
                                                    replace p107 := eq_true p107
                                                    replace q107 := eq_true q107
                                                    have p108 : 0 ≤ (x6_4 : Int) := of_decide_eq_true (by first | (with_reducible assumption) | assumption)
                                                    have q108 : x6_4 < (l0.length : Int) := of_decide_eq_true (by first | (with_reducible assumption) | assumption)
                                                    obtain ⟨ad108, e108, hx108_0⟩ := Kd.at_int HR0.out x6_4 p108 q108
                                                    obtain rfl : ad101 = ad108 := (by injection e108)
                                                    replace p108 := eq_true p108
                                                    replace q108 := eq_true q108
                                                    have p109 : 0 ≤ (x6_4 : Int) := of_decide_eq_true (by first | (with_reducible assumption) | assumption)
                                                    have q109 : x6_4 < (l0.length : Int) := of_decide_eq_true (by first | (with_reducible assumption) | assumption)
                                                    obtain ⟨ad109, e109, hx109_0⟩ := Kd.at_int HR0.out x6_4 p109 q109
                                                    obtain rfl : ad101 = ad109 := (by injection e109)
                                                    replace p109 := eq_true p109
                                                    replace q109 := eq_true q109
                                                    have p110 : 0 ≤ (x3_1 : Int) := of_decide_eq_true (by first | (with_reducible assumption) | assumption)
                                                    have q110 : x3_1 < (l0.length : Int) := of_decide_eq_true (by first | (with_reducible assumption) | assumption)
                                                    obtain ⟨ad110, e110, hx110_0⟩ := Kd.at_int HR0.out x3_1 p110 q110
                                                    obtain rfl : ad101 = ad110 := (by injection e110)
                                                    replace p110 := eq_true p110
                                                    replace q110 := eq_true q110
                                                    have p111 : 0 ≤ (x3_1 : Int) := of_decide_eq_true (by first | (with_reducible assumption) | assumption)
                                                    have q111 : x3_1 < (l0.length : Int) := of_decide_eq_true (by first | (with_reducible assumption) | assumption)
                                                    obtain ⟨ad111, e111, hx111_0⟩ := Kd.at_int HR0.out x3_1 p111 q111
                                                    obtain rfl : ad101 = ad111 := (by injection e111)
                                                    replace p111 := eq_true p111
                                                    replace q111 := eq_true q111
                                                    have p112 : 0 ≤ (x5_3 : Int) := of_decide_eq_true (by first | (with_reducible assumption) | assumption)
                                                    have q112 : x5_3 < (l0.length : Int) := of_decide_eq_true (by first | (with_reducible assumption) | assumption)
                                                    obtain ⟨ad112, e112, hx112_0⟩ := Kd.at_int HR0.out x5_3 p112 q112
                                                    obtain rfl : ad101 = ad112 := (by injection e112)
                                                    replace p112 := eq_true p112
                                                    replace q112 := eq_true q112
                                                    go_wp2
                                                    repeat (go_quiet (fail); try go_wp2)
                                                    go_roundg k4
                                                    case measure => have := HK1.out; have := HK2.out; have := HK3.out; have := HK4.out; omega
                                                    case rel => exact ⟨(wrap64 (x6_4 + 1)), (by first | rfl | (simp; done) | (simp [*]; done)), H', ⟨by have := HK1.out; have := HK2.out; have := HK3.out; have := HK4.out; omega⟩, by repeat (first | exact Drawn0.refl _ | apply Drawn0.step)⟩
                                                · rw [if_neg c17] at H
                                                  have c17b0 : decide ((rd l0 x6_4) < (rd l0 x3_1)) = false := decide_eq_false c17
                                                  clear c17
                                                  have H' := Aside0.mk H
                                                  clear H
                                                  have p101 : 0 ≤ (x5_3 : Int) := of_decide_eq_true (by first | (with_reducible assumption) | assumption)
                                                  have q101 : x5_3 < (l0.length : Int) := of_decide_eq_true (by first | (with_reducible assumption) | assumption)
                                                  obtain ⟨ad101, e101, hx101_0⟩ := Kd.at_int HR0.out x5_3 p101 q101
                                                  cases e101
                                                  replace p101 := eq_true p101
                                                  replace q101 := eq_true q101
                                                  have p102 : 0 ≤ (x3_1 : Int) := of_decide_eq_true (by first | (with_reducible assumption) | assumption)
                                                  have q102 : x3_1 < (l0.length : Int) := of_decide_eq_true (by first | (with_reducible assumption) | assumption)
                                                  obtain ⟨ad102, e102, hx102_0⟩ := Kd.at_int HR0.out x3_1 p102 q102
                                                  obtain rfl : ad101 = ad102 := (by injection e102)
                                                  replace p102 := eq_true p102
                                                  replace q102 := eq_true q102
                                                  have p103 : 0 ≤ (x3_1 : Int) := of_decide_eq_true (by first | (with_reducible assumption) | assumption)
                                                  have q103 : x3_1 < (l0.length : Int) := of_decide_eq_true (by first | (with_reducible assumption) | assumption)
                                                  obtain ⟨ad103, e103, hx103_0⟩ := Kd.at_int HR0.out x3_1 p103 q103
                                                  obtain rfl : ad101 = ad103 := (by injection e103)
                                                  replace p103 := eq_true p103
                                                  replace q103 := eq_true q103
                                                  have p104 : 0 ≤ (x6_4 : Int) := of_decide_eq_true (by first | (with_reducible assumption) | assumption)
                                                  have q104 : x6_4 < (l0.length : Int) := of_decide_eq_true (by first | (with_reducible assumption) | assumption)
                                                  obtain ⟨ad104, e104, hx104_0⟩ := Kd.at_int HR0.out x6_4 p104 q104
                                                  obtain rfl : ad101 = ad104 := (by injection e104)
                                                  replace p104 := eq_true p104
                                                  replace q104 := eq_true q104
                                                  have p105 : 0 ≤ (x6_4 : Int) := of_decide_eq_true (by first | (with_reducible assumption) | assumption)
                                                  have q105 : x6_4 < (l0.length : Int) := of_decide_eq_true (by first | (with_reducible assumption) | assumption)
                                                  obtain ⟨ad105, e105, hx105_0⟩ := Kd.at_int HR0.out x6_4 p105 q105
                                                  obtain rfl : ad101 = ad105 := (by injection e105)
                                                  replace p105 := eq_true p105
                                                  replace q105 := eq_true q105
                                                  have p106 : 0 ≤ (x4_2 : Int) := of_decide_eq_true (by first | (with_reducible assumption) | assumption)
                                                  have q106 : x4_2 < (l0.length : Int) := of_decide_eq_true (by first | (with_reducible assumption) | assumption)
                                                  obtain ⟨ad106, e106, hx106_0⟩ := Kd.at_int HR0.out x4_2 p106 q106
                                                  obtain rfl : ad101 = ad106 := (by injection e106)
                                                  replace p106 := eq_true p106
                                                  replace q106 := eq_true q106
                                                  have p107 : 0 ≤ (x4_2 : Int) := of_decide_eq_true (by first | (with_reducible assumption) | assumption)
                                                  have q107 : x4_2 < (l0.length : Int) := of_decide_eq_true (by first | (with_reducible assumption) | assumption)
                                                  obtain ⟨ad107, e107, hx107_0⟩ := Kd.at_int HR0.out x4_2 p107 q107
                                                  obtain rfl : ad101 = ad107 := (by injection e107)
                                                  replace p107 := eq_true p107
                                                  replace q107 := eq_true q107
                                                  have p108 : 0 ≤ (x6_4 : Int) := of_decide_eq_true (by first | (with_reducible assumption) | assumption)
                                                  have q108 : x6_4 < (l0.length : Int) := of_decide_eq_true (by first | (with_reducible assumption) | assumption)
                                                  obtain ⟨ad108, e108, hx108_0⟩ := Kd.at_int HR0.out x6_4 p108 q108
                                                  obtain rfl : ad101 = ad108 := (by injection e108)
                                                  replace p108 := eq_true p108
                                                  replace q108 := eq_true q108
                                                  have p109 : 0 ≤ (x6_4 : Int) := of_decide_eq_true (by first | (with_reducible assumption) | assumption)
                                                  have q109 : x6_4 < (l0.length : Int) := of_decide_eq_true (by first | (with_reducible assumption) | assumption)
                                                  obtain ⟨ad109, e109, hx109_0⟩ := Kd.at_int HR0.out x6_4 p109 q109
                                                  obtain rfl : ad101 = ad109 := (by injection e109)
                                                  replace p109 := eq_true p109
                                                  replace q109 := eq_true q109
                                                  have p110 : 0 ≤ (x3_1 : Int) := of_decide_eq_true (by first | (with_reducible assumption) | assumption)
                                                  have q110 : x3_1 < (l0.length : Int) := of_decide_eq_true (by first | (with_reducible assumption) | assumption)
                                                  obtain ⟨ad110, e110, hx110_0⟩ := Kd.at_int HR0.out x3_1 p110 q110
                                                  obtain rfl : ad101 = ad110 := (by injection e110)
                                                  replace p110 := eq_true p110
                                                  replace q110 := eq_true q110
                                                  go_wp2
                                                  repeat (go_quiet (fail); try go_wp2)
                                                  go_roundg k4
                                                  case measure => have := HK1.out; have := HK2.out; have := HK3.out; have := HK4.out; omega
                                                  case rel => exact ⟨(wrap64 (x6_4 + 1)), (by first | rfl | (simp; done) | (simp [*]; done)), H', ⟨by have := HK1.out; have := HK2.out; have := HK3.out; have := HK4.out; omega⟩, by repeat (first | exact Drawn0.refl _ | apply Drawn0.step)⟩
                                              · rw [if_neg c16] at H
                                                have c16b0 : decide ((rd l0 x4_2) < (rd l0 x6_4)) = false := decide_eq_false c16
                                                clear c16
                                                have H' := Aside0.mk H
                                                clear H
                                                have p101 : 0 ≤ (x5_3 : Int) := of_decide_eq_true (by first | (with_reducible assumption) | assumption)
                                                have q101 : x5_3 < (l0.length : Int) := of_decide_eq_true (by first | (with_reducible assumption) | assumption)
                                                obtain ⟨ad101, e101, hx101_0⟩ := Kd.at_int HR0.out x5_3 p101 q101
                                                cases e101
                                                replace p101 := eq_true p101
                                                replace q101 := eq_true q101
                                                have p102 : 0 ≤ (x3_1 : Int) := of_decide_eq_true (by first | (with_reducible assumption) | assumption)
                                                have q102 : x3_1 < (l0.length : Int) := of_decide_eq_true (by first | (with_reducible assumption) | assumption)
                                                obtain ⟨ad102, e102, hx102_0⟩ := Kd.at_int HR0.out x3_1 p102 q102
                                                obtain rfl : ad101 = ad102 := (by injection e102)
                                                replace p102 := eq_true p102
                                                replace q102 := eq_true q102
                                                have p103 : 0 ≤ (x3_1 : Int) := of_decide_eq_true (by first | (with_reducible assumption) | assumption)
                                                have q103 : x3_1 < (l0.length : Int) := of_decide_eq_true (by first | (with_reducible assumption) | assumption)
                                                obtain ⟨ad103, e103, hx103_0⟩ := Kd.at_int HR0.out x3_1 p103 q103
                                                obtain rfl : ad101 = ad103 := (by injection e103)
                                                replace p103 := eq_true p103
                                                replace q103 := eq_true q103
                                                have p104 : 0 ≤ (x6_4 : Int) := of_decide_eq_true (by first | (with_reducible assumption) | assumption)
                                                have q104 : x6_4 < (l0.length : Int) := of_decide_eq_true (by first | (with_reducible assumption) | assumption)
                                                obtain ⟨ad104, e104, hx104_0⟩ := Kd.at_int HR0.out x6_4 p104 q104
                                                obtain rfl : ad101 = ad104 := (by injection e104)
                                                replace p104 := eq_true p104
                                                replace q104 := eq_true q104
                                                have p105 : 0 ≤ (x6_4 : Int) := of_decide_eq_true (by first | (with_reducible assumption) | assumption)
                                                have q105 : x6_4 < (l0.length : Int) := of_decide_eq_true (by first | (with_reducible assumption) | assumption)
                                                obtain ⟨ad105, e105, hx105_0⟩ := Kd.at_int HR0.out x6_4 p105 q105
                                                obtain rfl : ad101 = ad105 := (by injection e105)
                                                replace p105 := eq_true p105
                                                replace q105 := eq_true q105
                                                have p106 : 0 ≤ (x4_2 : Int) := of_decide_eq_true (by first | (with_reducible assumption) | assumption)
                                                have q106 : x4_2 < (l0.length : Int) := of_decide_eq_true (by first | (with_reducible assumption) | assumption)
                                                obtain ⟨ad106, e106, hx106_0⟩ := Kd.at_int HR0.out x4_2 p106 q106
                                                obtain rfl : ad101 = ad106 := (by injection e106)
                                                replace p106 := eq_true p106
                                                replace q106 := eq_true q106
                                                have p107 : 0 ≤ (x4_2 : Int) := of_decide_eq_true (by first | (with_reducible assumption) | assumption)
                                                have q107 : x4_2 < (l0.length : Int) := of_decide_eq_true (by first | (with_reducible assumption) | assumption)
                                                obtain ⟨ad107, e107, hx107_0⟩ := Kd.at_int HR0.out x4_2 p107 q107
                                                obtain rfl : ad101 = ad107 := (by injection e107)
                                                replace p107 := eq_true p107
                                                replace q107 := eq_true q107
                                                have p108 : 0 ≤ (x6_4 : Int) := of_decide_eq_true (by first | (with_reducible assumption) | assumption)
                                                have q108 : x6_4 < (l0.length : Int) := of_decide_eq_true (by first | (with_reducible assumption) | assumption)
                                                obtain ⟨ad108, e108, hx108_0⟩ := Kd.at_int HR0.out x6_4 p108 q108
                                                obtain rfl : ad101 = ad108 := (by injection e108)
                                                replace p108 := eq_true p108
                                                replace q108 := eq_true q108
                                                go_wp2
                                                repeat (go_quiet (fail); try go_wp2)
                                                go_roundg k4
                                                case measure => have := HK1.out; have := HK2.out; have := HK3.out; have := HK4.out; omega
                                                case rel => exact ⟨(wrap64 (x6_4 + 1)), (by first | rfl | (simp; done) | (simp [*]; done)), H', ⟨by have := HK1.out; have := HK2.out; have := HK3.out; have := HK4.out; omega⟩, by repeat (first | exact Drawn0.refl _ | apply Drawn0.step)⟩
                                          · rw [if_neg c14] at H
                                            exact absurd H (by simp)
                                        · rw [if_neg c13] at H
                                          exact absurd H (by simp)
                                      · rw [if_neg c12] at H
                                        have c12b0 : decide ((rd l0 x3_1) < (rd l0 x6_4)) = false := decide_eq_false c12
                                        clear c12
                                        by_cases c19 : 0 ≤ x4_2
                                        · rw [if_pos c19] at H
                                          have c19b0 : decide (0 ≤ x4_2) = true := decide_eq_true c19
                                          clear c19
                                          by_cases c20 : x4_2 < (l0.length : Int)
                                          · rw [if_pos c20] at H
                                            have c20b0 : decide (x4_2 < (l0.length : Int)) = true := decide_eq_true c20
                                            clear c20
                                            by_cases c21 : (rd l0 x4_2) < (rd l0 x6_4)
                                            · rw [if_pos c21] at H
                                              have c21b0 : decide ((rd l0 x4_2) < (rd l0 x6_4)) = true := decide_eq_true c21
                                              clear c21
                                              by_cases c22 : (rd l0 x6_4) < (rd l0 x3_1)
                                              · rw [if_pos c22] at H
                                                have c22b0 : decide ((rd l0 x6_4) < (rd l0 x3_1)) = true := decide_eq_true c22
                                                clear c22
                                                by_cases c23 : (rd l0 x3_1) < (rd l0 x5_3)
                                                · rw [if_pos c23] at H
                                                  have c23b0 : decide ((rd l0 x3_1) < (rd l0 x5_3)) = true := decide_eq_true c23
                                                  clear c23
                                                  obtain rfl := Option.some.inj H
                                                  have p101 : 0 ≤ (x5_3 : Int) := of_decide_eq_true (by first | (with_reducible assumption) | assumption)
                                                  have q101 : x5_3 < (l0.length : Int) := of_decide_eq_true (by first | (with_reducible assumption) | assumption)
                                                  obtain ⟨ad101, e101, hx101_0⟩ := Kd.at_int HR0.out x5_3 p101 q101
                                                  cases e101
                                                  replace p101 := eq_true p101
                                                  replace q101 := eq_true q101
                                                  have p102 : 0 ≤ (x3_1 : Int) := of_decide_eq_true (by first | (with_reducible assumption) | assumption)
                                                  have q102 : x3_1 < (l0.length : Int) := of_decide_eq_true (by first | (with_reducible assumption) | assumption)
                                                  obtain ⟨ad102, e102, hx102_0⟩ := Kd.at_int HR0.out x3_1 p102 q102
                                                  obtain rfl : ad101 = ad102 := (by injection e102)
                                                  replace p102 := eq_true p102
                                                  replace q102 := eq_true q102
                                                  have p103 : 0 ≤ (x3_1 : Int) := of_decide_eq_true (by first | (with_reducible assumption) | assumption)
                                                  have q103 : x3_1 < (l0.length : Int) := of_decide_eq_true (by first | (with_reducible assumption) | assumption)
                                                  obtain ⟨ad103, e103, hx103_0⟩ := Kd.at_int HR0.out x3_1 p103 q103
                                                  obtain rfl : ad101 = ad103 := (by injection e103)
                                                  replace p103 := eq_true p103
                                                  replace q103 := eq_true q103
                                                  have p104 : 0 ≤ (x6_4 : Int) := of_decide_eq_true (by first | (with_reducible assumption) | assumption)
                                                  have q104 : x6_4 < (l0.length : Int) := of_decide_eq_true (by first | (with_reducible assumption) | assumption)
                                                  obtain ⟨ad104, e104, hx104_0⟩ := Kd.at_int HR0.out x6_4 p104 q104
                                                  obtain rfl : ad101 = ad104 := (by injection e104)
                                                  replace p104 := eq_true p104
                                                  replace q104 := eq_true q104
                                                  have p113 : 0 ≤ (x4_2 : Int) := of_decide_eq_true (by first | (with_reducible assumption) | assumption)
                                                  have q113 : x4_2 < (l0.length : Int) := of_decide_eq_true (by first | (with_reducible assumption) | assumption)
                                                  obtain ⟨ad113, e113, hx113_0⟩ := Kd.at_int HR0.out x4_2 p113 q113
                                                  obtain rfl : ad101 = ad113 := (by injection e113)
                                                  replace p113 := eq_true p113
                                                  replace q113 := eq_true q113
                                                  have p114 : 0 ≤ (x6_4 : Int) := of_decide_eq_true (by first | (with_reducible assumption) | assumption)
                                                  have q114 : x6_4 < (l0.length : Int) := of_decide_eq_true (by first | (with_reducible assumption) | assumption)
                                                  obtain ⟨ad114, e114, hx114_0⟩ := Kd.at_int HR0.out x6_4 p114 q114
                                                  obtain rfl : ad101 = ad114 := (by injection e114)
                                                  replace p114 := eq_true p114
                                                  replace q114 := eq_true q114
                                                  have p115 : 0 ≤ (x6_4 : Int) := of_decide_eq_true (by first | (with_reducible assumption) | assumption)
                                                  have q115 : x6_4 < (l0.length : Int) := of_decide_eq_true (by first | (with_reducible assumption) | assumption)
                                                  obtain ⟨ad115, e115, hx115_0⟩ := Kd.at_int HR0.out x6_4 p115 q115
                                                  obtain rfl : ad101 = ad115 := (by injection e115)
                                                  replace p115 := eq_true p115
                                                  replace q115 := eq_true q115
                                                  have p116 : 0 ≤ (x3_1 : Int) := of_decide_eq_true (by first | (with_reducible assumption) | assumption)
                                                  have q116 : x3_1 < (l0.length : Int) := of_decide_eq_true (by first | (with_reducible assumption) | assumption)
                                                  obtain ⟨ad116, e116, hx116_0⟩ := Kd.at_int HR0.out x3_1 p116 q116
                                                  obtain rfl : ad101 = ad116 := (by injection e116)
                                                  replace p116 := eq_true p116
                                                  replace q116 := eq_true q116
                                                  have p117 : 0 ≤ (x3_1 : Int) := of_decide_eq_true (by first | (with_reducible assumption) | assumption)
                                                  have q117 : x3_1 < (l0.length : Int) := of_decide_eq_true (by first | (with_reducible assumption) | assumption)
                                                  obtain ⟨ad117, e117, hx117_0⟩ := Kd.at_int HR0.out x3_1 p117 q117
                                                  obtain rfl : ad101 = ad117 := (by injection e117)
                                                  replace p117 := eq_true p117
                                                  replace q117 := eq_true q117
                                                  have p118 : 0 ≤ (x5_3 : Int) := of_decide_eq_true (by first | (with_reducible assumption) | assumption)
                                                  have q118 : x5_3 < (l0.length : Int) := of_decide_eq_true (by first | (with_reducible assumption) | assumption)
                                                  obtain ⟨ad118, e118, hx118_0⟩ := Kd.at_int HR0.out x5_3 p118 q118
                                                  obtain rfl : ad101 = ad118 := (by injection e118)
                                                  replace p118 := eq_true p118
                                                  replace q118 := eq_true q118
                                                  go_wp2
                                                  repeat (go_quiet (fail); try go_wp2)
                                                  go_ret
                                                  exact ⟨by first | rfl | (simp; done) | (simp [*]; done), by repeat (first | exact Drawn0.refl _ | apply Drawn0.step)⟩
                                                · rw [if_neg c23] at H
                                                  have c23b0 : decide ((rd l0 x3_1) < (rd l0 x5_3)) = false := decide_eq_false c23
                                                  clear c23
                                                  have H' := Aside0.mk H
                                                  clear H
                                                  have p101 : 0 ≤ (x5_3 : Int) := of_decide_eq_true (by first | (with_reducible assumption) | assumption)
                                                  have q101 : x5_3 < (l0.length : Int) := of_decide_eq_true (by first | (with_reducible assumption) | assumption)
                                                  obtain ⟨ad101, e101, hx101_0⟩ := Kd.at_int HR0.out x5_3 p101 q101
                                                  cases e101
                                                  replace p101 := eq_true p101
                                                  replace q101 := eq_true q101
                                                  have p102 : 0 ≤ (x3_1 : Int) := of_decide_eq_true (by first | (with_reducible assumption) | assumption)
                                                  have q102 : x3_1 < (l0.length : Int) := of_decide_eq_true (by first | (with_reducible assumption) | assumption)
                                                  obtain ⟨ad102, e102, hx102_0⟩ := Kd.at_int HR0.out x3_1 p102 q102
                                                  obtain rfl : ad101 = ad102 := (by injection e102)
                                                  replace p102 := eq_true p102
                                                  replace q102 := eq_true q102
                                                  have p103 : 0 ≤ (x3_1 : Int) := of_decide_eq_true (by first | (with_reducible assumption) | assumption)
                                                  have q103 : x3_1 < (l0.length : Int) := of_decide_eq_true (by first | (with_reducible assumption) | assumption)
                                                  obtain ⟨ad103, e103, hx103_0⟩ := Kd.at_int HR0.out x3_1 p103 q103
                                                  obtain rfl : ad101 = ad103 := (by injection e103)
                                                  replace p103 := eq_true p103
                                                  replace q103 := eq_true q103
                                                  have p104 : 0 ≤ (x6_4 : Int) := of_decide_eq_true (by first | (with_reducible assumption) | assumption)
                                                  have q104 : x6_4 < (l0.length : Int) := of_decide_eq_true (by first | (with_reducible assumption) | assumption)
                                                  obtain ⟨ad104, e104, hx104_0⟩ := Kd.at_int HR0.out x6_4 p104 q104
                                                  obtain rfl : ad101 = ad104 := (by injection e104)
                                                  replace p104 := eq_true p104
                                                  replace q104 := eq_true q104
                                                  have p113 : 0 ≤ (x4_2 : Int) := of_decide_eq_true (by first | (with_reducible assumption) | assumption)
                                                  have q113 : x4_2 < (l0.length : Int) := of_decide_eq_true (by first | (with_reducible assumption) | assumption)
                                                  obtain ⟨ad113, e113, hx113_0⟩ := Kd.at_int HR0.out x4_2 p113 q113
                                                  obtain rfl : ad101 = ad113 := (by injection e113)
                                                  replace p113 := eq_true p113
                                                  replace q113 := eq_true q113
                                                  have p114 : 0 ≤ (x6_4 : Int) := of_decide_eq_true (by first | (with_reducible assumption) | assumption)
                                                  have q114 : x6_4 < (l0.length : Int) := of_decide_eq_true (by first | (with_reducible assumption) | assumption)
                                                  obtain ⟨ad114, e114, hx114_0⟩ := Kd.at_int HR0.out x6_4 p114 q114
                                                  obtain rfl : ad101 = ad114 := (by injection e114)
                                                  replace p114 := eq_true p114
                                                  replace q114 := eq_true q114
                                                  have p115 : 0 ≤ (x6_4 : Int) := of_decide_eq_true (by first | (with_reducible assumption) | assumption)
                                                  have q115 : x6_4 < (l0.length : Int) := of_decide_eq_true (by first | (with_reducible assumption) | assumption)
                                                  obtain ⟨ad115, e115, hx115_0⟩ := Kd.at_int HR0.out x6_4 p115 q115
                                                  obtain rfl : ad101 = ad115 := (by injection e115)
                                                  replace p115 := eq_true p115
                                                  replace q115 := eq_true q115
                                                  have p116 : 0 ≤ (x3_1 : Int) := of_decide_eq_true (by first | (with_reducible assumption) | assumption)
                                                  have q116 : x3_1 < (l0.length : Int) := of_decide_eq_true (by first | (with_reducible assumption) | assumption)
                                                  obtain ⟨ad116, e116, hx116_0⟩ := Kd.at_int HR0.out x3_1 p116 q116
                                                  obtain rfl : ad101 = ad116 := (by injection e116)
                                                  replace p116 := eq_true p116
                                                  replace q116 := eq_true q116
                                                  have p117 : 0 ≤ (x3_1 : Int) := of_decide_eq_true (by first | (with_reducible assumption) | assumption)
                                                  have q117 : x3_1 < (l0.length : Int) := of_decide_eq_true (by first | (with_reducible assumption) | assumption)
                                                  obtain ⟨ad117, e117, hx117_0⟩ := Kd.at_int HR0.out x3_1 p117 q117
                                                  obtain rfl : ad101 = ad117 := (by injection e117)
                                                  replace p117 := eq_true p117
                                                  replace q117 := eq_true q117
                                                  have p118 : 0 ≤ (x5_3 : Int) := of_decide_eq_true (by first | (with_reducible assumption) | assumption)
                                                  have q118 : x5_3 < (l0.length : Int) := of_decide_eq_true (by first | (with_reducible assumption) | assumption)
                                                  obtain ⟨ad118, e118, hx118_0⟩ := Kd.at_int HR0.out x5_3 p118 q118
                                                  obtain rfl : ad101 = ad118 := (by injection e118)
                                                  replace p118 := eq_true p118
                                                  replace q118 := eq_true q118
                                                  go_wp2
                                                  repeat (go_quiet (fail); try go_wp2)
                                                  go_roundg k4
                                                  case measure => have := HK1.out; have := HK2.out; have := HK3.out; have := HK4.out; omega
                                                  case rel => exact ⟨(wrap64 (x6_4 + 1)), (by first | rfl | (simp; done) | (simp [*]; done)), H', ⟨by have := HK1.out; have := HK2.out; have := HK3.out; have := HK4.out; omega⟩, by repeat (first | exact Drawn0.refl _ | apply Drawn0.step)⟩
                                              · rw [if_neg c22] at H
                                                have c22b0 : decide ((rd l0 x6_4) < (rd l0 x3_1)) = false := decide_eq_false c22
                                                clear c22
                                                have H' := Aside0.mk H
                                                clear H
                                                have p101 : 0 ≤ (x5_3 : Int) := of_decide_eq_true (by first | (with_reducible assumption) | assumption)
                                                have q101 : x5_3 < (l0.length : Int) := of_decide_eq_true (by first | (with_reducible assumption) | assumption)
                                                obtain ⟨ad101, e101, hx101_0⟩ := Kd.at_int HR0.out x5_3 p101 q101
                                                cases e101
                                                replace p101 := eq_true p101
                                                replace q101 := eq_true q101
                                                have p102 : 0 ≤ (x3_1 : Int) := of_decide_eq_true (by first | (with_reducible assumption) | assumption)
                                                have q102 : x3_1 < (l0.length : Int) := of_decide_eq_true (by first | (with_reducible assumption) | assumption)
                                                obtain ⟨ad102, e102, hx102_0⟩ := Kd.at_int HR0.out x3_1 p102 q102
                                                obtain rfl : ad101 = ad102 := (by injection e102)
                                                replace p102 := eq_true p102
                                                replace q102 := eq_true q102
                                                have p103 : 0 ≤ (x3_1 : Int) := of_decide_eq_true (by first | (with_reducible assumption) | assumption)
                                                have q103 : x3_1 < (l0.length : Int) := of_decide_eq_true (by first | (with_reducible assumption) | assumption)
                                                obtain ⟨ad103, e103, hx103_0⟩ := Kd.at_int HR0.out x3_1 p103 q103
                                                obtain rfl : ad101 = ad103 := (by injection e103)
                                                replace p103 := eq_true p103
                                                replace q103 := eq_true q103
                                                have p104 : 0 ≤ (x6_4 : Int) := of_decide_eq_true (by first | (with_reducible assumption) | assumption)
                                                have q104 : x6_4 < (l0.length : Int) := of_decide_eq_true (by first | (with_reducible assumption) | assumption)
                                                obtain ⟨ad104, e104, hx104_0⟩ := Kd.at_int HR0.out x6_4 p104 q104
                                                obtain rfl : ad101 = ad104 := (by injection e104)
                                                replace p104 := eq_true p104
                                                replace q104 := eq_true q104
                                                have p113 : 0 ≤ (x4_2 : Int) := of_decide_eq_true (by first | (with_reducible assumption) | assumption)
                                                have q113 : x4_2 < (l0.length : Int) := of_decide_eq_true (by first | (with_reducible assumption) | assumption)
                                                obtain ⟨ad113, e113, hx113_0⟩ := Kd.at_int HR0.out x4_2 p113 q113
                                                obtain rfl : ad101 = ad113 := (by injection e113)
                                                replace p113 := eq_true p113
                                                replace q113 := eq_true q113
                                                have p114 : 0 ≤ (x6_4 : Int) := of_decide_eq_true (by first | (with_reducible assumption) | assumption)
                                                have q114 : x6_4 < (l0.length : Int) := of_decide_eq_true (by first | (with_reducible assumption) | assumption)
                                                obtain ⟨ad114, e114, hx114_0⟩ := Kd.at_int HR0.out x6_4 p114 q114
                                                obtain rfl : ad101 = ad114 := (by injection e114)
                                                replace p114 := eq_true p114
                                                replace q114 := eq_true q114
                                                have p115 : 0 ≤ (x6_4 : Int) := of_decide_eq_true (by first | (with_reducible assumption) | assumption)
                                                have q115 : x6_4 < (l0.length : Int) := of_decide_eq_true (by first | (with_reducible assumption) | assumption)
                                                obtain ⟨ad115, e115, hx115_0⟩ := Kd.at_int HR0.out x6_4 p115 q115
                                                obtain rfl : ad101 = ad115 := (by injection e115)
                                                replace p115 := eq_true p115
                                                replace q115 := eq_true q115
                                                have p116 : 0 ≤ (x3_1 : Int) := of_decide_eq_true (by first | (with_reducible assumption) | assumption)
                                                have q116 : x3_1 < (l0.length : Int) := of_decide_eq_true (by first | (with_reducible assumption) | assumption)
                                                obtain ⟨ad116, e116, hx116_0⟩ := Kd.at_int HR0.out x3_1 p116 q116
                                                obtain rfl : ad101 = ad116 := (by injection e116)
                                                replace p116 := eq_true p116
                                                replace q116 := eq_true q116
                                                go_wp2
                                                repeat (go_quiet (fail); try go_wp2)
                                                go_roundg k4
                                                case measure => have := HK1.out; have := HK2.out; have := HK3.out; have := HK4.out; omega
                                                case rel => exact ⟨(wrap64 (x6_4 + 1)), (by first | rfl | (simp; done) | (simp [*]; done)), H', ⟨by have := HK1.out; have := HK2.out; have := HK3.out; have := HK4.out; omega⟩, by repeat (first | exact Drawn0.refl _ | apply Drawn0.step)⟩
                                            · rw [if_neg c21] at H
                                              have c21b0 : decide ((rd l0 x4_2) < (rd l0 x6_4)) = false := decide_eq_false c21
                                              clear c21
                                              have H' := Aside0.mk H
                                              clear H
                                              have p101 : 0 ≤ (x5_3 : Int) := of_decide_eq_true (by first | (with_reducible assumption) | assumption)
                                              have q101 : x5_3 < (l0.length : Int) := of_decide_eq_true (by first | (with_reducible assumption) | assumption)
                                              obtain ⟨ad101, e101, hx101_0⟩ := Kd.at_int HR0.out x5_3 p101 q101
                                              cases e101
                                              replace p101 := eq_true p101
                                              replace q101 := eq_true q101
                                              have p102 : 0 ≤ (x3_1 : Int) := of_decide_eq_true (by first | (with_reducible assumption) | assumption)
                                              have q102 : x3_1 < (l0.length : Int) := of_decide_eq_true (by first | (with_reducible assumption) | assumption)
                                              obtain ⟨ad102, e102, hx102_0⟩ := Kd.at_int HR0.out x3_1 p102 q102
                                              obtain rfl : ad101 = ad102 := (by injection e102)
                                              replace p102 := eq_true p102
                                              replace q102 := eq_true q102
                                              have p103 : 0 ≤ (x3_1 : Int) := of_decide_eq_true (by first | (with_reducible assumption) | assumption)
                                              have q103 : x3_1 < (l0.length : Int) := of_decide_eq_true (by first | (with_reducible assumption) | assumption)
                                              obtain ⟨ad103, e103, hx103_0⟩ := Kd.at_int HR0.out x3_1 p103 q103
                                              obtain rfl : ad101 = ad103 := (by injection e103)
                                              replace p103 := eq_true p103
                                              replace q103 := eq_true q103
                                              have p104 : 0 ≤ (x6_4 : Int) := of_decide_eq_true (by first | (with_reducible assumption) | assumption)
                                              have q104 : x6_4 < (l0.length : Int) := of_decide_eq_true (by first | (with_reducible assumption) | assumption)
                                              obtain ⟨ad104, e104, hx104_0⟩ := Kd.at_int HR0.out x6_4 p104 q104
                                              obtain rfl : ad101 = ad104 := (by injection e104)
                                              replace p104 := eq_true p104
                                              replace q104 := eq_true q104
                                              have p113 : 0 ≤ (x4_2 : Int) := of_decide_eq_true (by first | (with_reducible assumption) | assumption)
                                              have q113 : x4_2 < (l0.length : Int) := of_decide_eq_true (by first | (with_reducible assumption) | assumption)
                                              obtain ⟨ad113, e113, hx113_0⟩ := Kd.at_int HR0.out x4_2 p113 q113
                                              obtain rfl : ad101 = ad113 := (by injection e113)
                                              replace p113 := eq_true p113
                                              replace q113 := eq_true q113
                                              have p114 : 0 ≤ (x6_4 : Int) := of_decide_eq_true (by first | (with_reducible assumption) | assumption)
                                              have q114 : x6_4 < (l0.length : Int) := of_decide_eq_true (by first | (with_reducible assumption) | assumption)
                                              obtain ⟨ad114, e114, hx114_0⟩ := Kd.at_int HR0.out x6_4 p114 q114
                                              obtain rfl : ad101 = ad114 := (by injection e114)
                                              replace p114 := eq_true p114
                                              replace q114 := eq_true q114
                                              go_wp2
                                              repeat (go_quiet (fail); try go_wp2)
                                              go_roundg k4
                                              case measure => have := HK1.out; have := HK2.out; have := HK3.out; have := HK4.out; omega
                                              case rel => exact ⟨(wrap64 (x6_4 + 1)), (by first | rfl | (simp; done) | (simp [*]; done)), H', ⟨by have := HK1.out; have := HK2.out; have := HK3.out; have := HK4.out; omega⟩, by repeat (first | exact Drawn0.refl _ | apply Drawn0.step)⟩
                                          · rw [if_neg c20] at H
                                            exact absurd H (by simp)
                                        · rw [if_neg c19] at H
                                          exact absurd H (by simp)
                                    · rw [if_neg c11] at H
                                      exact absurd H (by simp)
                                  · rw [if_neg c10] at H
                                    have c10b0 : decide ((rd l0 x5_3) < (rd l0 x3_1)) = false := decide_eq_false c10
                                    clear c10
                                    by_cases c24 : 0 ≤ x4_2
                                    · rw [if_pos c24] at H
                                      have c24b0 : decide (0 ≤ x4_2) = true := decide_eq_true c24
                                      clear c24
                                      by_cases c25 : x4_2 < (l0.length : Int)
                                      · rw [if_pos c25] at H
                                        have c25b0 : decide (x4_2 < (l0.length : Int)) = true := decide_eq_true c25
                                        clear c25
                                        by_cases c26 : 0 ≤ x6_4
                                        · rw [if_pos c26] at H
                                          have c26b0 : decide (0 ≤ x6_4) = true := decide_eq_true c26
                                          clear c26
                                          by_cases c27 : (rd l0 x4_2) < (rd l0 x6_4)
                                          · rw [if_pos c27] at H
                                            have c27b0 : decide ((rd l0 x4_2) < (rd l0 x6_4)) = true := decide_eq_true c27
                                            clear c27
                                            by_cases c28 : (rd l0 x6_4) < (rd l0 x3_1)
                                            · rw [if_pos c28] at H
                                              have c28b0 : decide ((rd l0 x6_4) < (rd l0 x3_1)) = true := decide_eq_true c28
                                              clear c28
                                              by_cases c29 : (rd l0 x3_1) < (rd l0 x5_3)
                                              · rw [if_pos c29] at H
                                                have c29b0 : decide ((rd l0 x3_1) < (rd l0 x5_3)) = true := decide_eq_true c29
                                                clear c29
                                                obtain rfl := Option.some.inj H
                                                have p101 : 0 ≤ (x5_3 : Int) := of_decide_eq_true (by first | (with_reducible assumption) | assumption)
                                                have q101 : x5_3 < (l0.length : Int) := of_decide_eq_true (by first | (with_reducible assumption) | assumption)
                                                obtain ⟨ad101, e101, hx101_0⟩ := Kd.at_int HR0.out x5_3 p101 q101
                                                cases e101
                                                replace p101 := eq_true p101
                                                replace q101 := eq_true q101
                                                have p102 : 0 ≤ (x3_1 : Int) := of_decide_eq_true (by first | (with_reducible assumption) | assumption)
                                                have q102 : x3_1 < (l0.length : Int) := of_decide_eq_true (by first | (with_reducible assumption) | assumption)
                                                obtain ⟨ad102, e102, hx102_0⟩ := Kd.at_int HR0.out x3_1 p102 q102
                                                obtain rfl : ad101 = ad102 := (by injection e102)
                                                replace p102 := eq_true p102
                                                replace q102 := eq_true q102
                                                have p119 : 0 ≤ (x4_2 : Int) := of_decide_eq_true (by first | (with_reducible assumption) | assumption)
                                                have q119 : x4_2 < (l0.length : Int) := of_decide_eq_true (by first | (with_reducible assumption) | assumption)
                                                obtain ⟨ad119, e119, hx119_0⟩ := Kd.at_int HR0.out x4_2 p119 q119
                                                obtain rfl : ad101 = ad119 := (by injection e119)
                                                replace p119 := eq_true p119
                                                replace q119 := eq_true q119
                                                have p120 : 0 ≤ (x6_4 : Int) := of_decide_eq_true (by first | (with_reducible assumption) | assumption)
                                                have q120 : x6_4 < (l0.length : Int) := of_decide_eq_true (by first | (with_reducible assumption) | assumption)
                                                obtain ⟨ad120, e120, hx120_0⟩ := Kd.at_int HR0.out x6_4 p120 q120
                                                obtain rfl : ad101 = ad120 := (by injection e120)
                                                replace p120 := eq_true p120
                                                replace q120 := eq_true q120
                                                have p121 : 0 ≤ (x6_4 : Int) := of_decide_eq_true (by first | (with_reducible assumption) | assumption)
                                                have q121 : x6_4 < (l0.length : Int) := of_decide_eq_true (by first | (with_reducible assumption) | assumption)
                                                obtain ⟨ad121, e121, hx121_0⟩ := Kd.at_int HR0.out x6_4 p121 q121
                                                obtain rfl : ad101 = ad121 := (by injection e121)
                                                replace p121 := eq_true p121
                                                replace q121 := eq_true q121
                                                have p122 : 0 ≤ (x3_1 : Int) := of_decide_eq_true (by first | (with_reducible assumption) | assumption)
                                                have q122 : x3_1 < (l0.length : Int) := of_decide_eq_true (by first | (with_reducible assumption) | assumption)
                                                obtain ⟨ad122, e122, hx122_0⟩ := Kd.at_int HR0.out x3_1 p122 q122
                                                obtain rfl : ad101 = ad122 := (by injection e122)
                                                replace p122 := eq_true p122
                                                replace q122 := eq_true q122
                                                have p123 : 0 ≤ (x3_1 : Int) := of_decide_eq_true (by first | (with_reducible assumption) | assumption)
                                                have q123 : x3_1 < (l0.length : Int) := of_decide_eq_true (by first | (with_reducible assumption) | assumption)
                                                obtain ⟨ad123, e123, hx123_0⟩ := Kd.at_int HR0.out x3_1 p123 q123
                                                obtain rfl : ad101 = ad123 := (by injection e123)
                                                replace p123 := eq_true p123
                                                replace q123 := eq_true q123
                                                have p124 : 0 ≤ (x5_3 : Int) := of_decide_eq_true (by first | (with_reducible assumption) | assumption)
                                                have q124 : x5_3 < (l0.length : Int) := of_decide_eq_true (by first | (with_reducible assumption) | assumption)
                                                obtain ⟨ad124, e124, hx124_0⟩ := Kd.at_int HR0.out x5_3 p124 q124
                                                obtain rfl : ad101 = ad124 := (by injection e124)
                                                replace p124 := eq_true p124
                                                replace q124 := eq_true q124
                                                go_wp2
                                                repeat (go_quiet (fail); try go_wp2)
                                                go_ret
                                                exact ⟨by first | rfl | (simp; done) | (simp [*]; done), by repeat (first | exact Drawn0.refl _ | apply Drawn0.step)⟩
                                              · rw [if_neg c29] at H
                                                have c29b0 : decide ((rd l0 x3_1) < (rd l0 x5_3)) = false := decide_eq_false c29
                                                clear c29
                                                have H' := Aside0.mk H
                                                clear H
                                                have p101 : 0 ≤ (x5_3 : Int) := of_decide_eq_true (by first | (with_reducible assumption) | assumption)
                                                have q101 : x5_3 < (l0.length : Int) := of_decide_eq_true (by first | (with_reducible assumption) | assumption)
                                                obtain ⟨ad101, e101, hx101_0⟩ := Kd.at_int HR0.out x5_3 p101 q101
                                                cases e101
                                                replace p101 := eq_true p101
                                                replace q101 := eq_true q101
                                                have p102 : 0 ≤ (x3_1 : Int) := of_decide_eq_true (by first | (with_reducible assumption) | assumption)
                                                have q102 : x3_1 < (l0.length : Int) := of_decide_eq_true (by first | (with_reducible assumption) | assumption)
                                                obtain ⟨ad102, e102, hx102_0⟩ := Kd.at_int HR0.out x3_1 p102 q102
                                                obtain rfl : ad101 = ad102 := (by injection e102)
                                                replace p102 := eq_true p102
                                                replace q102 := eq_true q102
                                                have p119 : 0 ≤ (x4_2 : Int) := of_decide_eq_true (by first | (with_reducible assumption) | assumption)
                                                have q119 : x4_2 < (l0.length : Int) := of_decide_eq_true (by first | (with_reducible assumption) | assumption)
                                                obtain ⟨ad119, e119, hx119_0⟩ := Kd.at_int HR0.out x4_2 p119 q119
                                                obtain rfl : ad101 = ad119 := (by injection e119)
                                                replace p119 := eq_true p119
                                                replace q119 := eq_true q119
                                                have p120 : 0 ≤ (x6_4 : Int) := of_decide_eq_true (by first | (with_reducible assumption) | assumption)
                                                have q120 : x6_4 < (l0.length : Int) := of_decide_eq_true (by first | (with_reducible assumption) | assumption)
                                                obtain ⟨ad120, e120, hx120_0⟩ := Kd.at_int HR0.out x6_4 p120 q120
                                                obtain rfl : ad101 = ad120 := (by injection e120)
                                                replace p120 := eq_true p120
                                                replace q120 := eq_true q120
                                                have p121 : 0 ≤ (x6_4 : Int) := of_decide_eq_true (by first | (with_reducible assumption) | assumption)
                                                have q121 : x6_4 < (l0.length : Int) := of_decide_eq_true (by first | (with_reducible assumption) | assumption)
                                                obtain ⟨ad121, e121, hx121_0⟩ := Kd.at_int HR0.out x6_4 p121 q121
                                                obtain rfl : ad101 = ad121 := (by injection e121)
                                                replace p121 := eq_true p121
                                                replace q121 := eq_true q121
                                                have p122 : 0 ≤ (x3_1 : Int) := of_decide_eq_true (by first | (with_reducible assumption) | assumption)
                                                have q122 : x3_1 < (l0.length : Int) := of_decide_eq_true (by first | (with_reducible assumption) | assumption)
                                                obtain ⟨ad122, e122, hx122_0⟩ := Kd.at_int HR0.out x3_1 p122 q122
                                                obtain rfl : ad101 = ad122 := (by injection e122)
                                                replace p122 := eq_true p122
                                                replace q122 := eq_true q122
                                                have p123 : 0 ≤ (x3_1 : Int) := of_decide_eq_true (by first | (with_reducible assumption) | assumption)
                                                have q123 : x3_1 < (l0.length : Int) := of_decide_eq_true (by first | (with_reducible assumption) | assumption)
                                                obtain ⟨ad123, e123, hx123_0⟩ := Kd.at_int HR0.out x3_1 p123 q123
                                                obtain rfl : ad101 = ad123 := (by injection e123)
                                                replace p123 := eq_true p123
                                                replace q123 := eq_true q123
                                                have p124 : 0 ≤ (x5_3 : Int) := of_decide_eq_true (by first | (with_reducible assumption) | assumption)
                                                have q124 : x5_3 < (l0.length : Int) := of_decide_eq_true (by first | (with_reducible assumption) | assumption)
                                                obtain ⟨ad124, e124, hx124_0⟩ := Kd.at_int HR0.out x5_3 p124 q124
                                                obtain rfl : ad101 = ad124 := (by injection e124)
                                                replace p124 := eq_true p124
                                                replace q124 := eq_true q124
                                                go_wp2
                                                repeat (go_quiet (fail); try go_wp2)
                                                go_roundg k4
                                                case measure => have := HK1.out; have := HK2.out; have := HK3.out; have := HK4.out; omega
                                                case rel => exact ⟨(wrap64 (x6_4 + 1)), (by first | rfl | (simp; done) | (simp [*]; done)), H', ⟨by have := HK1.out; have := HK2.out; have := HK3.out; have := HK4.out; omega⟩, by repeat (first | exact Drawn0.refl _ | apply Drawn0.step)⟩
                                            · rw [if_neg c28] at H
                                              have c28b0 : decide ((rd l0 x6_4) < (rd l0 x3_1)) = false := decide_eq_false c28
                                              clear c28
                                              have H' := Aside0.mk H
                                              clear H
                                              have p101 : 0 ≤ (x5_3 : Int) := of_decide_eq_true (by first | (with_reducible assumption) | assumption)
                                              have q101 : x5_3 < (l0.length : Int) := of_decide_eq_true (by first | (with_reducible assumption) | assumption)
                                              obtain ⟨ad101, e101, hx101_0⟩ := Kd.at_int HR0.out x5_3 p101 q101
                                              cases e101
                                              replace p101 := eq_true p101
                                              replace q101 := eq_true q101
                                              have p102 : 0 ≤ (x3_1 : Int) := of_decide_eq_true (by first | (with_reducible assumption) | assumption)
                                              have q102 : x3_1 < (l0.length : Int) := of_decide_eq_true (by first | (with_reducible assumption) | assumption)
                                              obtain ⟨ad102, e102, hx102_0⟩ := Kd.at_int HR0.out x3_1 p102 q102
                                              obtain rfl : ad101 = ad102 := (by injection e102)
                                              replace p102 := eq_true p102
                                              replace q102 := eq_true q102
                                              have p119 : 0 ≤ (x4_2 : Int) := of_decide_eq_true (by first | (with_reducible assumption) | assumption)
                                              have q119 : x4_2 < (l0.length : Int) := of_decide_eq_true (by first | (with_reducible assumption) | assumption)
                                              obtain ⟨ad119, e119, hx119_0⟩ := Kd.at_int HR0.out x4_2 p119 q119
                                              obtain rfl : ad101 = ad119 := (by injection e119)
                                              replace p119 := eq_true p119
                                              replace q119 := eq_true q119
                                              have p120 : 0 ≤ (x6_4 : Int) := of_decide_eq_true (by first | (with_reducible assumption) | assumption)
                                              have q120 : x6_4 < (l0.length : Int) := of_decide_eq_true (by first | (with_reducible assumption) | assumption)
                                              obtain ⟨ad120, e120, hx120_0⟩ := Kd.at_int HR0.out x6_4 p120 q120
                                              obtain rfl : ad101 = ad120 := (by injection e120)
                                              replace p120 := eq_true p120
                                              replace q120 := eq_true q120
                                              have p121 : 0 ≤ (x6_4 : Int) := of_decide_eq_true (by first | (with_reducible assumption) | assumption)
                                              have q121 : x6_4 < (l0.length : Int) := of_decide_eq_true (by first | (with_reducible assumption) | assumption)
                                              obtain ⟨ad121, e121, hx121_0⟩ := Kd.at_int HR0.out x6_4 p121 q121
                                              obtain rfl : ad101 = ad121 := (by injection e121)
                                              replace p121 := eq_true p121
                                              replace q121 := eq_true q121
                                              have p122 : 0 ≤ (x3_1 : Int) := of_decide_eq_true (by first | (with_reducible assumption) | assumption)
                                              have q122 : x3_1 < (l0.length : Int) := of_decide_eq_true (by first | (with_reducible assumption) | assumption)
                                              obtain ⟨ad122, e122, hx122_0⟩ := Kd.at_int HR0.out x3_1 p122 q122
                                              obtain rfl : ad101 = ad122 := (by injection e122)
                                              replace p122 := eq_true p122
                                              replace q122 := eq_true q122
                                              go_wp2
                                              repeat (go_quiet (fail); try go_wp2)
                                              go_roundg k4
                                              case measure => have := HK1.out; have := HK2.out; have := HK3.out; have := HK4.out; omega
                                              case rel => exact ⟨(wrap64 (x6_4 + 1)), (by first | rfl | (simp; done) | (simp [*]; done)), H', ⟨by have := HK1.out; have := HK2.out; have := HK3.out; have := HK4.out; omega⟩, by repeat (first | exact Drawn0.refl _ | apply Drawn0.step)⟩
                                          · rw [if_neg c27] at H
                                            have c27b0 : decide ((rd l0 x4_2) < (rd l0 x6_4)) = false := decide_eq_false c27
                                            clear c27
                                            have H' := Aside0.mk H
                                            clear H
                                            have p101 : 0 ≤ (x5_3 : Int) := of_decide_eq_true (by first | (with_reducible assumption) | assumption)
                                            have q101 : x5_3 < (l0.length : Int) := of_decide_eq_true (by first | (with_reducible assumption) | assumption)
                                            obtain ⟨ad101, e101, hx101_0⟩ := Kd.at_int HR0.out x5_3 p101 q101
                                            cases e101
                                            replace p101 := eq_true p101
                                            replace q101 := eq_true q101
                                            have p102 : 0 ≤ (x3_1 : Int) := of_decide_eq_true (by first | (with_reducible assumption) | assumption)
                                            have q102 : x3_1 < (l0.length : Int) := of_decide_eq_true (by first | (with_reducible assumption) | assumption)
                                            obtain ⟨ad102, e102, hx102_0⟩ := Kd.at_int HR0.out x3_1 p102 q102
                                            obtain rfl : ad101 = ad102 := (by injection e102)
                                            replace p102 := eq_true p102
                                            replace q102 := eq_true q102
                                            have p119 : 0 ≤ (x4_2 : Int) := of_decide_eq_true (by first | (with_reducible assumption) | assumption)
                                            have q119 : x4_2 < (l0.length : Int) := of_decide_eq_true (by first | (with_reducible assumption) | assumption)
                                            obtain ⟨ad119, e119, hx119_0⟩ := Kd.at_int HR0.out x4_2 p119 q119
                                            obtain rfl : ad101 = ad119 := (by injection e119)
                                            replace p119 := eq_true p119
                                            replace q119 := eq_true q119
                                            have p120 : 0 ≤ (x6_4 : Int) := of_decide_eq_true (by first | (with_reducible assumption) | assumption)
                                            have q120 : x6_4 < (l0.length : Int) := of_decide_eq_true (by first | (with_reducible assumption) | assumption)
                                            obtain ⟨ad120, e120, hx120_0⟩ := Kd.at_int HR0.out x6_4 p120 q120
                                            obtain rfl : ad101 = ad120 := (by injection e120)
                                            replace p120 := eq_true p120
                                            replace q120 := eq_true q120
                                            go_wp2
                                            repeat (go_quiet (fail); try go_wp2)
                                            go_roundg k4
                                            case measure => have := HK1.out; have := HK2.out; have := HK3.out; have := HK4.out; omega
                                            case rel => exact ⟨(wrap64 (x6_4 + 1)), (by first | rfl | (simp; done) | (simp [*]; done)), H', ⟨by have := HK1.out; have := HK2.out; have := HK3.out; have := HK4.out; omega⟩, by repeat (first | exact Drawn0.refl _ | apply Drawn0.step)⟩
                                        · rw [if_neg c26] at H
                                          exact absurd H (by simp)
                                      · rw [if_neg c25] at H
                                        exact absurd H (by simp)
                                    · rw [if_neg c24] at H
                                      exact absurd H (by simp)
                                · rw [if_neg c9] at H
                                  exact absurd H (by simp)
                              · rw [if_neg c8] at H
                                exact absurd H (by simp)
                            · rw [if_neg c7] at H
                              exact absurd H (by simp)
                          · rw [if_neg c6] at H
                            exact absurd H (by simp)
                        · rw [if_neg c5] at H
                          have c5b0 : decide (x6_4 < (l0.length : Int)) = false := decide_eq_false c5
                          clear c5
                          have H' := Aside0.mk H
                          clear H
                          go_wp2
                          repeat (go_quiet (fail); try go_wp2)
                          go_roundg k4
                          case measure => have := HK1.out; have := HK2.out; have := HK3.out; have := HK4.out; omega
                          case rel => exact ⟨(wrap64 (x5_3 + 1)), (by first | rfl | (simp; done) | (simp [*]; done)), H', ⟨by have := HK1.out; have := HK2.out; have := HK3.out; have := HK4.out; omega⟩, by repeat (first | exact Drawn0.refl _ | apply Drawn0.step)⟩
                  · rw [if_neg c4] at H
                    have c4b0 : decide (x5_3 < (l0.length : Int)) = false := decide_eq_false c4
                    clear c4
                    have H' := Aside0.mk H
                    clear H
                    go_wp2
                    repeat (go_quiet (fail); try go_wp2)
                    go_roundg k3
                    case measure => have := HK1.out; have := HK2.out; have := HK3.out; omega
                    case rel => exact ⟨(wrap64 (x4_2 + 1)), (by first | rfl | (simp; done) | (simp [*]; done)), H', ⟨by have := HK1.out; have := HK2.out; have := HK3.out; omega⟩, by repeat (first | exact Drawn0.refl _ | apply Drawn0.step)⟩
            · rw [if_neg c3] at H
              have c3b0 : decide (x4_2 < (l0.length : Int)) = false := decide_eq_false c3
              clear c3
              have H' := Aside0.mk H
              clear H
              go_wp2
              repeat (go_quiet (fail); try go_wp2)
              go_roundg k2
              case measure => have := HK1.out; have := HK2.out; omega
              case rel => exact ⟨(wrap64 (x3_1 + 1)), (by first | rfl | (simp; done) | (simp [*]; done)), H', ⟨by have := HK1.out; have := HK2.out; omega⟩, by repeat (first | exact Drawn0.refl _ | apply Drawn0.step)⟩
      · rw [if_neg c2] at H
        have c2b0 : decide (x3_1 < (l0.length : Int)) = false := decide_eq_false c2
        clear c2
        obtain rfl := Option.some.inj H
        go_wp2
        repeat (go_quiet (fail); try go_wp2)
        go_ret
        exact ⟨by first | rfl | (simp; done) | (simp [*]; done), by repeat (first | exact Drawn0.refl _ | apply Drawn0.step)⟩

end Go.Proofs.Ytgehkabfjpifiaa.Qc

-- Our own text, written by wip/qprint.py over the kit's print.
import Derived.Test.YtolegnmdcmfoiaaQb0
namespace Go.Proofs.Ytolegnmdcmfoiaa.Qb
open Go.RowKit Go.Proofs.Ytolegnmdcmfoiaa.S Go.Proofs.YtolegnmdcmfoiaaW.PrintWords Go.Proofs.YtolegnmdcmfoiaaW.PrintLast Go.Proofs.YtolegnmdcmfoiaaW.PrintMore
attribute [local go_sem] max2_int min2_int max_two min_two max_three min_three max_four min_four   -- for this text's walks alone
set_option linter.unusedVariables false
set_option linter.unusedSimpArgs false

/-! ### spec_l6Loose: function 24 -/
mutual
def spec_l6Loose.l0 : Nat → List Int → Int → Option (Bool)
  | 0, _, _ => none
  | k + 1, x0, x3 => if x3 < (x0.length : Int) then (spec_l6Loose.l1 k x0 x3 (wrap64 (x3 + 1))) else (some true)
def spec_l6Loose.l1 : Nat → List Int → Int → Int → Option (Bool)
  | 0, _, _, _ => none
  | k + 1, x0, x3, x4 => if x4 < (x0.length : Int) then (spec_l6Loose.l2 k x0 x3 x4 (wrap64 (x4 + 1))) else (spec_l6Loose.l0 k x0 (wrap64 (x3 + 1)))
def spec_l6Loose.l2 : Nat → List Int → Int → Int → Int → Option (Bool)
  | 0, _, _, _, _ => none
  | k + 1, x0, x3, x4, x5 => if x5 < (x0.length : Int) then (spec_l6Loose.l3 k x0 x3 x4 x5 (wrap64 (x5 + 1))) else (spec_l6Loose.l1 k x0 x3 (wrap64 (x4 + 1)))
def spec_l6Loose.l3 : Nat → List Int → Int → Int → Int → Int → Option (Bool)
  | 0, _, _, _, _, _ => none
  | k + 1, x0, x3, x4, x5, x6 => if x6 < (x0.length : Int) then (if 0 ≤ x5 then (if x5 < (x0.length : Int) then (if 0 ≤ x3 then (if x3 < (x0.length : Int) then (if (rd x0 x5) < (rd x0 x3) then (if 0 ≤ x6 then (if (rd x0 x3) < (rd x0 x6) then (if 0 ≤ x4 then (if x4 < (x0.length : Int) then (if (rd x0 x6) < (rd x0 x4) then (some false) else (if (rd x0 x4) < (rd x0 x6) then (if (rd x0 x6) < (rd x0 x3) then (if (rd x0 x3) < (rd x0 x5) then (some false) else (spec_l6Loose.l3 k x0 x3 x4 x5 (wrap64 (x6 + 1)))) else (spec_l6Loose.l3 k x0 x3 x4 x5 (wrap64 (x6 + 1)))) else (spec_l6Loose.l3 k x0 x3 x4 x5 (wrap64 (x6 + 1))))) else (none)) else (none)) else (if 0 ≤ x4 then (if x4 < (x0.length : Int) then (if (rd x0 x4) < (rd x0 x6) then (if (rd x0 x6) < (rd x0 x3) then (if (rd x0 x3) < (rd x0 x5) then (some false) else (spec_l6Loose.l3 k x0 x3 x4 x5 (wrap64 (x6 + 1)))) else (spec_l6Loose.l3 k x0 x3 x4 x5 (wrap64 (x6 + 1)))) else (spec_l6Loose.l3 k x0 x3 x4 x5 (wrap64 (x6 + 1)))) else (none)) else (none))) else (none)) else (if 0 ≤ x4 then (if x4 < (x0.length : Int) then (if 0 ≤ x6 then (if (rd x0 x4) < (rd x0 x6) then (if (rd x0 x6) < (rd x0 x3) then (if (rd x0 x3) < (rd x0 x5) then (some false) else (spec_l6Loose.l3 k x0 x3 x4 x5 (wrap64 (x6 + 1)))) else (spec_l6Loose.l3 k x0 x3 x4 x5 (wrap64 (x6 + 1)))) else (spec_l6Loose.l3 k x0 x3 x4 x5 (wrap64 (x6 + 1)))) else (none)) else (none)) else (none))) else (none)) else (none)) else (none)) else (none)) else (spec_l6Loose.l2 k x0 x3 x4 (wrap64 (x5 + 1)))
end
def spec_l6Loose.f (k : Nat) (l0 : List Int) : Option (Bool) := spec_l6Loose.l0 k l0 0
theorem spec_l6Loose.mono_l : ∀ k, (∀ y0 y1, LeO (spec_l6Loose.l0 k y0 y1) (spec_l6Loose.l0 (k + 1) y0 y1)) ∧ (∀ y0 y1 y2, LeO (spec_l6Loose.l1 k y0 y1 y2) (spec_l6Loose.l1 (k + 1) y0 y1 y2)) ∧ (∀ y0 y1 y2 y3, LeO (spec_l6Loose.l2 k y0 y1 y2 y3) (spec_l6Loose.l2 (k + 1) y0 y1 y2 y3)) ∧ (∀ y0 y1 y2 y3 y4, LeO (spec_l6Loose.l3 k y0 y1 y2 y3 y4) (spec_l6Loose.l3 (k + 1) y0 y1 y2 y3 y4))
  | 0 => ⟨fun _ _ r h => by simp [spec_l6Loose.l0] at h, fun _ _ _ r h => by simp [spec_l6Loose.l1] at h, fun _ _ _ _ r h => by simp [spec_l6Loose.l2] at h, fun _ _ _ _ _ r h => by simp [spec_l6Loose.l3] at h⟩
  | k + 1 => by
    obtain ⟨ih0, ih1, ih2, ih3⟩ := spec_l6Loose.mono_l k
    refine ⟨?_, ?_, ?_, ?_⟩
    · intro y0 y1
      unfold spec_l6Loose.l0
      repeat' first
      | (with_reducible exact ih0 _ _)
      | (with_reducible exact ih1 _ _ _)
      | (with_reducible exact ih2 _ _ _ _)
      | (with_reducible exact ih3 _ _ _ _ _)
      | (with_reducible exact LeO.refl _)
      | (with_reducible exact LeO.none _)
      | (with_reducible refine LeO.ite ?_ ?_)
      | (with_reducible refine LeO.bind ?_ (fun _ => ?_))
      | exact ih0 _ _
      | exact ih1 _ _ _
      | exact ih2 _ _ _ _
      | exact ih3 _ _ _ _ _
      | exact LeO.none _
      | refine LeO.ite ?_ ?_
      | refine LeO.bind ?_ (fun _ => ?_)
    · intro y0 y1 y2
      unfold spec_l6Loose.l1
      repeat' first
      | (with_reducible exact ih0 _ _)
      | (with_reducible exact ih1 _ _ _)
      | (with_reducible exact ih2 _ _ _ _)
      | (with_reducible exact ih3 _ _ _ _ _)
      | (with_reducible exact LeO.refl _)
      | (with_reducible exact LeO.none _)
      | (with_reducible refine LeO.ite ?_ ?_)
      | (with_reducible refine LeO.bind ?_ (fun _ => ?_))
      | exact ih0 _ _
      | exact ih1 _ _ _
      | exact ih2 _ _ _ _
      | exact ih3 _ _ _ _ _
      | exact LeO.none _
      | refine LeO.ite ?_ ?_
      | refine LeO.bind ?_ (fun _ => ?_)
    · intro y0 y1 y2 y3
      unfold spec_l6Loose.l2
      repeat' first
      | (with_reducible exact ih0 _ _)
      | (with_reducible exact ih1 _ _ _)
      | (with_reducible exact ih2 _ _ _ _)
      | (with_reducible exact ih3 _ _ _ _ _)
      | (with_reducible exact LeO.refl _)
      | (with_reducible exact LeO.none _)
      | (with_reducible refine LeO.ite ?_ ?_)
      | (with_reducible refine LeO.bind ?_ (fun _ => ?_))
      | exact ih0 _ _
      | exact ih1 _ _ _
      | exact ih2 _ _ _ _
      | exact ih3 _ _ _ _ _
      | exact LeO.none _
      | refine LeO.ite ?_ ?_
      | refine LeO.bind ?_ (fun _ => ?_)
    · intro y0 y1 y2 y3 y4
      unfold spec_l6Loose.l3
      repeat' first
      | (with_reducible exact ih0 _ _)
      | (with_reducible exact ih1 _ _ _)
      | (with_reducible exact ih2 _ _ _ _)
      | (with_reducible exact ih3 _ _ _ _ _)
      | (with_reducible exact LeO.refl _)
      | (with_reducible exact LeO.none _)
      | (with_reducible refine LeO.ite ?_ ?_)
      | (with_reducible refine LeO.bind ?_ (fun _ => ?_))
      | exact ih0 _ _
      | exact ih1 _ _ _
      | exact ih2 _ _ _ _
      | exact ih3 _ _ _ _ _
      | exact LeO.none _
      | refine LeO.ite ?_ ?_
      | refine LeO.bind ?_ (fun _ => ?_)
theorem spec_l6Loose.mono : ∀ a0 k, LeO (spec_l6Loose.f k a0) (spec_l6Loose.f (k + 1) a0) := by
  intro a0 k
  obtain ⟨ih0, ih1, ih2, ih3⟩ := spec_l6Loose.mono_l k
  unfold spec_l6Loose.f
  repeat' first
      | (with_reducible exact ih0 _ _)
      | (with_reducible exact ih1 _ _ _)
      | (with_reducible exact ih2 _ _ _ _)
      | (with_reducible exact ih3 _ _ _ _ _)
      | (with_reducible exact LeO.refl _)
      | (with_reducible exact LeO.none _)
      | (with_reducible refine LeO.ite ?_ ?_)
      | (with_reducible refine LeO.bind ?_ (fun _ => ?_))
      | exact ih0 _ _
      | exact ih1 _ _ _
      | exact ih2 _ _ _ _
      | exact ih3 _ _ _ _ _
      | exact LeO.none _
      | refine LeO.ite ?_ ?_
      | refine LeO.bind ?_ (fun _ => ?_)
set_option maxHeartbeats 8000000 in
set_option maxRecDepth 100000 in
theorem spec_l6Loose.calls (k : Nat) (A0 : Option Addr) (c0 : Nat) (l0 : List Int) (r : Bool) (w : World) (hr0 : Kd.C (Kd.int .i64) w A0 l0.length l0) (hc0 : l0.length ≤ c0) (h : spec_l6Loose.f k l0 = some r) :
    Calls Try.prog 24 #[.slice A0 l0.length c0] w fun e w' => e = .returned (.bool r) ∧ Drawn0 w w' := by
  have HR0 := Aside0.mk hr0
  have HC0 := Aside0.mk hc0
  clear hr0 hc0
  have H : (spec_l6Loose.l0 k l0 0) = some r := h
  clear h
  have H' := Aside0.mk H
  clear H
  go_enter Try.func24, Try.ntmps24
  go_wp2
  repeat (go_quiet (fail); try go_wp2)
  go_loopg [3] k (fun kq v3 w' => ∃ (x3_1 : Int), v3 = .int .i64 x3_1 ∧ Aside0 (spec_l6Loose.l0 kq l0 x3_1 = some r) ∧ Aside0 (kq ≤ k) ∧ Drawn0 w w')
  case atStart => exact ⟨(0), (by first | rfl | (simp; done) | (simp [*]; done)), H', ⟨Nat.le_refl _⟩, by repeat (first | exact Drawn0.refl _ | apply Drawn0.step)⟩
  case round =>
    clear H'
    obtain ⟨x3_1, rfl, HA, HK1, ⟨m1, rfl⟩⟩ := hrel
    cases gk with
    | zero => exact absurd HA.out (by simp [spec_l6Loose.l0])
    | succ k1 =>
      have H := HA.out
      clear HA
      simp only [spec_l6Loose.l0] at H
      by_cases c2 : x3_1 < (l0.length : Int)
      · rw [if_pos c2] at H
        have c2b0 : decide (x3_1 < (l0.length : Int)) = true := decide_eq_true c2
        clear c2
        have H' := Aside0.mk H
        clear H
        go_wp2
        repeat (go_quiet (fail); try go_wp2)
        go_loopg [4] k1 (fun kq v4 w' => ∃ (x4_2 : Int), v4 = .int .i64 x4_2 ∧ Aside0 (spec_l6Loose.l1 kq l0 x3_1 x4_2 = some r) ∧ Aside0 (kq ≤ k1) ∧ Drawn0 w w')
        case atStart => exact ⟨(wrap64 (x3_1 + 1)), (by first | rfl | (simp; done) | (simp [*]; done)), H', ⟨Nat.le_refl _⟩, by repeat (first | exact Drawn0.refl _ | apply Drawn0.step)⟩
        case round =>
          clear H'
          try clear c2
          try clear c2b0
          try clear p2
          obtain ⟨x4_2, rfl, HA, HK2, ⟨m2, rfl⟩⟩ := hrel
          cases gk with
          | zero => exact absurd HA.out (by simp [spec_l6Loose.l1])
          | succ k2 =>
            have H := HA.out
            clear HA
            simp only [spec_l6Loose.l1] at H
            by_cases c3 : x4_2 < (l0.length : Int)
            · rw [if_pos c3] at H
              have c3b0 : decide (x4_2 < (l0.length : Int)) = true := decide_eq_true c3
              clear c3
              have H' := Aside0.mk H
              clear H
              go_wp2
              repeat (go_quiet (fail); try go_wp2)
              go_loopg [5] k2 (fun kq v5 w' => ∃ (x5_3 : Int), v5 = .int .i64 x5_3 ∧ Aside0 (spec_l6Loose.l2 kq l0 x3_1 x4_2 x5_3 = some r) ∧ Aside0 (kq ≤ k2) ∧ Drawn0 w w')
              case atStart => exact ⟨(wrap64 (x4_2 + 1)), (by first | rfl | (simp; done) | (simp [*]; done)), H', ⟨Nat.le_refl _⟩, by repeat (first | exact Drawn0.refl _ | apply Drawn0.step)⟩
              case round =>
                clear H'
                try clear c2
                try clear c2b0
                try clear p2
                try clear c3
                try clear c3b0
                try clear p2
                obtain ⟨x5_3, rfl, HA, HK3, ⟨m3, rfl⟩⟩ := hrel
                cases gk with
                | zero => exact absurd HA.out (by simp [spec_l6Loose.l2])
                | succ k3 =>
                  have H := HA.out
                  clear HA
                  simp only [spec_l6Loose.l2] at H
                  by_cases c4 : x5_3 < (l0.length : Int)
                  · rw [if_pos c4] at H
                    have c4b0 : decide (x5_3 < (l0.length : Int)) = true := decide_eq_true c4
                    clear c4
                    have H' := Aside0.mk H
                    clear H
                    go_wp2
                    repeat (go_quiet (fail); try go_wp2)
                    go_loopg [6] k3 (fun kq v6 w' => ∃ (x6_4 : Int), v6 = .int .i64 x6_4 ∧ Aside0 (spec_l6Loose.l3 kq l0 x3_1 x4_2 x5_3 x6_4 = some r) ∧ Aside0 (kq ≤ k3) ∧ Drawn0 w w')
                    case atStart => exact ⟨(wrap64 (x5_3 + 1)), (by first | rfl | (simp; done) | (simp [*]; done)), H', ⟨Nat.le_refl _⟩, by repeat (first | exact Drawn0.refl _ | apply Drawn0.step)⟩
                    case round =>
                      clear H'
                      try clear c2
                      try clear c2b0
                      try clear p2
                      try clear c3
                      try clear c3b0
                      try clear c4
                      try clear c4b0
                      try clear p2
                      obtain ⟨x6_4, rfl, HA, HK4, ⟨m4, rfl⟩⟩ := hrel
                      cases gk with
                      | zero => exact absurd HA.out (by simp [spec_l6Loose.l3])
                      | succ k4 =>
                        have H := HA.out
                        clear HA
                        simp only [spec_l6Loose.l3] at H
                        by_cases c5 : x6_4 < (l0.length : Int)
                        · rw [if_pos c5] at H
                          have c5b0 : decide (x6_4 < (l0.length : Int)) = true := decide_eq_true c5
                          clear c5
                          by_cases c6 : 0 ≤ x5_3
                          · rw [if_pos c6] at H
                            have c6b0 : decide (0 ≤ x5_3) = true := decide_eq_true c6
                            clear c6
                            by_cases c7 : x5_3 < (l0.length : Int)
                            · rw [if_pos c7] at H
                              have c7b0 : decide (x5_3 < (l0.length : Int)) = true := decide_eq_true c7
                              clear c7
                              by_cases c8 : 0 ≤ x3_1
                              · rw [if_pos c8] at H
                                have c8b0 : decide (0 ≤ x3_1) = true := decide_eq_true c8
                                clear c8
                                by_cases c9 : x3_1 < (l0.length : Int)
                                · rw [if_pos c9] at H
                                  have c9b0 : decide (x3_1 < (l0.length : Int)) = true := decide_eq_true c9
                                  clear c9
                                  by_cases c10 : (rd l0 x5_3) < (rd l0 x3_1)
                                  · rw [if_pos c10] at H
                                    have c10b0 : decide ((rd l0 x5_3) < (rd l0 x3_1)) = true := decide_eq_true c10
                                    clear c10
                                    by_cases c11 : 0 ≤ x6_4
                                    · rw [if_pos c11] at H
                                      have c11b0 : decide (0 ≤ x6_4) = true := decide_eq_true c11
                                      clear c11
                                      by_cases c12 : (rd l0 x3_1) < (rd l0 x6_4)
                                      · rw [if_pos c12] at H
                                        have c12b0 : decide ((rd l0 x3_1) < (rd l0 x6_4)) = true := decide_eq_true c12
                                        clear c12
                                        by_cases c13 : 0 ≤ x4_2
                                        · rw [if_pos c13] at H
                                          have c13b0 : decide (0 ≤ x4_2) = true := decide_eq_true c13
                                          clear c13
                                          by_cases c14 : x4_2 < (l0.length : Int)
                                          · rw [if_pos c14] at H
                                            have c14b0 : decide (x4_2 < (l0.length : Int)) = true := decide_eq_true c14
                                            clear c14
                                            by_cases c15 : (rd l0 x6_4) < (rd l0 x4_2)
                                            · rw [if_pos c15] at H
                                              have c15b0 : decide ((rd l0 x6_4) < (rd l0 x4_2)) = true := decide_eq_true c15
                                              clear c15
                                              obtain rfl := Option.some.inj H
                                              have p246 : 0 ≤ (x5_3 : Int) := of_decide_eq_true (by first | (with_reducible assumption) | assumption)
                                              have q246 : x5_3 < (l0.length : Int) := of_decide_eq_true (by first | (with_reducible assumption) | assumption)
                                              obtain ⟨ad246, e246, hx246_0⟩ := Kd.at_int HR0.out x5_3 p246 q246
                                              cases e246
                                              replace p246 := eq_true p246
                                              replace q246 := eq_true q246
                                              have p247 : 0 ≤ (x3_1 : Int) := of_decide_eq_true (by first | (with_reducible assumption) | assumption)
                                              have q247 : x3_1 < (l0.length : Int) := of_decide_eq_true (by first | (with_reducible assumption) | assumption)
                                              obtain ⟨ad247, e247, hx247_0⟩ := Kd.at_int HR0.out x3_1 p247 q247
                                              obtain rfl : ad246 = ad247 := (by injection e247)
                                              replace p247 := eq_true p247
                                              replace q247 := eq_true q247
                                              have p248 : 0 ≤ (x3_1 : Int) := of_decide_eq_true (by first | (with_reducible assumption) | assumption)
                                              have q248 : x3_1 < (l0.length : Int) := of_decide_eq_true (by first | (with_reducible assumption) | assumption)
                                              obtain ⟨ad248, e248, hx248_0⟩ := Kd.at_int HR0.out x3_1 p248 q248
                                              obtain rfl : ad246 = ad248 := (by injection e248)
                                              replace p248 := eq_true p248
                                              replace q248 := eq_true q248
                                              have p249 : 0 ≤ (x6_4 : Int) := of_decide_eq_true (by first | (with_reducible assumption) | assumption)
                                              have q249 : x6_4 < (l0.length : Int) := of_decide_eq_true (by first | (with_reducible assumption) | assumption)
                                              obtain ⟨ad249, e249, hx249_0⟩ := Kd.at_int HR0.out x6_4 p249 q249
                                              obtain rfl : ad246 = ad249 := (by injection e249)
                                              replace p249 := eq_true p249
                                              replace q249 := eq_true q249
                                              have p250 : 0 ≤ (x6_4 : Int) := of_decide_eq_true (by first | (with_reducible assumption) | assumption)
                                              have q250 : x6_4 < (l0.length : Int) := of_decide_eq_true (by first | (with_reducible assumption) | assumption)
                                              obtain ⟨ad250, e250, hx250_0⟩ := Kd.at_int HR0.out x6_4 p250 q250
                                              obtain rfl : ad246 = ad250 := (by injection e250)
                                              replace p250 := eq_true p250
                                              replace q250 := eq_true q250
                                              have p251 : 0 ≤ (x4_2 : Int) := of_decide_eq_true (by first | (with_reducible assumption) | assumption)
                                              have q251 : x4_2 < (l0.length : Int) := of_decide_eq_true (by first | (with_reducible assumption) | assumption)
                                              obtain ⟨ad251, e251, hx251_0⟩ := Kd.at_int HR0.out x4_2 p251 q251
                                              obtain rfl : ad246 = ad251 := (by injection e251)
                                              replace p251 := eq_true p251
                                              replace q251 := eq_true q251
                                              go_wp2
                                              repeat (go_quiet (fail); try go_wp2)
                                              go_ret
                                              exact ⟨by first | rfl | (simp; done) | (simp [*]; done), by repeat (first | exact Drawn0.refl _ | apply Drawn0.step)⟩
                                            · rw [if_neg c15] at H
                                              have c15b0 : decide ((rd l0 x6_4) < (rd l0 x4_2)) = false := decide_eq_false c15
                                              clear c15
                                              by_cases c16 : (rd l0 x4_2) < (rd l0 x6_4)
                                              · rw [if_pos c16] at H
                                                have c16b0 : decide ((rd l0 x4_2) < (rd l0 x6_4)) = true := decide_eq_true c16
                                                clear c16
                                                by_cases c17 : (rd l0 x6_4) < (rd l0 x3_1)
                                                · rw [if_pos c17] at H
                                                  have c17b0 : decide ((rd l0 x6_4) < (rd l0 x3_1)) = true := decide_eq_true c17
                                                  clear c17
                                                  by_cases c18 : (rd l0 x3_1) < (rd l0 x5_3)
                                                  · rw [if_pos c18] at H
                                                    have c18b0 : decide ((rd l0 x3_1) < (rd l0 x5_3)) = true := decide_eq_true c18
                                                    clear c18
                                                    obtain rfl := Option.some.inj H
                                                    have p246 : 0 ≤ (x5_3 : Int) := of_decide_eq_true (by first | (with_reducible assumption) | assumption)
                                                    have q246 : x5_3 < (l0.length : Int) := of_decide_eq_true (by first | (with_reducible assumption) | assumption)
                                                    obtain ⟨ad246, e246, hx246_0⟩ := Kd.at_int HR0.out x5_3 p246 q246
                                                    cases e246
                                                    replace p246 := eq_true p246
                                                    replace q246 := eq_true q246
                                                    have p247 : 0 ≤ (x3_1 : Int) := of_decide_eq_true (by first | (with_reducible assumption) | assumption)
                                                    have q247 : x3_1 < (l0.length : Int) := of_decide_eq_true (by first | (with_reducible assumption) | assumption)
                                                    obtain ⟨ad247, e247, hx247_0⟩ := Kd.at_int HR0.out x3_1 p247 q247
                                                    obtain rfl : ad246 = ad247 := (by injection e247)
                                                    replace p247 := eq_true p247
                                                    replace q247 := eq_true q247
                                                    have p248 : 0 ≤ (x3_1 : Int) := of_decide_eq_true (by first | (with_reducible assumption) | assumption)
                                                    have q248 : x3_1 < (l0.length : Int) := of_decide_eq_true (by first | (with_reducible assumption) | assumption)
                                                    obtain ⟨ad248, e248, hx248_0⟩ := Kd.at_int HR0.out x3_1 p248 q248
                                                    obtain rfl : ad246 = ad248 := (by injection e248)
                                                    replace p248 := eq_true p248
                                                    replace q248 := eq_true q248
                                                    have p249 : 0 ≤ (x6_4 : Int) := of_decide_eq_true (by first | (with_reducible assumption) | assumption)
                                                    have q249 : x6_4 < (l0.length : Int) := of_decide_eq_true (by first | (with_reducible assumption) | assumption)
                                                    obtain ⟨ad249, e249, hx249_0⟩ := Kd.at_int HR0.out x6_4 p249 q249
                                                    obtain rfl : ad246 = ad249 := (by injection e249)
                                                    replace p249 := eq_true p249
                                                    replace q249 := eq_true q249
                                                    have p250 : 0 ≤ (x6_4 : Int) := of_decide_eq_true (by first | (with_reducible assumption) | assumption)
                                                    have q250 : x6_4 < (l0.length : Int) := of_decide_eq_true (by first | (with_reducible assumption) | assumption)
                                                    obtain ⟨ad250, e250, hx250_0⟩ := Kd.at_int HR0.out x6_4 p250 q250
                                                    obtain rfl : ad246 = ad250 := (by injection e250)
                                                    replace p250 := eq_true p250
                                                    replace q250 := eq_true q250
                                                    have p251 : 0 ≤ (x4_2 : Int) := of_decide_eq_true (by first | (with_reducible assumption) | assumption)
                                                    have q251 : x4_2 < (l0.length : Int) := of_decide_eq_true (by first | (with_reducible assumption) | assumption)
                                                    obtain ⟨ad251, e251, hx251_0⟩ := Kd.at_int HR0.out x4_2 p251 q251
                                                    obtain rfl : ad246 = ad251 := (by injection e251)
                                                    replace p251 := eq_true p251
                                                    replace q251 := eq_true q251
                                                    have p252 : 0 ≤ (x4_2 : Int) := of_decide_eq_true (by first | (with_reducible assumption) | assumption)
                                                    have q252 : x4_2 < (l0.length : Int) := of_decide_eq_true (by first | (with_reducible assumption) | assumption)
                                                    obtain ⟨ad252, e252, hx252_0⟩ := Kd.at_int HR0.out x4_2 p252 q252
                                                    obtain rfl : ad246 = ad252 := (by injection e252)
                                                    replace p252 := eq_true p252
                                                    replace q252 := eq_true q252
                                                    have p253 : 0 ≤ (x6_4 : Int) := of_decide_eq_true (by first | (with_reducible assumption) | assumption)
                                                    have q253 : x6_4 < (l0.length : Int) := of_decide_eq_true (by first | (with_reducible assumption) | assumption)
                                                    obtain ⟨ad253, e253, hx253_0⟩ := Kd.at_int HR0.out x6_4 p253 q253
                                                    obtain rfl : ad246 = ad253 := (by injection e253)
                                                    replace p253 := eq_true p253
                                                    replace q253 := eq_true q253
                                                    have p254 : 0 ≤ (x6_4 : Int) := of_decide_eq_true (by first | (with_reducible assumption) | assumption)
                                                    have q254 : x6_4 < (l0.length : Int) := of_decide_eq_true (by first | (with_reducible assumption) | assumption)
                                                    obtain ⟨ad254, e254, hx254_0⟩ := Kd.at_int HR0.out x6_4 p254 q254
                                                    obtain rfl : ad246 = ad254 := (by injection e254)
                                                    replace p254 := eq_true p254
                                                    replace q254 := eq_true q254
                                                    have p255 : 0 ≤ (x3_1 : Int) := of_decide_eq_true (by first | (with_reducible assumption) | assumption)
                                                    have q255 : x3_1 < (l0.length : Int) := of_decide_eq_true (by first | (with_reducible assumption) | assumption)
                                                    obtain ⟨ad255, e255, hx255_0⟩ := Kd.at_int HR0.out x3_1 p255 q255
                                                    obtain rfl : ad246 = ad255 := (by injection e255)
                                                    replace p255 := eq_true p255
                                                    replace q255 := eq_true q255
                                                    have p256 : 0 ≤ (x3_1 : Int) := of_decide_eq_true (by first | (with_reducible assumption) | assumption)
                                                    have q256 : x3_1 < (l0.length : Int) := of_decide_eq_true (by first | (with_reducible assumption) | assumption)
                                                    obtain ⟨ad256, e256, hx256_0⟩ := Kd.at_int HR0.out x3_1 p256 q256
                                                    obtain rfl : ad246 = ad256 := (by injection e256)
                                                    replace p256 := eq_true p256
                                                    replace q256 := eq_true q256
                                                    have p257 : 0 ≤ (x5_3 : Int) := of_decide_eq_true (by first | (with_reducible assumption) | assumption)
                                                    have q257 : x5_3 < (l0.length : Int) := of_decide_eq_true (by first | (with_reducible assumption) | assumption)
                                                    obtain ⟨ad257, e257, hx257_0⟩ := Kd.at_int HR0.out x5_3 p257 q257
                                                    obtain rfl : ad246 = ad257 := (by injection e257)
                                                    replace p257 := eq_true p257
                                                    replace q257 := eq_true q257
                                                    go_wp2
                                                    repeat (go_quiet (fail); try go_wp2)
                                                    go_ret
                                                    exact ⟨by first | rfl | (simp; done) | (simp [*]; done), by repeat (first | exact Drawn0.refl _ | apply Drawn0.step)⟩
                                                  · rw [if_neg c18] at H
                                                    have c18b0 : decide ((rd l0 x3_1) < (rd l0 x5_3)) = false := decide_eq_false c18
                                                    clear c18
                                                    have H' := Aside0.mk H
                                                    clear H
                                                    have p246 : 0 ≤ (x5_3 : Int) := of_decide_eq_true (by first | (with_reducible assumption) | assumption)
                                                    have q246 : x5_3 < (l0.length : Int) := of_decide_eq_true (by first | (with_reducible assumption) | assumption)
                                                    obtain ⟨ad246, e246, hx246_0⟩ := Kd.at_int HR0.out x5_3 p246 q246
                                                    cases e246
                                                    replace p246 := eq_true p246
                                                    replace q246 := eq_true q246
                                                    have p247 : 0 ≤ (x3_1 : Int) := of_decide_eq_true (by first | (with_reducible assumption) | assumption)
                                                    have q247 : x3_1 < (l0.length : Int) := of_decide_eq_true (by first | (with_reducible assumption) | assumption)
                                                    obtain ⟨ad247, e247, hx247_0⟩ := Kd.at_int HR0.out x3_1 p247 q247
                                                    obtain rfl : ad246 = ad247 := (by injection e247)
                                                    replace p247 := eq_true p247
                                                    replace q247 := eq_true q247
                                                    have p248 : 0 ≤ (x3_1 : Int) := of_decide_eq_true (by first | (with_reducible assumption) | assumption)
                                                    have q248 : x3_1 < (l0.length : Int) := of_decide_eq_true (by first | (with_reducible assumption) | assumption)
                                                    obtain ⟨ad248, e248, hx248_0⟩ := Kd.at_int HR0.out x3_1 p248 q248
                                                    obtain rfl : ad246 = ad248 := (by injection e248)
                                                    replace p248 := eq_true p248
                                                    replace q248 := eq_true q248
                                                    have p249 : 0 ≤ (x6_4 : Int) := of_decide_eq_true (by first | (with_reducible assumption) | assumption)
                                                    have q249 : x6_4 < (l0.length : Int) := of_decide_eq_true (by first | (with_reducible assumption) | assumption)
                                                    obtain ⟨ad249, e249, hx249_0⟩ := Kd.at_int HR0.out x6_4 p249 q249
                                                    obtain rfl : ad246 = ad249 := (by injection e249)
                                                    replace p249 := eq_true p249
                                                    replace q249 := eq_true q249
                                                    have p250 : 0 ≤ (x6_4 : Int) := of_decide_eq_true (by first | (with_reducible assumption) | assumption)
                                                    have q250 : x6_4 < (l0.length : Int) := of_decide_eq_true (by first | (with_reducible assumption) | assumption)
                                                    obtain ⟨ad250, e250, hx250_0⟩ := Kd.at_int HR0.out x6_4 p250 q250
                                                    obtain rfl : ad246 = ad250 := (by injection e250)
                                                    replace p250 := eq_true p250
                                                    replace q250 := eq_true q250
                                                    have p251 : 0 ≤ (x4_2 : Int) := of_decide_eq_true (by first | (with_reducible assumption) | assumption)
                                                    have q251 : x4_2 < (l0.length : Int) := of_decide_eq_true (by first | (with_reducible assumption) | assumption)
                                                    obtain ⟨ad251, e251, hx251_0⟩ := Kd.at_int HR0.out x4_2 p251 q251
                                                    obtain rfl : ad246 = ad251 := (by injection e251)
                                                    replace p251 := eq_true p251
                                                    replace q251 := eq_true q251
                                                    have p252 : 0 ≤ (x4_2 : Int) := of_decide_eq_true (by first | (with_reducible assumption) | assumption)
                                                    have q252 : x4_2 < (l0.length : Int) := of_decide_eq_true (by first | (with_reducible assumption) | assumption)
                                                    obtain ⟨ad252, e252, hx252_0⟩ := Kd.at_int HR0.out x4_2 p252 q252
                                                    obtain rfl : ad246 = ad252 := (by injection e252)
                                                    replace p252 := eq_true p252
                                                    replace q252 := eq_true q252
                                                    have p253 : 0 ≤ (x6_4 : Int) := of_decide_eq_true (by first | (with_reducible assumption) | assumption)
                                                    have q253 : x6_4 < (l0.length : Int) := of_decide_eq_true (by first | (with_reducible assumption) | assumption)
                                                    obtain ⟨ad253, e253, hx253_0⟩ := Kd.at_int HR0.out x6_4 p253 q253
                                                    obtain rfl : ad246 = ad253 := (by injection e253)
                                                    replace p253 := eq_true p253
                                                    replace q253 := eq_true q253
                                                    have p254 : 0 ≤ (x6_4 : Int) := of_decide_eq_true (by first | (with_reducible assumption) | assumption)
                                                    have q254 : x6_4 < (l0.length : Int) := of_decide_eq_true (by first | (with_reducible assumption) | assumption)
                                                    obtain ⟨ad254, e254, hx254_0⟩ := Kd.at_int HR0.out x6_4 p254 q254
                                                    obtain rfl : ad246 = ad254 := (by injection e254)
                                                    replace p254 := eq_true p254
                                                    replace q254 := eq_true q254
                                                    have p255 : 0 ≤ (x3_1 : Int) := of_decide_eq_true (by first | (with_reducible assumption) | assumption)
                                                    have q255 : x3_1 < (l0.length : Int) := of_decide_eq_true (by first | (with_reducible assumption) | assumption)
                                                    obtain ⟨ad255, e255, hx255_0⟩ := Kd.at_int HR0.out x3_1 p255 q255
                                                    obtain rfl : ad246 = ad255 := (by injection e255)
                                                    replace p255 := eq_true p255
                                                    replace q255 := eq_true q255
                                                    have p256 : 0 ≤ (x3_1 : Int) := of_decide_eq_true (by first | (with_reducible assumption) | assumption)
                                                    have q256 : x3_1 < (l0.length : Int) := of_decide_eq_true (by first | (with_reducible assumption) | assumption)
                                                    obtain ⟨ad256, e256, hx256_0⟩ := Kd.at_int HR0.out x3_1 p256 q256
                                                    obtain rfl : ad246 = ad256 := (by injection e256)
                                                    replace p256 := eq_true p256
                                                    replace q256 := eq_true q256
                                                    have p257 : 0 ≤ (x5_3 : Int) := of_decide_eq_true (by first | (with_reducible assumption) | assumption)
                                                    have q257 : x5_3 < (l0.length : Int) := of_decide_eq_true (by first | (with_reducible assumption) | assumption)
                                                    obtain ⟨ad257, e257, hx257_0⟩ := Kd.at_int HR0.out x5_3 p257 q257
                                                    obtain rfl : ad246 = ad257 := (by injection e257)
                                                    replace p257 := eq_true p257
                                                    replace q257 := eq_true q257
                                                    go_wp2
                                                    repeat (go_quiet (fail); try go_wp2)
                                                    go_roundg k4
                                                    case measure => have := HK1.out; have := HK2.out; have := HK3.out; have := HK4.out; omega
                                                    case rel => exact ⟨(wrap64 (x6_4 + 1)), (by first | rfl | (simp; done) | (simp [*]; done)), H', ⟨by have := HK1.out; have := HK2.out; have := HK3.out; have := HK4.out; omega⟩, by repeat (first | exact Drawn0.refl _ | apply Drawn0.step)⟩
                                                · rw [if_neg c17] at H
                                                  have c17b0 : decide ((rd l0 x6_4) < (rd l0 x3_1)) = false := decide_eq_false c17
                                                  clear c17
                                                  have H' := Aside0.mk H
                                                  clear H
                                                  have p246 : 0 ≤ (x5_3 : Int) := of_decide_eq_true (by first | (with_reducible assumption) | assumption)
                                                  have q246 : x5_3 < (l0.length : Int) := of_decide_eq_true (by first | (with_reducible assumption) | assumption)
                                                  obtain ⟨ad246, e246, hx246_0⟩ := Kd.at_int HR0.out x5_3 p246 q246
                                                  cases e246
                                                  replace p246 := eq_true p246
                                                  replace q246 := eq_true q246
                                                  have p247 : 0 ≤ (x3_1 : Int) := of_decide_eq_true (by first | (with_reducible assumption) | assumption)
                                                  have q247 : x3_1 < (l0.length : Int) := of_decide_eq_true (by first | (with_reducible assumption) | assumption)
                                                  obtain ⟨ad247, e247, hx247_0⟩ := Kd.at_int HR0.out x3_1 p247 q247
                                                  obtain rfl : ad246 = ad247 := (by injection e247)
                                                  replace p247 := eq_true p247
                                                  replace q247 := eq_true q247
                                                  have p248 : 0 ≤ (x3_1 : Int) := of_decide_eq_true (by first | (with_reducible assumption) | assumption)
                                                  have q248 : x3_1 < (l0.length : Int) := of_decide_eq_true (by first | (with_reducible assumption) | assumption)
                                                  obtain ⟨ad248, e248, hx248_0⟩ := Kd.at_int HR0.out x3_1 p248 q248
                                                  obtain rfl : ad246 = ad248 := (by injection e248)
                                                  replace p248 := eq_true p248
                                                  replace q248 := eq_true q248
                                                  have p249 : 0 ≤ (x6_4 : Int) := of_decide_eq_true (by first | (with_reducible assumption) | assumption)
                                                  have q249 : x6_4 < (l0.length : Int) := of_decide_eq_true (by first | (with_reducible assumption) | assumption)
                                                  obtain ⟨ad249, e249, hx249_0⟩ := Kd.at_int HR0.out x6_4 p249 q249
                                                  obtain rfl : ad246 = ad249 := (by injection e249)
                                                  replace p249 := eq_true p249
                                                  replace q249 := eq_true q249
                                                  have p250 : 0 ≤ (x6_4 : Int) := of_decide_eq_true (by first | (with_reducible assumption) | assumption)
                                                  have q250 : x6_4 < (l0.length : Int) := of_decide_eq_true (by first | (with_reducible assumption) | assumption)
                                                  obtain ⟨ad250, e250, hx250_0⟩ := Kd.at_int HR0.out x6_4 p250 q250
                                                  obtain rfl : ad246 = ad250 := (by injection e250)
                                                  replace p250 := eq_true p250
                                                  replace q250 := eq_true q250
                                                  have p251 : 0 ≤ (x4_2 : Int) := of_decide_eq_true (by first | (with_reducible assumption) | assumption)
                                                  have q251 : x4_2 < (l0.length : Int) := of_decide_eq_true (by first | (with_reducible assumption) | assumption)
                                                  obtain ⟨ad251, e251, hx251_0⟩ := Kd.at_int HR0.out x4_2 p251 q251
                                                  obtain rfl : ad246 = ad251 := (by injection e251)
                                                  replace p251 := eq_true p251
                                                  replace q251 := eq_true q251
                                                  have p252 : 0 ≤ (x4_2 : Int) := of_decide_eq_true (by first | (with_reducible assumption) | assumption)
                                                  have q252 : x4_2 < (l0.length : Int) := of_decide_eq_true (by first | (with_reducible assumption) | assumption)
                                                  obtain ⟨ad252, e252, hx252_0⟩ := Kd.at_int HR0.out x4_2 p252 q252
                                                  obtain rfl : ad246 = ad252 := (by injection e252)
                                                  replace p252 := eq_true p252
                                                  replace q252 := eq_true q252
                                                  have p253 : 0 ≤ (x6_4 : Int) := of_decide_eq_true (by first | (with_reducible assumption) | assumption)
                                                  have q253 : x6_4 < (l0.length : Int) := of_decide_eq_true (by first | (with_reducible assumption) | assumption)
                                                  obtain ⟨ad253, e253, hx253_0⟩ := Kd.at_int HR0.out x6_4 p253 q253
                                                  obtain rfl : ad246 = ad253 := (by injection e253)
                                                  replace p253 := eq_true p253
                                                  replace q253 := eq_true q253
                                                  have p254 : 0 ≤ (x6_4 : Int) := of_decide_eq_true (by first | (with_reducible assumption) | assumption)
                                                  have q254 : x6_4 < (l0.length : Int) := of_decide_eq_true (by first | (with_reducible assumption) | assumption)
                                                  obtain ⟨ad254, e254, hx254_0⟩ := Kd.at_int HR0.out x6_4 p254 q254
                                                  obtain rfl : ad246 = ad254 := (by injection e254)
                                                  replace p254 := eq_true p254
                                                  replace q254 := eq_true q254
                                                  have p255 : 0 ≤ (x3_1 : Int) := of_decide_eq_true (by first | (with_reducible assumption) | assumption)
                                                  have q255 : x3_1 < (l0.length : Int) := of_decide_eq_true (by first | (with_reducible assumption) | assumption)
                                                  obtain ⟨ad255, e255, hx255_0⟩ := Kd.at_int HR0.out x3_1 p255 q255
                                                  obtain rfl : ad246 = ad255 := (by injection e255)
                                                  replace p255 := eq_true p255
                                                  replace q255 := eq_true q255
                                                  go_wp2
                                                  repeat (go_quiet (fail); try go_wp2)
                                                  go_roundg k4
                                                  case measure => have := HK1.out; have := HK2.out; have := HK3.out; have := HK4.out; omega
                                                  case rel => exact ⟨(wrap64 (x6_4 + 1)), (by first | rfl | (simp; done) | (simp [*]; done)), H', ⟨by have := HK1.out; have := HK2.out; have := HK3.out; have := HK4.out; omega⟩, by repeat (first | exact Drawn0.refl _ | apply Drawn0.step)⟩
                                              · rw [if_neg c16] at H
                                                have c16b0 : decide ((rd l0 x4_2) < (rd l0 x6_4)) = false := decide_eq_false c16
                                                clear c16
                                                have H' := Aside0.mk H
                                                clear H
                                                have p246 : 0 ≤ (x5_3 : Int) := of_decide_eq_true (by first | (with_reducible assumption) | assumption)
                                                have q246 : x5_3 < (l0.length : Int) := of_decide_eq_true (by first | (with_reducible assumption) | assumption)
                                                obtain ⟨ad246, e246, hx246_0⟩ := Kd.at_int HR0.out x5_3 p246 q246
                                                cases e246
                                                replace p246 := eq_true p246
                                                replace q246 := eq_true q246
                                                have p247 : 0 ≤ (x3_1 : Int) := of_decide_eq_true (by first | (with_reducible assumption) | assumption)
                                                have q247 : x3_1 < (l0.length : Int) := of_decide_eq_true (by first | (with_reducible assumption) | assumption)
                                                obtain ⟨ad247, e247, hx247_0⟩ := Kd.at_int HR0.out x3_1 p247 q247
                                                obtain rfl : ad246 = ad247 := (by injection e247)
                                                replace p247 := eq_true p247
                                                replace q247 := eq_true q247
                                                have p248 : 0 ≤ (x3_1 : Int) := of_decide_eq_true (by first | (with_reducible assumption) | assumption)
                                                have q248 : x3_1 < (l0.length : Int) := of_decide_eq_true (by first | (with_reducible assumption) | assumption)
                                                obtain ⟨ad248, e248, hx248_0⟩ := Kd.at_int HR0.out x3_1 p248 q248
                                                obtain rfl : ad246 = ad248 := (by injection e248)
                                                replace p248 := eq_true p248
                                                replace q248 := eq_true q248
                                                have p249 : 0 ≤ (x6_4 : Int) := of_decide_eq_true (by first | (with_reducible assumption) | assumption)
                                                have q249 : x6_4 < (l0.length : Int) := of_decide_eq_true (by first | (with_reducible assumption) | assumption)
                                                obtain ⟨ad249, e249, hx249_0⟩ := Kd.at_int HR0.out x6_4 p249 q249
                                                obtain rfl : ad246 = ad249 := (by injection e249)
                                                replace p249 := eq_true p249
                                                replace q249 := eq_true q249
                                                have p250 : 0 ≤ (x6_4 : Int) := of_decide_eq_true (by first | (with_reducible assumption) | assumption)
                                                have q250 : x6_4 < (l0.length : Int) := of_decide_eq_true (by first | (with_reducible assumption) | assumption)
                                                obtain ⟨ad250, e250, hx250_0⟩ := Kd.at_int HR0.out x6_4 p250 q250
                                                obtain rfl : ad246 = ad250 := (by injection e250)
                                                replace p250 := eq_true p250
                                                replace q250 := eq_true q250
                                                have p251 : 0 ≤ (x4_2 : Int) := of_decide_eq_true (by first | (with_reducible assumption) | assumption)
                                                have q251 : x4_2 < (l0.length : Int) := of_decide_eq_true (by first | (with_reducible assumption) | assumption)
                                                obtain ⟨ad251, e251, hx251_0⟩ := Kd.at_int HR0.out x4_2 p251 q251
                                                obtain rfl : ad246 = ad251 := (by injection e251)
                                                replace p251 := eq_true p251
                                                replace q251 := eq_true q251
                                                have p252 : 0 ≤ (x4_2 : Int) := of_decide_eq_true (by first | (with_reducible assumption) | assumption)
                                                have q252 : x4_2 < (l0.length : Int) := of_decide_eq_true (by first | (with_reducible assumption) | assumption)
                                                obtain ⟨ad252, e252, hx252_0⟩ := Kd.at_int HR0.out x4_2 p252 q252
                                                obtain rfl : ad246 = ad252 := (by injection e252)
                                                replace p252 := eq_true p252
                                                replace q252 := eq_true q252
                                                have p253 : 0 ≤ (x6_4 : Int) := of_decide_eq_true (by first | (with_reducible assumption) | assumption)
                                                have q253 : x6_4 < (l0.length : Int) := of_decide_eq_true (by first | (with_reducible assumption) | assumption)
                                                obtain ⟨ad253, e253, hx253_0⟩ := Kd.at_int HR0.out x6_4 p253 q253
                                                obtain rfl : ad246 = ad253 := (by injection e253)
                                                replace p253 := eq_true p253
                                                replace q253 := eq_true q253
                                                go_wp2
                                                repeat (go_quiet (fail); try go_wp2)
                                                go_roundg k4
                                                case measure => have := HK1.out; have := HK2.out; have := HK3.out; have := HK4.out; omega
                                                case rel => exact ⟨(wrap64 (x6_4 + 1)), (by first | rfl | (simp; done) | (simp [*]; done)), H', ⟨by have := HK1.out; have := HK2.out; have := HK3.out; have := HK4.out; omega⟩, by repeat (first | exact Drawn0.refl _ | apply Drawn0.step)⟩
                                          · rw [if_neg c14] at H
                                            exact absurd H (by simp)
                                        · rw [if_neg c13] at H
                                          exact absurd H (by simp)
                                      · rw [if_neg c12] at H
                                        have c12b0 : decide ((rd l0 x3_1) < (rd l0 x6_4)) = false := decide_eq_false c12
                                        clear c12
                                        by_cases c19 : 0 ≤ x4_2
                                        · rw [if_pos c19] at H
                                          have c19b0 : decide (0 ≤ x4_2) = true := decide_eq_true c19
                                          clear c19
                                          by_cases c20 : x4_2 < (l0.length : Int)
                                          · rw [if_pos c20] at H
                                            have c20b0 : decide (x4_2 < (l0.length : Int)) = true := decide_eq_true c20
                                            clear c20
                                            by_cases c21 : (rd l0 x4_2) < (rd l0 x6_4)
                                            · rw [if_pos c21] at H
                                              have c21b0 : decide ((rd l0 x4_2) < (rd l0 x6_4)) = true := decide_eq_true c21
                                              clear c21
                                              by_cases c22 : (rd l0 x6_4) < (rd l0 x3_1)
                                              · rw [if_pos c22] at H
                                                have c22b0 : decide ((rd l0 x6_4) < (rd l0 x3_1)) = true := decide_eq_true c22
                                                clear c22
                                                by_cases c23 : (rd l0 x3_1) < (rd l0 x5_3)
                                                · rw [if_pos c23] at H
                                                  have c23b0 : decide ((rd l0 x3_1) < (rd l0 x5_3)) = true := decide_eq_true c23
                                                  clear c23
                                                  obtain rfl := Option.some.inj H
                                                  have p246 : 0 ≤ (x5_3 : Int) := of_decide_eq_true (by first | (with_reducible assumption) | assumption)
                                                  have q246 : x5_3 < (l0.length : Int) := of_decide_eq_true (by first | (with_reducible assumption) | assumption)
                                                  obtain ⟨ad246, e246, hx246_0⟩ := Kd.at_int HR0.out x5_3 p246 q246
                                                  cases e246
                                                  replace p246 := eq_true p246
                                                  replace q246 := eq_true q246
                                                  have p247 : 0 ≤ (x3_1 : Int) := of_decide_eq_true (by first | (with_reducible assumption) | assumption)
                                                  have q247 : x3_1 < (l0.length : Int) := of_decide_eq_true (by first | (with_reducible assumption) | assumption)
                                                  obtain ⟨ad247, e247, hx247_0⟩ := Kd.at_int HR0.out x3_1 p247 q247
                                                  obtain rfl : ad246 = ad247 := (by injection e247)
                                                  replace p247 := eq_true p247
                                                  replace q247 := eq_true q247
                                                  have p248 : 0 ≤ (x3_1 : Int) := of_decide_eq_true (by first | (with_reducible assumption) | assumption)
                                                  have q248 : x3_1 < (l0.length : Int) := of_decide_eq_true (by first | (with_reducible assumption) | assumption)
                                                  obtain ⟨ad248, e248, hx248_0⟩ := Kd.at_int HR0.out x3_1 p248 q248
                                                  obtain rfl : ad246 = ad248 := (by injection e248)
                                                  replace p248 := eq_true p248
                                                  replace q248 := eq_true q248
                                                  have p249 : 0 ≤ (x6_4 : Int) := of_decide_eq_true (by first | (with_reducible assumption) | assumption)
                                                  have q249 : x6_4 < (l0.length : Int) := of_decide_eq_true (by first | (with_reducible assumption) | assumption)
                                                  obtain ⟨ad249, e249, hx249_0⟩ := Kd.at_int HR0.out x6_4 p249 q249
                                                  obtain rfl : ad246 = ad249 := (by injection e249)
                                                  replace p249 := eq_true p249
                                                  replace q249 := eq_true q249
                                                  have p258 : 0 ≤ (x4_2 : Int) := of_decide_eq_true (by first | (with_reducible assumption) | assumption)
                                                  have q258 : x4_2 < (l0.length : Int) := of_decide_eq_true (by first | (with_reducible assumption) | assumption)
                                                  obtain ⟨ad258, e258, hx258_0⟩ := Kd.at_int HR0.out x4_2 p258 q258
                                                  obtain rfl : ad246 = ad258 := (by injection e258)
                                                  replace p258 := eq_true p258
                                                  replace q258 := eq_true q258
                                                  have p259 : 0 ≤ (x6_4 : Int) := of_decide_eq_true (by first | (with_reducible assumption) | assumption)
                                                  have q259 : x6_4 < (l0.length : Int) := of_decide_eq_true (by first | (with_reducible assumption) | assumption)
                                                  obtain ⟨ad259, e259, hx259_0⟩ := Kd.at_int HR0.out x6_4 p259 q259
                                                  obtain rfl : ad246 = ad259 := (by injection e259)
                                                  replace p259 := eq_true p259
                                                  replace q259 := eq_true q259
                                                  have p260 : 0 ≤ (x6_4 : Int) := of_decide_eq_true (by first | (with_reducible assumption) | assumption)
                                                  have q260 : x6_4 < (l0.length : Int) := of_decide_eq_true (by first | (with_reducible assumption) | assumption)
                                                  obtain ⟨ad260, e260, hx260_0⟩ := Kd.at_int HR0.out x6_4 p260 q260
                                                  obtain rfl : ad246 = ad260 := (by injection e260)
                                                  replace p260 := eq_true p260
                                                  replace q260 := eq_true q260
                                                  have p261 : 0 ≤ (x3_1 : Int) := of_decide_eq_true (by first | (with_reducible assumption) | assumption)
                                                  have q261 : x3_1 < (l0.length : Int) := of_decide_eq_true (by first | (with_reducible assumption) | assumption)
                                                  obtain ⟨ad261, e261, hx261_0⟩ := Kd.at_int HR0.out x3_1 p261 q261
                                                  obtain rfl : ad246 = ad261 := (by injection e261)
                                                  replace p261 := eq_true p261
                                                  replace q261 := eq_true q261
                                                  have p262 : 0 ≤ (x3_1 : Int) := of_decide_eq_true (by first | (with_reducible assumption) | assumption)
                                                  have q262 : x3_1 < (l0.length : Int) := of_decide_eq_true (by first | (with_reducible assumption) | assumption)
                                                  obtain ⟨ad262, e262, hx262_0⟩ := Kd.at_int HR0.out x3_1 p262 q262
                                                  obtain rfl : ad246 = ad262 := (by injection e262)
                                                  replace p262 := eq_true p262
                                                  replace q262 := eq_true q262
                                                  have p263 : 0 ≤ (x5_3 : Int) := of_decide_eq_true (by first | (with_reducible assumption) | assumption)
                                                  have q263 : x5_3 < (l0.length : Int) := of_decide_eq_true (by first | (with_reducible assumption) | assumption)
                                                  obtain ⟨ad263, e263, hx263_0⟩ := Kd.at_int HR0.out x5_3 p263 q263
                                                  obtain rfl : ad246 = ad263 := (by injection e263)
                                                  replace p263 := eq_true p263
                                                  replace q263 := eq_true q263
                                                  go_wp2
                                                  repeat (go_quiet (fail); try go_wp2)
                                                  go_ret
                                                  exact ⟨by first | rfl | (simp; done) | (simp [*]; done), by repeat (first | exact Drawn0.refl _ | apply Drawn0.step)⟩
                                                · rw [if_neg c23] at H
                                                  have c23b0 : decide ((rd l0 x3_1) < (rd l0 x5_3)) = false := decide_eq_false c23
                                                  clear c23
                                                  have H' := Aside0.mk H
                                                  clear H
                                                  have p246 : 0 ≤ (x5_3 : Int) := of_decide_eq_true (by first | (with_reducible assumption) | assumption)
                                                  have q246 : x5_3 < (l0.length : Int) := of_decide_eq_true (by first | (with_reducible assumption) | assumption)
                                                  obtain ⟨ad246, e246, hx246_0⟩ := Kd.at_int HR0.out x5_3 p246 q246
                                                  cases e246
                                                  replace p246 := eq_true p246
                                                  replace q246 := eq_true q246
                                                  have p247 : 0 ≤ (x3_1 : Int) := of_decide_eq_true (by first | (with_reducible assumption) | assumption)
                                                  have q247 : x3_1 < (l0.length : Int) := of_decide_eq_true (by first | (with_reducible assumption) | assumption)
                                                  obtain ⟨ad247, e247, hx247_0⟩ := Kd.at_int HR0.out x3_1 p247 q247
                                                  obtain rfl : ad246 = ad247 := (by injection e247)
                                                  replace p247 := eq_true p247
                                                  replace q247 := eq_true q247
                                                  have p248 : 0 ≤ (x3_1 : Int) := of_decide_eq_true (by first | (with_reducible assumption) | assumption)
                                                  have q248 : x3_1 < (l0.length : Int) := of_decide_eq_true (by first | (with_reducible assumption) | assumption)
                                                  obtain ⟨ad248, e248, hx248_0⟩ := Kd.at_int HR0.out x3_1 p248 q248
                                                  obtain rfl : ad246 = ad248 := (by injection e248)
                                                  replace p248 := eq_true p248
                                                  replace q248 := eq_true q248
                                                  have p249 : 0 ≤ (x6_4 : Int) := of_decide_eq_true (by first | (with_reducible assumption) | assumption)
                                                  have q249 : x6_4 < (l0.length : Int) := of_decide_eq_true (by first | (with_reducible assumption) | assumption)
                                                  obtain ⟨ad249, e249, hx249_0⟩ := Kd.at_int HR0.out x6_4 p249 q249
                                                  obtain rfl : ad246 = ad249 := (by injection e249)
                                                  replace p249 := eq_true p249
                                                  replace q249 := eq_true q249
                                                  have p258 : 0 ≤ (x4_2 : Int) := of_decide_eq_true (by first | (with_reducible assumption) | assumption)
                                                  have q258 : x4_2 < (l0.length : Int) := of_decide_eq_true (by first | (with_reducible assumption) | assumption)
                                                  obtain ⟨ad258, e258, hx258_0⟩ := Kd.at_int HR0.out x4_2 p258 q258
                                                  obtain rfl : ad246 = ad258 := (by injection e258)
                                                  replace p258 := eq_true p258
                                                  replace q258 := eq_true q258
                                                  have p259 : 0 ≤ (x6_4 : Int) := of_decide_eq_true (by first | (with_reducible assumption) | assumption)
                                                  have q259 : x6_4 < (l0.length : Int) := of_decide_eq_true (by first | (with_reducible assumption) | assumption)
                                                  obtain ⟨ad259, e259, hx259_0⟩ := Kd.at_int HR0.out x6_4 p259 q259
                                                  obtain rfl : ad246 = ad259 := (by injection e259)
                                                  replace p259 := eq_true p259
                                                  replace q259 := eq_true q259
                                                  have p260 : 0 ≤ (x6_4 : Int) := of_decide_eq_true (by first | (with_reducible assumption) | assumption)
                                                  have q260 : x6_4 < (l0.length : Int) := of_decide_eq_true (by first | (with_reducible assumption) | assumption)
                                                  obtain ⟨ad260, e260, hx260_0⟩ := Kd.at_int HR0.out x6_4 p260 q260
                                                  obtain rfl : ad246 = ad260 := (by injection e260)
                                                  replace p260 := eq_true p260
                                                  replace q260 := eq_true q260
                                                  have p261 : 0 ≤ (x3_1 : Int) := of_decide_eq_true (by first | (with_reducible assumption) | assumption)
                                                  have q261 : x3_1 < (l0.length : Int) := of_decide_eq_true (by first | (with_reducible assumption) | assumption)
                                                  obtain ⟨ad261, e261, hx261_0⟩ := Kd.at_int HR0.out x3_1 p261 q261
                                                  obtain rfl : ad246 = ad261 := (by injection e261)
                                                  replace p261 := eq_true p261
                                                  replace q261 := eq_true q261
                                                  have p262 : 0 ≤ (x3_1 : Int) := of_decide_eq_true (by first | (with_reducible assumption) | assumption)
                                                  have q262 : x3_1 < (l0.length : Int) := of_decide_eq_true (by first | (with_reducible assumption) | assumption)
                                                  obtain ⟨ad262, e262, hx262_0⟩ := Kd.at_int HR0.out x3_1 p262 q262
                                                  obtain rfl : ad246 = ad262 := (by injection e262)
                                                  replace p262 := eq_true p262
                                                  replace q262 := eq_true q262
                                                  have p263 : 0 ≤ (x5_3 : Int) := of_decide_eq_true (by first | (with_reducible assumption) | assumption)
                                                  have q263 : x5_3 < (l0.length : Int) := of_decide_eq_true (by first | (with_reducible assumption) | assumption)
                                                  obtain ⟨ad263, e263, hx263_0⟩ := Kd.at_int HR0.out x5_3 p263 q263
                                                  obtain rfl : ad246 = ad263 := (by injection e263)
                                                  replace p263 := eq_true p263
                                                  replace q263 := eq_true q263
                                                  go_wp2
                                                  repeat (go_quiet (fail); try go_wp2)
                                                  go_roundg k4
                                                  case measure => have := HK1.out; have := HK2.out; have := HK3.out; have := HK4.out; omega
                                                  case rel => exact ⟨(wrap64 (x6_4 + 1)), (by first | rfl | (simp; done) | (simp [*]; done)), H', ⟨by have := HK1.out; have := HK2.out; have := HK3.out; have := HK4.out; omega⟩, by repeat (first | exact Drawn0.refl _ | apply Drawn0.step)⟩
                                              · rw [if_neg c22] at H
                                                have c22b0 : decide ((rd l0 x6_4) < (rd l0 x3_1)) = false := decide_eq_false c22
                                                clear c22
                                                have H' := Aside0.mk H
                                                clear H
                                                have p246 : 0 ≤ (x5_3 : Int) := of_decide_eq_true (by first | (with_reducible assumption) | assumption)
                                                have q246 : x5_3 < (l0.length : Int) := of_decide_eq_true (by first | (with_reducible assumption) | assumption)
                                                obtain ⟨ad246, e246, hx246_0⟩ := Kd.at_int HR0.out x5_3 p246 q246
                                                cases e246
                                                replace p246 := eq_true p246
                                                replace q246 := eq_true q246
                                                have p247 : 0 ≤ (x3_1 : Int) := of_decide_eq_true (by first | (with_reducible assumption) | assumption)
                                                have q247 : x3_1 < (l0.length : Int) := of_decide_eq_true (by first | (with_reducible assumption) | assumption)
                                                obtain ⟨ad247, e247, hx247_0⟩ := Kd.at_int HR0.out x3_1 p247 q247
                                                obtain rfl : ad246 = ad247 := (by injection e247)
                                                replace p247 := eq_true p247
                                                replace q247 := eq_true q247
                                                have p248 : 0 ≤ (x3_1 : Int) := of_decide_eq_true (by first | (with_reducible assumption) | assumption)
                                                have q248 : x3_1 < (l0.length : Int) := of_decide_eq_true (by first | (with_reducible assumption) | assumption)
                                                obtain ⟨ad248, e248, hx248_0⟩ := Kd.at_int HR0.out x3_1 p248 q248
                                                obtain rfl : ad246 = ad248 := (by injection e248)
                                                replace p248 := eq_true p248
                                                replace q248 := eq_true q248
                                                have p249 : 0 ≤ (x6_4 : Int) := of_decide_eq_true (by first | (with_reducible assumption) | assumption)
                                                have q249 : x6_4 < (l0.length : Int) := of_decide_eq_true (by first | (with_reducible assumption) | assumption)
                                                obtain ⟨ad249, e249, hx249_0⟩ := Kd.at_int HR0.out x6_4 p249 q249
                                                obtain rfl : ad246 = ad249 := (by injection e249)
                                                replace p249 := eq_true p249
                                                replace q249 := eq_true q249
                                                have p258 : 0 ≤ (x4_2 : Int) := of_decide_eq_true (by first | (with_reducible assumption) | assumption)
                                                have q258 : x4_2 < (l0.length : Int) := of_decide_eq_true (by first | (with_reducible assumption) | assumption)
                                                obtain ⟨ad258, e258, hx258_0⟩ := Kd.at_int HR0.out x4_2 p258 q258
                                                obtain rfl : ad246 = ad258 := (by injection e258)
                                                replace p258 := eq_true p258
                                                replace q258 := eq_true q258
                                                have p259 : 0 ≤ (x6_4 : Int) := of_decide_eq_true (by first | (with_reducible assumption) | assumption)
                                                have q259 : x6_4 < (l0.length : Int) := of_decide_eq_true (by first | (with_reducible assumption) | assumption)
                                                obtain ⟨ad259, e259, hx259_0⟩ := Kd.at_int HR0.out x6_4 p259 q259
                                                obtain rfl : ad246 = ad259 := (by injection e259)
                                                replace p259 := eq_true p259
                                                replace q259 := eq_true q259
                                                have p260 : 0 ≤ (x6_4 : Int) := of_decide_eq_true (by first | (with_reducible assumption) | assumption)
                                                have q260 : x6_4 < (l0.length : Int) := of_decide_eq_true (by first | (with_reducible assumption) | assumption)
                                                obtain ⟨ad260, e260, hx260_0⟩ := Kd.at_int HR0.out x6_4 p260 q260
                                                obtain rfl : ad246 = ad260 := (by injection e260)
                                                replace p260 := eq_true p260
                                                replace q260 := eq_true q260
                                                have p261 : 0 ≤ (x3_1 : Int) := of_decide_eq_true (by first | (with_reducible assumption) | assumption)
                                                have q261 : x3_1 < (l0.length : Int) := of_decide_eq_true (by first | (with_reducible assumption) | assumption)
                                                obtain ⟨ad261, e261, hx261_0⟩ := Kd.at_int HR0.out x3_1 p261 q261
                                                obtain rfl : ad246 = ad261 := (by injection e261)
                                                replace p261 := eq_true p261
                                                replace q261 := eq_true q261
                                                go_wp2
                                                repeat (go_quiet (fail); try go_wp2)
                                                go_roundg k4
                                                case measure => have := HK1.out; have := HK2.out; have := HK3.out; have := HK4.out; omega
                                                case rel => exact ⟨(wrap64 (x6_4 + 1)), (by first | rfl | (simp; done) | (simp [*]; done)), H', ⟨by have := HK1.out; have := HK2.out; have := HK3.out; have := HK4.out; omega⟩, by repeat (first | exact Drawn0.refl _ | apply Drawn0.step)⟩
                                            · rw [if_neg c21] at H
                                              have c21b0 : decide ((rd l0 x4_2) < (rd l0 x6_4)) = false := decide_eq_false c21
                                              clear c21
                                              have H' := Aside0.mk H
                                              clear H
                                              have p246 : 0 ≤ (x5_3 : Int) := of_decide_eq_true (by first | (with_reducible assumption) | assumption)
                                              have q246 : x5_3 < (l0.length : Int) := of_decide_eq_true (by first | (with_reducible assumption) | assumption)
                                              obtain ⟨ad246, e246, hx246_0⟩ := Kd.at_int HR0.out x5_3 p246 q246
                                              cases e246
                                              replace p246 := eq_true p246
                                              replace q246 := eq_true q246
                                              have p247 : 0 ≤ (x3_1 : Int) := of_decide_eq_true (by first | (with_reducible assumption) | assumption)
                                              have q247 : x3_1 < (l0.length : Int) := of_decide_eq_true (by first | (with_reducible assumption) | assumption)
                                              obtain ⟨ad247, e247, hx247_0⟩ := Kd.at_int HR0.out x3_1 p247 q247
                                              obtain rfl : ad246 = ad247 := (by injection e247)
                                              replace p247 := eq_true p247
                                              replace q247 := eq_true q247
                                              have p248 : 0 ≤ (x3_1 : Int) := of_decide_eq_true (by first | (with_reducible assumption) | assumption)
                                              have q248 : x3_1 < (l0.length : Int) := of_decide_eq_true (by first | (with_reducible assumption) | assumption)
                                              obtain ⟨ad248, e248, hx248_0⟩ := Kd.at_int HR0.out x3_1 p248 q248
                                              obtain rfl : ad246 = ad248 := (by injection e248)
                                              replace p248 := eq_true p248
                                              replace q248 := eq_true q248
                                              have p249 : 0 ≤ (x6_4 : Int) := of_decide_eq_true (by first | (with_reducible assumption) | assumption)
                                              have q249 : x6_4 < (l0.length : Int) := of_decide_eq_true (by first | (with_reducible assumption) | assumption)
                                              obtain ⟨ad249, e249, hx249_0⟩ := Kd.at_int HR0.out x6_4 p249 q249
                                              obtain rfl : ad246 = ad249 := (by injection e249)
                                              replace p249 := eq_true p249
                                              replace q249 := eq_true q249
                                              have p258 : 0 ≤ (x4_2 : Int) := of_decide_eq_true (by first | (with_reducible assumption) | assumption)
                                              have q258 : x4_2 < (l0.length : Int) := of_decide_eq_true (by first | (with_reducible assumption) | assumption)
                                              obtain ⟨ad258, e258, hx258_0⟩ := Kd.at_int HR0.out x4_2 p258 q258
                                              obtain rfl : ad246 = ad258 := (by injection e258)
                                              replace p258 := eq_true p258
                                              replace q258 := eq_true q258
                                              have p259 : 0 ≤ (x6_4 : Int) := of_decide_eq_true (by first | (with_reducible assumption) | assumption)
                                              have q259 : x6_4 < (l0.length : Int) := of_decide_eq_true (by first | (with_reducible assumption) | assumption)
                                              obtain ⟨ad259, e259, hx259_0⟩ := Kd.at_int HR0.out x6_4 p259 q259
                                              obtain rfl : ad246 = ad259 := (by injection e259)
                                              replace p259 := eq_true p259
                                              replace q259 := eq_true q259
                                              go_wp2
                                              repeat (go_quiet (fail); try go_wp2)
                                              go_roundg k4
                                              case measure => have := HK1.out; have := HK2.out; have := HK3.out; have := HK4.out; omega
                                              case rel => exact ⟨(wrap64 (x6_4 + 1)), (by first | rfl | (simp; done) | (simp [*]; done)), H', ⟨by have := HK1.out; have := HK2.out; have := HK3.out; have := HK4.out; omega⟩, by repeat (first | exact Drawn0.refl _ | apply Drawn0.step)⟩
                                          · rw [if_neg c20] at H
                                            exact absurd H (by simp)
                                        · rw [if_neg c19] at H
                                          exact absurd H (by simp)
                                    · rw [if_neg c11] at H
                                      exact absurd H (by simp)
                                  · rw [if_neg c10] at H
                                    have c10b0 : decide ((rd l0 x5_3) < (rd l0 x3_1)) = false := decide_eq_false c10
                                    clear c10
                                    by_cases c24 : 0 ≤ x4_2
                                    · rw [if_pos c24] at H
                                      have c24b0 : decide (0 ≤ x4_2) = true := decide_eq_true c24
                                      clear c24
                                      by_cases c25 : x4_2 < (l0.length : Int)
                                      · rw [if_pos c25] at H
                                        have c25b0 : decide (x4_2 < (l0.length : Int)) = true := decide_eq_true c25
                                        clear c25
                                        by_cases c26 : 0 ≤ x6_4
                                        · rw [if_pos c26] at H
                                          have c26b0 : decide (0 ≤ x6_4) = true := decide_eq_true c26
                                          clear c26
                                          by_cases c27 : (rd l0 x4_2) < (rd l0 x6_4)
                                          · rw [if_pos c27] at H
                                            have c27b0 : decide ((rd l0 x4_2) < (rd l0 x6_4)) = true := decide_eq_true c27
                                            clear c27
                                            by_cases c28 : (rd l0 x6_4) < (rd l0 x3_1)
                                            · rw [if_pos c28] at H
                                              have c28b0 : decide ((rd l0 x6_4) < (rd l0 x3_1)) = true := decide_eq_true c28
                                              clear c28
                                              by_cases c29 : (rd l0 x3_1) < (rd l0 x5_3)
                                              · rw [if_pos c29] at H
                                                have c29b0 : decide ((rd l0 x3_1) < (rd l0 x5_3)) = true := decide_eq_true c29
                                                clear c29
                                                obtain rfl := Option.some.inj H
                                                have p246 : 0 ≤ (x5_3 : Int) := of_decide_eq_true (by first | (with_reducible assumption) | assumption)
                                                have q246 : x5_3 < (l0.length : Int) := of_decide_eq_true (by first | (with_reducible assumption) | assumption)
                                                obtain ⟨ad246, e246, hx246_0⟩ := Kd.at_int HR0.out x5_3 p246 q246
                                                cases e246
                                                replace p246 := eq_true p246
                                                replace q246 := eq_true q246
                                                have p247 : 0 ≤ (x3_1 : Int) := of_decide_eq_true (by first | (with_reducible assumption) | assumption)
                                                have q247 : x3_1 < (l0.length : Int) := of_decide_eq_true (by first | (with_reducible assumption) | assumption)
                                                obtain ⟨ad247, e247, hx247_0⟩ := Kd.at_int HR0.out x3_1 p247 q247
                                                obtain rfl : ad246 = ad247 := (by injection e247)
                                                replace p247 := eq_true p247
                                                replace q247 := eq_true q247
                                                have p264 : 0 ≤ (x4_2 : Int) := of_decide_eq_true (by first | (with_reducible assumption) | assumption)
                                                have q264 : x4_2 < (l0.length : Int) := of_decide_eq_true (by first | (with_reducible assumption) | assumption)
                                                obtain ⟨ad264, e264, hx264_0⟩ := Kd.at_int HR0.out x4_2 p264 q264
                                                obtain rfl : ad246 = ad264 := (by injection e264)
                                                replace p264 := eq_true p264
                                                replace q264 := eq_true q264
                                                have p265 : 0 ≤ (x6_4 : Int) := of_decide_eq_true (by first | (with_reducible assumption) | assumption)
                                                have q265 : x6_4 < (l0.length : Int) := of_decide_eq_true (by first | (with_reducible assumption) | assumption)
                                                obtain ⟨ad265, e265, hx265_0⟩ := Kd.at_int HR0.out x6_4 p265 q265
                                                obtain rfl : ad246 = ad265 := (by injection e265)
                                                replace p265 := eq_true p265
                                                replace q265 := eq_true q265
                                                have p266 : 0 ≤ (x6_4 : Int) := of_decide_eq_true (by first | (with_reducible assumption) | assumption)
                                                have q266 : x6_4 < (l0.length : Int) := of_decide_eq_true (by first | (with_reducible assumption) | assumption)
                                                obtain ⟨ad266, e266, hx266_0⟩ := Kd.at_int HR0.out x6_4 p266 q266
                                                obtain rfl : ad246 = ad266 := (by injection e266)
                                                replace p266 := eq_true p266
                                                replace q266 := eq_true q266
                                                have p267 : 0 ≤ (x3_1 : Int) := of_decide_eq_true (by first | (with_reducible assumption) | assumption)
                                                have q267 : x3_1 < (l0.length : Int) := of_decide_eq_true (by first | (with_reducible assumption) | assumption)
                                                obtain ⟨ad267, e267, hx267_0⟩ := Kd.at_int HR0.out x3_1 p267 q267
                                                obtain rfl : ad246 = ad267 := (by injection e267)
                                                replace p267 := eq_true p267
                                                replace q267 := eq_true q267
                                                have p268 : 0 ≤ (x3_1 : Int) := of_decide_eq_true (by first | (with_reducible assumption) | assumption)
                                                have q268 : x3_1 < (l0.length : Int) := of_decide_eq_true (by first | (with_reducible assumption) | assumption)
                                                obtain ⟨ad268, e268, hx268_0⟩ := Kd.at_int HR0.out x3_1 p268 q268
                                                obtain rfl : ad246 = ad268 := (by injection e268)
                                                replace p268 := eq_true p268
                                                replace q268 := eq_true q268
                                                have p269 : 0 ≤ (x5_3 : Int) := of_decide_eq_true (by first | (with_reducible assumption) | assumption)
                                                have q269 : x5_3 < (l0.length : Int) := of_decide_eq_true (by first | (with_reducible assumption) | assumption)
                                                obtain ⟨ad269, e269, hx269_0⟩ := Kd.at_int HR0.out x5_3 p269 q269
                                                obtain rfl : ad246 = ad269 := (by injection e269)
                                                replace p269 := eq_true p269
                                                replace q269 := eq_true q269
                                                go_wp2
                                                repeat (go_quiet (fail); try go_wp2)
                                                go_ret
                                                exact ⟨by first | rfl | (simp; done) | (simp [*]; done), by repeat (first | exact Drawn0.refl _ | apply Drawn0.step)⟩
                                              · rw [if_neg c29] at H
                                                have c29b0 : decide ((rd l0 x3_1) < (rd l0 x5_3)) = false := decide_eq_false c29
                                                clear c29
                                                have H' := Aside0.mk H
                                                clear H
                                                have p246 : 0 ≤ (x5_3 : Int) := of_decide_eq_true (by first | (with_reducible assumption) | assumption)
                                                have q246 : x5_3 < (l0.length : Int) := of_decide_eq_true (by first | (with_reducible assumption) | assumption)
                                                obtain ⟨ad246, e246, hx246_0⟩ := Kd.at_int HR0.out x5_3 p246 q246
                                                cases e246
                                                replace p246 := eq_true p246
                                                replace q246 := eq_true q246
                                                have p247 : 0 ≤ (x3_1 : Int) := of_decide_eq_true (by first | (with_reducible assumption) | assumption)
                                                have q247 : x3_1 < (l0.length : Int) := of_decide_eq_true (by first | (with_reducible assumption) | assumption)
                                                obtain ⟨ad247, e247, hx247_0⟩ := Kd.at_int HR0.out x3_1 p247 q247
                                                obtain rfl : ad246 = ad247 := (by injection e247)
                                                replace p247 := eq_true p247
                                                replace q247 := eq_true q247
                                                have p264 : 0 ≤ (x4_2 : Int) := of_decide_eq_true (by first | (with_reducible assumption) | assumption)
                                                have q264 : x4_2 < (l0.length : Int) := of_decide_eq_true (by first | (with_reducible assumption) | assumption)
                                                obtain ⟨ad264, e264, hx264_0⟩ := Kd.at_int HR0.out x4_2 p264 q264
                                                obtain rfl : ad246 = ad264 := (by injection e264)
                                                replace p264 := eq_true p264
                                                replace q264 := eq_true q264
                                                have p265 : 0 ≤ (x6_4 : Int) := of_decide_eq_true (by first | (with_reducible assumption) | assumption)
                                                have q265 : x6_4 < (l0.length : Int) := of_decide_eq_true (by first | (with_reducible assumption) | assumption)
                                                obtain ⟨ad265, e265, hx265_0⟩ := Kd.at_int HR0.out x6_4 p265 q265
                                                obtain rfl : ad246 = ad265 := (by injection e265)
                                                replace p265 := eq_true p265
                                                replace q265 := eq_true q265
                                                have p266 : 0 ≤ (x6_4 : Int) := of_decide_eq_true (by first | (with_reducible assumption) | assumption)
                                                have q266 : x6_4 < (l0.length : Int) := of_decide_eq_true (by first | (with_reducible assumption) | assumption)
                                                obtain ⟨ad266, e266, hx266_0⟩ := Kd.at_int HR0.out x6_4 p266 q266
                                                obtain rfl : ad246 = ad266 := (by injection e266)
                                                replace p266 := eq_true p266
                                                replace q266 := eq_true q266
                                                have p267 : 0 ≤ (x3_1 : Int) := of_decide_eq_true (by first | (with_reducible assumption) | assumption)
                                                have q267 : x3_1 < (l0.length : Int) := of_decide_eq_true (by first | (with_reducible assumption) | assumption)
                                                obtain ⟨ad267, e267, hx267_0⟩ := Kd.at_int HR0.out x3_1 p267 q267
                                                obtain rfl : ad246 = ad267 := (by injection e267)
                                                replace p267 := eq_true p267
                                                replace q267 := eq_true q267
                                                have p268 : 0 ≤ (x3_1 : Int) := of_decide_eq_true (by first | (with_reducible assumption) | assumption)
                                                have q268 : x3_1 < (l0.length : Int) := of_decide_eq_true (by first | (with_reducible assumption) | assumption)
                                                obtain ⟨ad268, e268, hx268_0⟩ := Kd.at_int HR0.out x3_1 p268 q268
                                                obtain rfl : ad246 = ad268 := (by injection e268)
                                                replace p268 := eq_true p268
                                                replace q268 := eq_true q268
                                                have p269 : 0 ≤ (x5_3 : Int) := of_decide_eq_true (by first | (with_reducible assumption) | assumption)
                                                have q269 : x5_3 < (l0.length : Int) := of_decide_eq_true (by first | (with_reducible assumption) | assumption)
                                                obtain ⟨ad269, e269, hx269_0⟩ := Kd.at_int HR0.out x5_3 p269 q269
                                                obtain rfl : ad246 = ad269 := (by injection e269)
                                                replace p269 := eq_true p269
                                                replace q269 := eq_true q269
                                                go_wp2
                                                repeat (go_quiet (fail); try go_wp2)
                                                go_roundg k4
                                                case measure => have := HK1.out; have := HK2.out; have := HK3.out; have := HK4.out; omega
                                                case rel => exact ⟨(wrap64 (x6_4 + 1)), (by first | rfl | (simp; done) | (simp [*]; done)), H', ⟨by have := HK1.out; have := HK2.out; have := HK3.out; have := HK4.out; omega⟩, by repeat (first | exact Drawn0.refl _ | apply Drawn0.step)⟩
                                            · rw [if_neg c28] at H
                                              have c28b0 : decide ((rd l0 x6_4) < (rd l0 x3_1)) = false := decide_eq_false c28
                                              clear c28
                                              have H' := Aside0.mk H
                                              clear H
                                              have p246 : 0 ≤ (x5_3 : Int) := of_decide_eq_true (by first | (with_reducible assumption) | assumption)
                                              have q246 : x5_3 < (l0.length : Int) := of_decide_eq_true (by first | (with_reducible assumption) | assumption)
                                              obtain ⟨ad246, e246, hx246_0⟩ := Kd.at_int HR0.out x5_3 p246 q246
                                              cases e246
                                              replace p246 := eq_true p246
                                              replace q246 := eq_true q246
                                              have p247 : 0 ≤ (x3_1 : Int) := of_decide_eq_true (by first | (with_reducible assumption) | assumption)
                                              have q247 : x3_1 < (l0.length : Int) := of_decide_eq_true (by first | (with_reducible assumption) | assumption)
                                              obtain ⟨ad247, e247, hx247_0⟩ := Kd.at_int HR0.out x3_1 p247 q247
                                              obtain rfl : ad246 = ad247 := (by injection e247)
                                              replace p247 := eq_true p247
                                              replace q247 := eq_true q247
                                              have p264 : 0 ≤ (x4_2 : Int) := of_decide_eq_true (by first | (with_reducible assumption) | assumption)
                                              have q264 : x4_2 < (l0.length : Int) := of_decide_eq_true (by first | (with_reducible assumption) | assumption)
                                              obtain ⟨ad264, e264, hx264_0⟩ := Kd.at_int HR0.out x4_2 p264 q264
                                              obtain rfl : ad246 = ad264 := (by injection e264)
                                              replace p264 := eq_true p264
                                              replace q264 := eq_true q264
                                              have p265 : 0 ≤ (x6_4 : Int) := of_decide_eq_true (by first | (with_reducible assumption) | assumption)
                                              have q265 : x6_4 < (l0.length : Int) := of_decide_eq_true (by first | (with_reducible assumption) | assumption)
                                              obtain ⟨ad265, e265, hx265_0⟩ := Kd.at_int HR0.out x6_4 p265 q265
                                              obtain rfl : ad246 = ad265 := (by injection e265)
                                              replace p265 := eq_true p265
                                              replace q265 := eq_true q265
                                              have p266 : 0 ≤ (x6_4 : Int) := of_decide_eq_true (by first | (with_reducible assumption) | assumption)
                                              have q266 : x6_4 < (l0.length : Int) := of_decide_eq_true (by first | (with_reducible assumption) | assumption)
                                              obtain ⟨ad266, e266, hx266_0⟩ := Kd.at_int HR0.out x6_4 p266 q266
                                              obtain rfl : ad246 = ad266 := (by injection e266)
                                              replace p266 := eq_true p266
                                              replace q266 := eq_true q266
                                              have p267 : 0 ≤ (x3_1 : Int) := of_decide_eq_true (by first | (with_reducible assumption) | assumption)
                                              have q267 : x3_1 < (l0.length : Int) := of_decide_eq_true (by first | (with_reducible assumption) | assumption)
                                              obtain ⟨ad267, e267, hx267_0⟩ := Kd.at_int HR0.out x3_1 p267 q267
                                              obtain rfl : ad246 = ad267 := (by injection e267)
                                              replace p267 := eq_true p267
                                              replace q267 := eq_true q267
                                              go_wp2
                                              repeat (go_quiet (fail); try go_wp2)
                                              go_roundg k4
                                              case measure => have := HK1.out; have := HK2.out; have := HK3.out; have := HK4.out; omega
                                              case rel => exact ⟨(wrap64 (x6_4 + 1)), (by first | rfl | (simp; done) | (simp [*]; done)), H', ⟨by have := HK1.out; have := HK2.out; have := HK3.out; have := HK4.out; omega⟩, by repeat (first | exact Drawn0.refl _ | apply Drawn0.step)⟩
                                          · rw [if_neg c27] at H
                                            have c27b0 : decide ((rd l0 x4_2) < (rd l0 x6_4)) = false := decide_eq_false c27
                                            clear c27
                                            have H' := Aside0.mk H
                                            clear H
                                            have p246 : 0 ≤ (x5_3 : Int) := of_decide_eq_true (by first | (with_reducible assumption) | assumption)
                                            have q246 : x5_3 < (l0.length : Int) := of_decide_eq_true (by first | (with_reducible assumption) | assumption)
                                            obtain ⟨ad246, e246, hx246_0⟩ := Kd.at_int HR0.out x5_3 p246 q246
                                            cases e246
                                            replace p246 := eq_true p246
                                            replace q246 := eq_true q246
                                            have p247 : 0 ≤ (x3_1 : Int) := of_decide_eq_true (by first | (with_reducible assumption) | assumption)
                                            have q247 : x3_1 < (l0.length : Int) := of_decide_eq_true (by first | (with_reducible assumption) | assumption)
                                            obtain ⟨ad247, e247, hx247_0⟩ := Kd.at_int HR0.out x3_1 p247 q247
                                            obtain rfl : ad246 = ad247 := (by injection e247)
                                            replace p247 := eq_true p247
                                            replace q247 := eq_true q247
                                            have p264 : 0 ≤ (x4_2 : Int) := of_decide_eq_true (by first | (with_reducible assumption) | assumption)
                                            have q264 : x4_2 < (l0.length : Int) := of_decide_eq_true (by first | (with_reducible assumption) | assumption)
                                            obtain ⟨ad264, e264, hx264_0⟩ := Kd.at_int HR0.out x4_2 p264 q264
                                            obtain rfl : ad246 = ad264 := (by injection e264)
                                            replace p264 := eq_true p264
                                            replace q264 := eq_true q264
                                            have p265 : 0 ≤ (x6_4 : Int) := of_decide_eq_true (by first | (with_reducible assumption) | assumption)
                                            have q265 : x6_4 < (l0.length : Int) := of_decide_eq_true (by first | (with_reducible assumption) | assumption)
                                            obtain ⟨ad265, e265, hx265_0⟩ := Kd.at_int HR0.out x6_4 p265 q265
                                            obtain rfl : ad246 = ad265 := (by injection e265)
                                            replace p265 := eq_true p265
                                            replace q265 := eq_true q265
                                            go_wp2
                                            repeat (go_quiet (fail); try go_wp2)
                                            go_roundg k4
                                            case measure => have := HK1.out; have := HK2.out; have := HK3.out; have := HK4.out; omega
                                            case rel => exact ⟨(wrap64 (x6_4 + 1)), (by first | rfl | (simp; done) | (simp [*]; done)), H', ⟨by have := HK1.out; have := HK2.out; have := HK3.out; have := HK4.out; omega⟩, by repeat (first | exact Drawn0.refl _ | apply Drawn0.step)⟩
                                        · rw [if_neg c26] at H
                                          exact absurd H (by simp)
                                      · rw [if_neg c25] at H
                                        exact absurd H (by simp)
                                    · rw [if_neg c24] at H
                                      exact absurd H (by simp)
                                · rw [if_neg c9] at H
                                  exact absurd H (by simp)
                              · rw [if_neg c8] at H
                                exact absurd H (by simp)
                            · rw [if_neg c7] at H
                              exact absurd H (by simp)
                          · rw [if_neg c6] at H
                            exact absurd H (by simp)
                        · rw [if_neg c5] at H
                          have c5b0 : decide (x6_4 < (l0.length : Int)) = false := decide_eq_false c5
                          clear c5
                          have H' := Aside0.mk H
                          clear H
                          go_wp2
                          repeat (go_quiet (fail); try go_wp2)
                          go_roundg k4
                          case measure => have := HK1.out; have := HK2.out; have := HK3.out; have := HK4.out; omega
                          case rel => exact ⟨(wrap64 (x5_3 + 1)), (by first | rfl | (simp; done) | (simp [*]; done)), H', ⟨by have := HK1.out; have := HK2.out; have := HK3.out; have := HK4.out; omega⟩, by repeat (first | exact Drawn0.refl _ | apply Drawn0.step)⟩
                  · rw [if_neg c4] at H
                    have c4b0 : decide (x5_3 < (l0.length : Int)) = false := decide_eq_false c4
                    clear c4
                    have H' := Aside0.mk H
                    clear H
                    go_wp2
                    repeat (go_quiet (fail); try go_wp2)
                    go_roundg k3
                    case measure => have := HK1.out; have := HK2.out; have := HK3.out; omega
                    case rel => exact ⟨(wrap64 (x4_2 + 1)), (by first | rfl | (simp; done) | (simp [*]; done)), H', ⟨by have := HK1.out; have := HK2.out; have := HK3.out; omega⟩, by repeat (first | exact Drawn0.refl _ | apply Drawn0.step)⟩
            · rw [if_neg c3] at H
              have c3b0 : decide (x4_2 < (l0.length : Int)) = false := decide_eq_false c3
              clear c3
              have H' := Aside0.mk H
              clear H
              go_wp2
              repeat (go_quiet (fail); try go_wp2)
              go_roundg k2
              case measure => have := HK1.out; have := HK2.out; omega
              case rel => exact ⟨(wrap64 (x3_1 + 1)), (by first | rfl | (simp; done) | (simp [*]; done)), H', ⟨by have := HK1.out; have := HK2.out; omega⟩, by repeat (first | exact Drawn0.refl _ | apply Drawn0.step)⟩
      · rw [if_neg c2] at H
        have c2b0 : decide (x3_1 < (l0.length : Int)) = false := decide_eq_false c2
        clear c2
        obtain rfl := Option.some.inj H
        go_wp2
        repeat (go_quiet (fail); try go_wp2)
        go_ret
        exact ⟨by first | rfl | (simp; done) | (simp [*]; done), by repeat (first | exact Drawn0.refl _ | apply Drawn0.step)⟩

end Go.Proofs.Ytolegnmdcmfoiaa.Qb

/- The walk of solve: it fills the table, and hands back what stands for the sheet. -/
import Derived.Test.YtjbijfdiojhmcaaSTab
import Derived.WalkKit
import Derived.WalkSpells
import Derived.WalkLawsBesides
import Derived.Deep.QuietTactic
import Derived.BigQuiet
import Derived.Lib.Hide
namespace Go.Proofs.Ytjbijfdiojhmcaa.S
open Go.RowKit Go.Proofs.YtjbijfdiojhmcaaW.PrintWords
set_option linter.unusedVariables false
set_option linter.unusedSimpArgs false

set_option maxRecDepth 100000 in
set_option maxHeartbeats 1600000 in
theorem solve_any (fa fb : Nat) (ca : Array Value) (al be : Int → Int → Int) (V : Nat → Nat → Int) (w0 : World) (T w h : Nat)
    (hw1 : 1 ≤ w) (hw2 : w ≤ 12) (hh1 : 1 ≤ h) (hh2 : h ≤ 12)
    (ea : ∀ args W, (callFunc fa args).run Try.prog W = .ok (.enter fa args) W) (eb : ∀ args W, (callFunc fb args).run Try.prog W = .ok (.enter fb args) W)
    (ha : ∀ (x y : Nat) (W : World) (tb : Nat → Int), Tab w0 W T tb → 1 ≤ x → x ≤ 12 → 1 ≤ y → y ≤ 12 → Calls Try.prog fa (#[.int .i64 x, .int .i64 y] ++ ca) W fun e W' => e = .returned (.int .i64 (al x y)) ∧ ∃ m, W' = W.drewN m)
    (hb : ∀ (a b : Int) (W : World), Calls Try.prog fb #[.int .i64 a, .int .i64 b] W fun e W' => e = .returned (.int .i64 (be a b)) ∧ ∃ m, W' = W.drewN m)
    (hV : Fills al be V) (hVb : ∀ x y, 1 ≤ x → x ≤ 12 → 1 ≤ y → y ≤ 12 → -1000000 ≤ V x y ∧ V x y ≤ 1000000)
    (W : World) (tb : Nat → Int) (hT : Tab w0 W T tb) :
    Calls Try.prog 42 #[.pointer (some ⟨T, 0, none⟩), .int .i64 w, .int .i64 h, .func (.func fa) #[] ca, .func (.func fb) #[] #[]] W fun e W' => e = .returned (.int .i64 (V w h)) ∧ ∃ tb', Tab w0 W' T tb' := by
  have HA := Lib.hid ha
  have HB := Lib.hid hb
  have HV := Lib.hid hV
  have HVb := Lib.hid hVb
  have HT := Lib.hid hT
  clear ha hb hV hVb hT
  go_enter Try.func42, Try.ntmps42
  go_wp2_with fail
  go_loopw [11] (fun x wr => ∃ X : Nat, 1 ≤ X ∧ X ≤ w + 1 ∧ x = .int .i64 X ∧ ∃ tb1 : Nat → Int, Hid (Tab w0 wr T tb1) ∧ Hid (∀ x' y' : Nat, 1 ≤ x' → x' < X → 1 ≤ y' → y' ≤ h → tb1 (x' * 13 + y') = V x' y'))
    (fun x _ => w + 1 - (intOf x).toNat)
  case atStart => exact ⟨1, by omega, by omega, rfl, tb, HT, Lib.hid (fun x' y' a b => by omega)⟩
  case round =>
    obtain ⟨X, hX1, hX2, rfl, tb1, HT1, HF1⟩ := hrel
    clear HT
    by_cases hX : X ≤ w
    · go_wp2_with fail
      obtain ⟨wo, rfl⟩ : ∃ wo : World, wo = wr := ⟨_, rfl⟩
      go_loopw [12] (fun y wr => ∃ Y : Nat, 1 ≤ Y ∧ Y ≤ h + 1 ∧ y = .int .i64 Y ∧ ∃ tb2 : Nat → Int, Hid (Tab w0 wr T tb2) ∧ Hid (∀ x' y' : Nat, 1 ≤ x' → x' < X → 1 ≤ y' → y' ≤ h → tb2 (x' * 13 + y') = V x' y') ∧
          Hid (∀ y' : Nat, 1 ≤ y' → y' < Y → tb2 (X * 13 + y') = V X y'))
        (fun y _ => h + 1 - (intOf y).toNat)
      case atStart => exact ⟨1, by omega, by omega, rfl, tb1, HT1, HF1, Lib.hid (fun y' a => by omega)⟩
      case round =>
        obtain ⟨Y, hY1, hY2, rfl, tb2, HT2, HF2, HG2⟩ := hrel
        clear HT1 HF1
        by_cases hY : Y ≤ h
        · have hal := HA.out X Y wr tb2 HT2.out hX1 (by omega) hY1 (by omega)
          have HAL := Lib.hid hal
          clear hal
          go_wp2_with (refine HAL.out.mono ?_; clear HAL; rintro e w1 ⟨rfl, nq, rfl⟩)
          obtain ⟨wy, hwy⟩ : ∃ wy : World, wy = wr.drewN nq := ⟨_, rfl⟩
          have HTy : Hid (Tab w0 wy T tb2) := by rw [hwy]; exact HT2.out.drewN nq
          rw [← hwy]
          clear hwy HT2
          go_loopw [13, 14] (fun o k wr => ∃ K : Nat, 1 ≤ K ∧ K ≤ X ∧ k = .int .i64 K ∧ o = .int .i64 (cutW be V X Y (al X Y) (K - 1)) ∧ Hid (Tab w0 wr T tb2))
            (fun _ k _ => X - (intOf k).toNat)
          case atStart => exact ⟨1, by omega, by omega, rfl, rfl, HTy⟩
          case round =>
            obtain ⟨K, hK1, hK, rfl, rfl, HT3⟩ := hrel
            clear HTy
            by_cases hKX : K < X
            · have c1 : wr.cell? ⟨T, K * 13 + Y, none⟩ = some (.int .i64 (V K Y)) := by
                rw [HT3.out.cell _ (by omega), HF2.out K Y (by omega) (by omega) hY1 hY]
              have c2 : wr.cell? ⟨T, (X - K) * 13 + Y, none⟩ = some (.int .i64 (V (X - K) Y)) := by
                rw [HT3.out.cell _ (by omega), HF2.out (X - K) Y (by omega) (by omega) hY1 hY]
              go_wp2_with fail
              have v1 := HVb.out K Y (by omega) (by omega) hY1 (by omega)
              have v2 := HVb.out (X - K) Y (by omega) (by omega) hY1 (by omega)
              have b1 : (0 : Int) ≤ (K : Int) := by omega
              have b2 : (K : Int) < 13 := by omega
              have b3 : (0 : Int) ≤ (Y : Int) := by omega
              have b4 : (Y : Int) < 13 := by omega
              have b5 : (0 : Int) ≤ ((X - K : Nat) : Int) := by omega
              have b6 : ((X - K : Nat) : Int) < 13 := by omega
              have e1 : IntKind.i64.wrap ((X : Int) - (K : Int)) = ((X - K : Nat) : Int) := by
                rw [IntWalk.i64_in _ (by omega)]; omega
              have e2 : IntKind.i64.wrap (V K Y + V (X - K) Y) = V K Y + V (X - K) Y := IntWalk.i64_in _ (by omega)
              go_quiet (exact Calls.quiet_of (HB.out _ _ _))
              clear e1 e2 c1 c2 v1 v2
              go_wp2_with fail
              go_roundw
              case rel => exact ⟨K + 1, by omega, by omega, by go_num, by rw [cutW_step _ _ _ _ _ K hK1], Lib.hid (HT3.out.drewN _)⟩
              case measure => simp [intOf]; omega
            · obtain rfl : K = X := by omega
              go_wp2_with fail
              obtain ⟨wz, rfl⟩ : ∃ wz : World, wz = wr := ⟨_, rfl⟩
              go_loopw [13, 15] (fun o k wr => ∃ L : Nat, 1 ≤ L ∧ L ≤ Y ∧ k = .int .i64 L ∧ o = .int .i64 (cutH be V K Y (cutW be V K Y (al K Y) (K - 1)) (L - 1)) ∧ Hid (Tab w0 wr T tb2))
                (fun _ k _ => Y - (intOf k).toNat)
              case atStart => exact ⟨1, by omega, by omega, rfl, rfl, HT3⟩
              case round =>
                obtain ⟨L, hL1, hL, rfl, rfl, HT4⟩ := hrel
                clear HT3
                by_cases hLY : L < Y
                · have c1 : wr.cell? ⟨T, K * 13 + L, none⟩ = some (.int .i64 (V K L)) := by
                    rw [HT4.out.cell _ (by omega), HG2.out L (by omega) (by omega)]
                  have c2 : wr.cell? ⟨T, K * 13 + (Y - L), none⟩ = some (.int .i64 (V K (Y - L))) := by
                    rw [HT4.out.cell _ (by omega), HG2.out (Y - L) (by omega) (by omega)]
                  go_wp2_with fail
                  have v1 := HVb.out K L (by omega) (by omega) hL1 (by omega)
                  have v2 := HVb.out K (Y - L) (by omega) (by omega) (by omega) (by omega)
                  have b1 : (0 : Int) ≤ (K : Int) := by omega
                  have b2 : (K : Int) < 13 := by omega
                  have b3 : (0 : Int) ≤ (L : Int) := by omega
                  have b4 : (L : Int) < 13 := by omega
                  have b5 : (0 : Int) ≤ ((Y - L : Nat) : Int) := by omega
                  have b6 : ((Y - L : Nat) : Int) < 13 := by omega
                  have e1 : IntKind.i64.wrap ((Y : Int) - (L : Int)) = ((Y - L : Nat) : Int) := by
                    rw [IntWalk.i64_in _ (by omega)]; omega
                  have e2 : IntKind.i64.wrap (V K L + V K (Y - L)) = V K L + V K (Y - L) := IntWalk.i64_in _ (by omega)
                  go_quiet (exact Calls.quiet_of (HB.out _ _ _))
                  clear e1 e2 c1 c2 v1 v2
                  go_wp2_with fail
                  go_roundw
                  case rel => exact ⟨L + 1, by omega, by omega, by go_num, by rw [cutH_step _ _ _ _ _ L hL1], Lib.hid (HT4.out.drewN _)⟩
                  case measure => simp [intOf]; omega
                · obtain rfl : L = Y := by omega
                  have eV := HV.out K L hX1 (by omega) hL1 (by omega)
                  have HE : Hid (V K L = cutH be V K L (cutW be V K L (al K L) (K - 1)) (L - 1)) := eV
                  clear eV
                  have c1 : ∃ v, wr.cell? ⟨T, K * 13 + L, none⟩ = some (.int .i64 v) := ⟨_, HT4.out.cell _ (by omega)⟩
                  obtain ⟨v, c1⟩ := c1
                  have f1 : wr.frozen? ⟨T, K * 13 + L, none⟩ = false := HT4.out.frozen _
                  go_wp2_with fail
                  go_roundw
                  case rel =>
                    refine ⟨L + 1, by omega, by omega, by go_num, _, Lib.hid (HT4.out.set (K * 13 + L) (by omega) _), Lib.hid (fun x' y' a1 a2 a3 a4 => ?_), Lib.hid (fun y' a1 a2 => ?_)⟩
                    · rw [if_neg (by omega)]; exact HF2.out x' y' a1 a2 a3 a4
                    · by_cases hy : y' = L
                      · subst hy; rw [if_pos rfl]; exact HE.out.symm
                      · rw [if_neg (by omega)]; exact HG2.out y' a1 (by omega)
                  case measure => simp [intOf]; omega
        · obtain rfl : Y = h + 1 := by omega
          go_wp2_with fail
          go_roundw
          case rel =>
            refine ⟨X + 1, by omega, by omega, by go_num, tb2, HT2, Lib.hid (fun x' y' a1 a2 a3 a4 => ?_)⟩
            by_cases hx : x' = X
            · subst hx; exact HG2.out y' a3 (by omega)
            · exact HF2.out x' y' a1 (by omega) a3 a4
          case measure => simp [intOf]; omega
    · have hc : wr.cell? ⟨T, w * 13 + h, none⟩ = some (.int .i64 (V w h)) := by
        rw [HT1.out.cell _ (by omega), HF1.out w h hw1 (by omega) hh1 (Nat.le_refl _)]
      have HP := Lib.hid (⟨tb1, HT1.out⟩ : ∃ tb', Tab w0 wr T tb')
      go_wp2_with fail
      go_ret
      exact ⟨rfl, HP.out⟩
end Go.Proofs.Ytjbijfdiojhmcaa.S

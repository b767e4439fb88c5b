/- The walk of SheetValue: its closure, its checks, and solve. -/
import Derived.Test.YtjbijfdiojhmcaaSMost
namespace Go.Proofs.Ytjbijfdiojhmcaa.S
open Go.RowKit Go.Shelf Go.Proofs.YtjbijfdiojhmcaaW.PrintWords Go.Proofs.Ytjbijfdiojhmcaa.Qa Go.Proofs.Ytjbijfdiojhmcaa.QaL
set_option linter.unusedVariables false
set_option linter.unusedSimpArgs false

/-- The greatest value of the first k kinds that fit. -/
def valTo (ws hs vs : List Int) (x y : Int) : Nat → Int
  | 0 => 0
  | k + 1 => if fitB x y (ws.getD k 0) (hs.getD k 0) = true then maxI (valTo ws hs vs x y k) (vs.getD k 0) else valTo ws hs vs x y k

def alValue (ws hs vs : List Int) (x y : Int) : Int := valTo ws hs vs x y vs.length

/-- A list lies at an address, number by number. -/
def Lies (W : World) (ad : Addr) (l : List Int) : Prop := ∀ j, j < l.length → W.cell? (ad.add j) = some (.int .i64 (l.getD j 0))

set_option maxRecDepth 100000 in
set_option maxHeartbeats 1600000 in
theorem worth_calls (ws hs vs : List Int) (hn : 1 ≤ vs.length) (hn4 : vs.length ≤ 4) (hw : ws.length = vs.length) (hh : hs.length = vs.length) (aw ah av : Addr) (cw ch cv : Nat) (BV BW BH : Nat) (x y : Int) (W : World)
    (bV : W.cell? ⟨BV, 0, none⟩ = some (.slice (some av) vs.length cv)) (bW : W.cell? ⟨BW, 0, none⟩ = some (.slice (some aw) ws.length cw)) (bH : W.cell? ⟨BH, 0, none⟩ = some (.slice (some ah) hs.length ch))
    (lV : Lies W av vs) (lW : Lies W aw ws) (lH : Lies W ah hs) :
    Calls Try.prog 50 #[.int .i64 x, .int .i64 y, .pointer (some ⟨BV, 0, none⟩), .pointer (some ⟨BW, 0, none⟩), .pointer (some ⟨BH, 0, none⟩)] W fun e W' =>
      e = .returned (.int .i64 (alValue ws hs vs x y)) ∧ ∃ m, W' = W.drewN m := by
  have HLV := Lib.hid lV
  have HLW := Lib.hid lW
  have HLH := Lib.hid lH
  have h1 : ws.length ≤ vs.length := by omega
  have h2 : vs.length ≤ ws.length := by omega
  have h3 : hs.length ≤ vs.length := by omega
  have h4 : vs.length ≤ hs.length := by omega
  clear lV lW lH hw hh
  go_enter Try.func50, Try.ntmps50
  go_wp2_with fail
  go_loopw [8, 13] (fun o k wr => ∃ K : Nat, K ≤ vs.length ∧ k = .int .i64 K ∧ o = .int .i64 (valTo ws hs vs x y K) ∧ ∃ m, wr = W.drewN m)
    (fun _ k _ => vs.length - (intOf k).toNat)
  case atStart => exact ⟨0, by omega, rfl, rfl, 0, rfl⟩
  case round =>
    obtain ⟨K, hK, rfl, rfl, hm⟩ := hrel
    have HM := Lib.hid hm
    clear hm
    have bV' : wr.cell? ⟨BV, 0, none⟩ = some (.slice (some av) vs.length cv) := by obtain ⟨m, rfl⟩ := HM.out; exact bV
    have bW' : wr.cell? ⟨BW, 0, none⟩ = some (.slice (some aw) ws.length cw) := by obtain ⟨m, rfl⟩ := HM.out; exact bW
    have bH' : wr.cell? ⟨BH, 0, none⟩ = some (.slice (some ah) hs.length ch) := by obtain ⟨m, rfl⟩ := HM.out; exact bH
    by_cases hlt : K < vs.length
    · have c1 : wr.cell? (av.add K) = some (.int .i64 (vs.getD K 0)) := by obtain ⟨m, rfl⟩ := HM.out; exact HLV.out K hlt
      have c2 : wr.cell? (aw.add K) = some (.int .i64 (ws.getD K 0)) := by obtain ⟨m, rfl⟩ := HM.out; exact HLW.out K (by omega)
      have c3 : wr.cell? (ah.add K) = some (.int .i64 (hs.getD K 0)) := by obtain ⟨m, rfl⟩ := HM.out; exact HLH.out K (by omega)
      have hst : valTo ws hs vs x y (K + 1) = if fitB x y (ws.getD K 0) (hs.getD K 0) = true then maxI (valTo ws hs vs x y K) (vs.getD K 0) else valTo ws hs vs x y K := rfl
      generalize vs.getD K 0 = v at c1 hst
      generalize ws.getD K 0 = a at c2 hst
      generalize hs.getD K 0 = b at c3 hst
      generalize valTo ws hs vs x y K = o at hst ⊢
      have HST := Lib.hid hst
      clear hst
      have b1 : (0 : Int) ≤ (K : Int) := by omega
      have b2 : (K : Int) < (ws.length : Int) := by omega
      have b3 : (K : Int) < (hs.length : Int) := by omega
      by_cases hf : fitB x y a b = true
      · have hst := HST.out
        rw [if_pos hf] at hst
        have hfc := fitting_calls x y a b
        rw [hf] at hfc
        have HF := Lib.hid hfc
        have HS2 := Lib.hid hst
        clear hf hst hfc
        by_cases hm : o < v
        · go_wp2_with fail
          go_quiet ((go_at_call 46; exact Calls.quiet_of (HF.out _)))
          go_wp2_with fail
          go_roundw
          case rel => exact ⟨K + 1, by omega, by go_num, by rw [HS2.out, maxI, if_pos hm], by obtain ⟨m, rfl⟩ := HM.out; exact ⟨_, World.drewN_drewN _ _ _⟩⟩
          case measure => simp [intOf]; omega
        · go_wp2_with fail
          go_quiet ((go_at_call 46; exact Calls.quiet_of (HF.out _)))
          go_wp2_with fail
          go_roundw
          case rel => exact ⟨K + 1, by omega, by go_num, by rw [HS2.out, maxI, if_neg (by omega)], by obtain ⟨m, rfl⟩ := HM.out; exact ⟨_, World.drewN_drewN _ _ _⟩⟩
          case measure => simp [intOf]; omega
      · rw [Bool.not_eq_true] at hf
        have hst := HST.out
        rw [if_neg (by rw [hf]; simp)] at hst
        have hfc := fitting_calls x y a b
        rw [hf] at hfc
        have HF := Lib.hid hfc
        have HS2 := Lib.hid hst
        clear hf hst hfc
        go_wp2_with fail
        go_quiet ((go_at_call 46; exact Calls.quiet_of (HF.out _)))
        go_wp2_with fail
        go_roundw
        case rel => exact ⟨K + 1, by omega, by go_num, by rw [HS2.out], by obtain ⟨m, rfl⟩ := HM.out; exact ⟨_, World.drewN_drewN _ _ _⟩⟩
        case measure => simp [intOf]; omega
    · obtain rfl : K = vs.length := by omega
      go_wp2_with fail
      go_ret
      exact ⟨rfl, HM.out⟩
end Go.Proofs.Ytjbijfdiojhmcaa.S

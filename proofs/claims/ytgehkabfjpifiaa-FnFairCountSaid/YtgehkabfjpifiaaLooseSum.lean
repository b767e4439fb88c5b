/- The walk of PermLooseSum: a row of eight numbers, filled by sums of products. -/
import Derived.Test.YtgehkabfjpifiaaTab8
import Derived.WalkKit
import Derived.WalkSpells
import Derived.WalkLawsBesides
import Derived.Deep.QuietTactic
import Derived.BigQuiet
import Derived.RegionTactic
import Derived.Lib.Hide
namespace Go.Proofs.Ytgehkabfjpifiaa.S
open Go.RowKit Go.Proofs.YtgehkabfjpifiaaW.PrintWords
set_option linter.unusedVariables false
set_option linter.unusedSimpArgs false

/-- The numbers themselves. -/
def lo (k : Nat) : Int := [0, 1, 2, 6, 22, 90, 394, 1806].getD k 0
def part (K : Nat) : Nat → Int
  | 0 => lo (K - 1)
  | i + 1 => part K i + lo (i + 1) * lo (K - (i + 1))
def partOk (K i : Nat) : Bool := decide (0 ≤ part K i) && decide (part K i ≤ 1806) && decide (0 ≤ lo K) && decide (lo K ≤ 1806) && (decide (part K (K - 1) = lo K) || decide (K < 2))
theorem part_all : ((List.range 8).all fun K => (List.range K).all fun i => partOk K i) = true := by decide +kernel
theorem part_facts (K i : Nat) (hK : K < 8) (hi : i < K) : 0 ≤ part K i ∧ part K i ≤ 1806 ∧ 0 ≤ lo K ∧ lo K ≤ 1806 ∧ (2 ≤ K → part K (K - 1) = lo K) := by
  have g := List.all_eq_true.1 part_all K (List.mem_range.2 hK)
  have g := List.all_eq_true.1 g i (List.mem_range.2 hi)
  unfold partOk at g
  simp only [Bool.and_eq_true, Bool.or_eq_true, decide_eq_true_eq] at g
  obtain ⟨⟨⟨⟨g1, g2⟩, g3⟩, g4⟩, g5⟩ := g
  exact ⟨g1, g2, g3, g4, fun h => g5.resolve_right (by omega)⟩

def impl_PermLooseSum.f (a0 : Int) : Option (Int × Bool) := some (if 1 ≤ a0 ∧ a0 ≤ 7 then (lo a0.toNat, true) else (0, false))

set_option maxRecDepth 100000 in
set_option maxHeartbeats 1600000 in
theorem impl_PermLooseSum.calls (a0 r1 : Int) (r2 : Bool) (w : World) (h : impl_PermLooseSum.f a0 = some (r1, r2)) :
    Calls Try.prog 12 #[.int .i64 a0] w fun e w' => e = .returned (.tuple #[.int .i64 r1, .bool r2]) ∧ Below w.heap.size w w' := by
  by_cases h1 : a0 < 1
  · unfold impl_PermLooseSum.f at h
    rw [if_neg (by omega)] at h
    simp only [Option.some.injEq, Prod.mk.injEq] at h
    obtain ⟨rfl, rfl⟩ := h
    go_enter Try.func12, Try.ntmps12
    go_wp2
    go_ret2
    exact ⟨rfl, Below.refl _ _⟩
  by_cases h2 : a0 > 7
  · unfold impl_PermLooseSum.f at h
    rw [if_neg (by omega)] at h
    simp only [Option.some.injEq, Prod.mk.injEq] at h
    obtain ⟨rfl, rfl⟩ := h
    go_enter Try.func12, Try.ntmps12
    go_wp2
    go_ret2
    exact ⟨rfl, Below.refl _ _⟩
  unfold impl_PermLooseSum.f at h
  rw [if_pos (by omega)] at h
  simp only [Option.some.injEq, Prod.mk.injEq] at h
  have HH := Lib.hid h
  clear h
  obtain ⟨n, rfl⟩ := Int.eq_ofNat_of_zero_le (show 0 ≤ a0 by omega)
  go_enter Try.func12, Try.ntmps12
  go_wp2_with fail
  generalize hW : w.alloc (Obj.cells #[.int .i64 0, .int .i64 1, .int .i64 0, .int .i64 0, .int .i64 0, .int .i64 0, .int .i64 0, .int .i64 0] 30) = W1
  have hbk : W1.heap[w.heap.size]? = some (.cells #[.int .i64 0, .int .i64 1, .int .i64 0, .int .i64 0, .int .i64 0, .int .i64 0, .int .i64 0, .int .i64 0] 30 (0, 0)) := by rw [← hW]; exact blk_new w _
  have hbl : Below w.heap.size w W1 := by rw [← hW]; exact below_alloc (Below.refl _ _) _
  have hT : Tab W1 W1 w.heap.size (fun j => if j = 1 then 1 else 0) := by
    refine ⟨⟨_, hbk, fun j hj => ?_⟩, fun _ _ => rfl, rfl, rfl, rfl, rfl⟩
    match j, hj with
    | 0, _ => rfl
    | 1, _ => rfl
    | 2, _ => rfl
    | 3, _ => rfl
    | 4, _ => rfl
    | 5, _ => rfl
    | 6, _ => rfl
    | 7, _ => rfl
    | j + 8, h => omega
  have HBL := Lib.hid hbl
  have HT := Lib.hid hT
  clear hW hbk hbl hT
  obtain ⟨T, hTT⟩ : ∃ T, T = w.heap.size := ⟨_, rfl⟩
  rw [← hTT] at HT ⊢
  have HTT := Lib.hid hTT
  clear hTT
  obtain ⟨wa, rfl⟩ : ∃ wa : World, wa = W1 := ⟨_, rfl⟩
  go_loopw [5] (fun k wr => ∃ K : Nat, 2 ≤ K ∧ K ≤ n + 1 ∧ k = .int .i64 K ∧ ∃ tb1 : Nat → Int, Hid (Tab wa wr T tb1) ∧ Hid (∀ j, 1 ≤ j → j < K → tb1 j = lo j))
    (fun k _ => n + 1 - (intOf k).toNat)
  case atStart => exact ⟨2, by omega, by omega, rfl, _, HT, Lib.hid (fun j a b => by obtain rfl : j = 1 := by omega
                                                                                     rfl)⟩
  case round =>
    obtain ⟨K, hK1, hK2, rfl, tb1, HT1, HF1⟩ := hrel
    clear HT
    by_cases hK : K ≤ n
    · have c1 : wr.cell? ⟨T, K - 1, none⟩ = some (.int .i64 (lo (K - 1))) := by
        rw [HT1.out.cell _ (by omega), HF1.out (K - 1) (by omega) (by omega)]
      obtain ⟨v, c2⟩ : ∃ v, wr.cell? ⟨T, K, none⟩ = some (.int .i64 v) := ⟨_, HT1.out.cell _ (by omega)⟩
      have f2 : wr.frozen? ⟨T, K, none⟩ = false := HT1.out.frozen _
      have e1 : IntKind.i64.wrap ((K : Int) - 1) = ((K - 1 : Nat) : Int) := by
        rw [IntWalk.i64_in _ (by omega)]; omega
      have b1 : (0 : Int) ≤ ((K - 1 : Nat) : Int) := by omega
      have b2 : ((K - 1 : Nat) : Int) < 8 := by omega
      have b3 : (0 : Int) ≤ (K : Int) := by omega
      have b4 : (K : Int) < 8 := by omega
      go_wp2_with fail
      have hT2 := HT1.out.set K (by omega) (lo (K - 1))
      obtain ⟨wb, hwb⟩ : ∃ wb : World, wb = wr.setCell ⟨T, K, none⟩ (.int .i64 (lo (K - 1))) := ⟨_, rfl⟩
      rw [← hwb] at hT2 ⊢
      have HT2 := Lib.hid hT2
      clear hwb hT2 c1 c2 f2 e1
      go_loopw [6] (fun i wr => ∃ I : Nat, 1 ≤ I ∧ I ≤ K ∧ i = .int .i64 I ∧ ∃ tb2 : Nat → Int, Hid (Tab wa wr T tb2) ∧ Hid (∀ j, 1 ≤ j → j < K → tb2 j = lo j) ∧ Hid (tb2 K = part K (I - 1)))
        (fun i _ => K - (intOf i).toNat)
      case atStart =>
        refine ⟨1, by omega, by omega, rfl, _, HT2, Lib.hid (fun j a b => ?_), Lib.hid ?_⟩
        · rw [if_neg (by omega)]; exact HF1.out j a b
        · rw [if_pos rfl]; rfl
      case round =>
        obtain ⟨I, hI1, hI2, rfl, tb2, HT3, HF2, HP2⟩ := hrel
        clear HT2
        by_cases hI : I < K
        · have c1 : wr.cell? ⟨T, K, none⟩ = some (.int .i64 (part K (I - 1))) := by
            rw [HT3.out.cell _ (by omega), HP2.out]
          have c2 : wr.cell? ⟨T, I, none⟩ = some (.int .i64 (lo I)) := by
            rw [HT3.out.cell _ (by omega), HF2.out I (by omega) (by omega)]
          have c3 : wr.cell? ⟨T, K - I, none⟩ = some (.int .i64 (lo (K - I))) := by
            rw [HT3.out.cell _ (by omega), HF2.out (K - I) (by omega) (by omega)]
          have f1 : wr.frozen? ⟨T, K, none⟩ = false := HT3.out.frozen _
          have g1 := part_facts K (I - 1) (by omega) (by omega)
          have g2 := part_facts I 0 (by omega) (by omega)
          have g3 := part_facts (K - I) 0 (by omega) (by omega)
          have m1 : 0 ≤ lo I * lo (K - I) := Int.mul_nonneg g2.2.2.1 g3.2.2.1
          have m2 : lo I * lo (K - I) ≤ 1806 * 1806 := Int.mul_le_mul g2.2.2.2.1 g3.2.2.2.1 g3.2.2.1 (by omega)
          have e1 : IntKind.i64.wrap ((K : Int) - (I : Int)) = ((K - I : Nat) : Int) := by
            rw [IntWalk.i64_in _ (by omega)]; omega
          have e2 : IntKind.i64.wrap (lo I * lo (K - I)) = lo I * lo (K - I) := IntWalk.i64_in _ (by omega)
          have e3 : IntKind.i64.wrap (part K (I - 1) + lo I * lo (K - I)) = part K I := by
            rw [IntWalk.i64_in _ (by omega)]
            obtain ⟨m, rfl⟩ : ∃ m, I = m + 1 := ⟨I - 1, by omega⟩
            rfl
          have b5 : (0 : Int) ≤ (I : Int) := by omega
          have b6 : (I : Int) < 8 := by omega
          have b7 : (0 : Int) ≤ ((K - I : Nat) : Int) := by omega
          have b8 : ((K - I : Nat) : Int) < 8 := by omega
          clear m1 m2 g1 g2 g3
          go_wp2_with fail
          go_region
          go_wp2_with fail
          go_roundw
          case rel =>
            refine ⟨I + 1, by omega, by omega, by go_num, _, Lib.hid ((HT3.out.set K (by omega) (part K I)).drew), Lib.hid (fun j a b => ?_), Lib.hid ?_⟩
            · rw [if_neg (by omega)]; exact HF2.out j a b
            · rw [if_pos rfl]; rfl
          case measure => simp [intOf]; omega
        · obtain rfl : I = K := by omega
          have hlast := (part_facts I (I - 1) (by omega) (by omega)).2.2.2.2 hK1
          have HLA := Lib.hid hlast
          clear hlast
          go_wp2_with fail
          go_roundw
          case rel =>
            refine ⟨I + 1, by omega, by omega, by go_num, tb2, HT3, Lib.hid (fun j a b => ?_)⟩
            by_cases e : j = I
            · subst e; rw [HP2.out]; exact HLA.out
            · exact HF2.out j a (by omega)
          case measure => simp [intOf]; omega
    · obtain rfl : K = n + 1 := by omega
      have hc : wr.cell? ⟨T, n, none⟩ = some (.int .i64 (lo n)) := by
        rw [HT1.out.cell _ (by omega), HF1.out n (by omega) (by omega)]
      have hfin : Below w.heap.size w wr := HBL.out.trans (HT1.out.below (by rw [HTT.out]; exact Nat.le_refl _))
      have HFI := Lib.hid hfin
      have b3 : (0 : Int) ≤ (n : Int) := by omega
      have b4 : (n : Int) < 8 := by omega
      clear hfin
      go_wp2_with fail
      go_ret2
      obtain ⟨rfl, rfl⟩ := HH.out
      exact ⟨by simp, HFI.out⟩
end Go.Proofs.Ytgehkabfjpifiaa.S

/- The walks of slices.Grow at the nil slice and of slices.Concat, at []int: a row of its own, of the numbers of all. -/
import Derived.Test.YtolegnmdcmfoiaaQa0
import Derived.WalkKit
import Derived.Deep.LoopGhost
import Derived.Lib.Walk
import Derived.Lib.SliceRun
import Derived.Lib.Hide
import Derived.Lib.AppendZerosOnto
import Derived.Shelf.RegionOpenPlain
namespace Go.Proofs.Ytolegnmdcmfoiaa.S
open Go.RowKit Go.Lib Go.Proofs.YtolegnmdcmfoiaaW.PrintWords Go.Proofs.Ytolegnmdcmfoiaa.Qa
set_option linter.unusedVariables false
set_option linter.unusedSimpArgs false

set_option maxHeartbeats 4000000 in
set_option maxRecDepth 100000 in
theorem grow_calls (n : Nat) (hn : n ≤ 1000) (w : World) :
    Calls Try.prog 44 #[.slice none 0 0, .int .i64 (n : Int)] w fun e w' => ∃ v0_ : Value, e = .returned v0_ ∧ Kd.R (Kd.int .i64) 3 w' w.heap.size (fun _ => True) v0_ [] ∧ Below w.heap.size w w' := by
  rcases Nat.eq_zero_or_pos n with h0 | h0
  · subst h0
    go_enter Try.func44, Try.ntmps44
    go_wp2
    go_ret
    exact ⟨_, rfl, Kd.R_nil _ _ _ _ _, Below.refl _ _⟩
  · have t22 : Try.prog.underlying 22 = some (.slice 3) := by kernel_rfl
    have t3 : Try.prog.underlying 3 = some (.int .i64) := by kernel_rfl
    obtain ⟨i0, hi, hz0, hz1, hz2⟩ := info_parts info3
    have hz1' : i0.size = 1 := hz1
    have hold : (Builtin.firstCells i0.size 0 (.slice none 0 0)).run Try.prog w.drew = .ok #[] w.drew := run_firstCells_none w.drew i0.size 0 0 0
    have hfit : Builtin.nextslicecap (0 + n) 0 * i0.bytes ≤ 281474976710656 := growslice_fits (by omega) (by rw [hz2]; omega)
    have hrz : ∀ ty, (Builtin.append_ #[22, 3] ty #[.slice none 0 0, .int .i64 (n : Int)]).run Try.prog w =
        .ok (.slice (some ⟨w.heap.size, 0, none⟩) (0 + n) (grownCap w (0 + n) 0 3)) (w.drew.alloc (.cells (#[] ++ Builtin.zeroCells (Value.int .i64 0).cells n ++ Builtin.zeroCells (Value.int .i64 0).cells (grownCap w (0 + n) 0 3 - (0 + n))) 3)) := fun ty =>
      Lib.run_append_grow_zeros w 22 3 ty 3 i0 (.int .i64 0) .i64 .i64 t22 t3 hi hz0 none 0 0 [] hold n h0 (by omega) (by omega) (by omega) (by rw [hz2]; omega) hfit
    have hGn : 0 + n ≤ grownCap w (0 + n) 0 3 := grownCap_ge w _ _ _
    have hG63 : grownCap w (0 + n) 0 3 ≤ maxLen := grownCap_le_maxLen w (0 + n) 0 3 (by unfold maxLen; omega)
    obtain ⟨G, hG⟩ : ∃ G, G = grownCap w (0 + n) 0 3 := ⟨_, rfl⟩
    rw [← hG] at hrz hGn hG63
    have z3 : ∀ w, (Go.sizeOf 3).run Try.prog w = .ok 1 w := fun w => by simp [Go.sizeOf, typeInfo, hi, hz1']
    have HG := Lib.hid hG63
    unfold maxLen at hG63
    have h1 : (n : Int) > 0 := by omega
    clear hold hG hfit hz0 hz2 hz1 hz1' hi
    go_enter Try.func44, Try.ntmps44
    go_wp2_with (at_builtin; refine Lib.wpList_append_run _ rfl _ _ _ _ rfl _ _ rfl rfl _ _ (hrz _) ?_)
    go_ret
    refine ⟨_, rfl, Kd.R_of_own ⟨by simp [encs], .inr ⟨w.heap.size, G, _, rfl, Nat.le_refl _, heap_alloc_new _ _, Nat.zero_le _, HG.out, ?_, by simp [encs]⟩⟩ (fun _ _ => trivial), ?_⟩
    · simp [Builtin.zeroCells]; omega
    · exact (below_drew (Below.refl _ _)).alloc (Nat.le_refl _) _

def slices_Concat.f (l : List (List Int)) : Option (List Int) := if l.length ≤ 1000 ∧ l.flatten.length ≤ 1000 then some l.flatten else none

theorem row_at {W : World} {A : Option Addr} {l : List (List Int)} (h : Kd.C (Kd.slice 3 (Kd.int .i64)) W A l.length l) (k : Nat) (hk : k < l.length) :
    ∃ ad A' c, A = some ad ∧ W.cell? (ad.add k) = some (.slice A' (l[k]).length c) ∧ (l[k]).length ≤ c ∧ Kd.C (Kd.int .i64) W A' (l[k]).length l[k] := by
  obtain ⟨ad, cs, e, hl, ⟨A', c, hcs, hc, hr⟩, hcell⟩ := Kd.C_get h [] (k : Int) (by omega) (by omega)
  have eg : l.getD (k : Int).toNat [] = l[k] := by simp [List.getD_eq_getElem?_getD, hk]
  rw [eg] at hcs hc hr
  refine ⟨ad, A', c, e, ?_, hc, hr⟩
  have := hcell 0 _ (by rw [hcs]; rfl)
  simpa [Kd.slice] using this

theorem flat_snoc (l : List (List Int)) (k : Nat) (hk : k < l.length) : (l.take (k + 1)).flatten = (l.take k).flatten ++ l[k] := by
  rw [List.take_succ_eq_append_getElem hk, List.flatten_append]; simp only [List.flatten_cons, List.flatten_nil, List.append_nil]
theorem flat_le (l : List (List Int)) (k : Nat) : (l.take k).flatten.length ≤ l.flatten.length := by
  have := congrArg (fun x => x.flatten.length) (List.take_append_drop k l)
  simp only [List.flatten_append, List.length_append] at this
  omega

set_option maxHeartbeats 4000000 in
set_option maxRecDepth 100000 in
theorem slices_Concat.calls (A0 : Option Addr) (c0 : Nat) (l0 : List (List Int)) (r : List Int) (w : World) (hr0 : Kd.C (Kd.slice 3 (Kd.int .i64)) w A0 l0.length l0) (hc0 : l0.length ≤ c0) (h : slices_Concat.f l0 = some r) :
    Calls Try.prog 32 #[.slice A0 l0.length c0] w fun e w' => ∃ v0_ : Value, e = .returned v0_ ∧ Kd.R (Kd.int .i64) 3 w' w.heap.size (fun _ => True) v0_ r ∧ Below w.heap.size w w' := by
  unfold slices_Concat.f at h
  by_cases hl : l0.length ≤ 1000 ∧ l0.flatten.length ≤ 1000
  case neg => rw [if_neg hl] at h; cases h
  rw [if_pos hl] at h
  obtain rfl := Option.some.inj h
  obtain ⟨hl, hf⟩ := hl
  clear h
  have HR0 := Lib.hid hr0
  clear hr0
  go_enter Try.func32, Try.ntmps32
  go_wp2
  go_loop [3, 11] (fun sz i => ∃ k : Nat, k ≤ l0.length ∧ i = .int .i64 k ∧ ∃ m : Nat, sz = .int .i64 m ∧ Hid (m = (l0.take k).flatten.length)) (fun _ i => l0.length - (Go.RowKit.intOf i).toNat)
  case atStart => exact ⟨0, Nat.zero_le _, rfl, 0, rfl, Lib.hid rfl⟩
  case round =>
    obtain ⟨k, hk, rfl, m, rfl, HM⟩ := hrel
    by_cases hlt : k < l0.length
    · obtain ⟨ad, A', c, rfl, hcell, hcl, hrow⟩ := row_at HR0.out k hlt
      have hle := flat_le l0 (k + 1)
      have hsn := congrArg List.length (flat_snoc l0 k hlt)
      rw [List.length_append, ← HM.out] at hsn
      have hb : m + (l0[k]).length ≤ 1000 := by omega
      obtain ⟨q, hq⟩ : ∃ q, q = (l0[k]).length := ⟨_, rfl⟩
      rw [← hq] at hsn hb hcell
      have HS := Lib.hid hsn
      clear hsn hrow hcl hle hq HM
      go_wp2
      go_round
      case rel => exact ⟨k + 1, by omega, by go_num, m + q, by go_num, Lib.hid HS.out.symm⟩
      case measure => simp [Go.RowKit.intOf]; omega
    · have hkl : k = l0.length := by omega
      have hmf : m ≤ 1000 := by have := flat_le l0 k; have := HM.out; omega
      clear HM
      have HKL := Lib.hid hkl
      clear hkl
      go_wp2_with fail
      refine (grow_calls m hmf w).mono ?_
      rintro e w1 ⟨v1, rfl, hr1, hb1⟩
      have HR1 := Lib.hid hr1
      have HB1 := Lib.hid hb1
      clear hr1 hb1
      go_wp2
      go_loopw [6, 27] (fun o i wr => ∃ j : Nat, j ≤ l0.length ∧ i = .int .i64 j ∧ Hid (Kd.R (Kd.int .i64) 3 wr w.heap.size (fun _ => True) o (l0.take j).flatten) ∧ Hid (Below w.heap.size w wr)) (fun _ i _ => l0.length - (Go.RowKit.intOf i).toNat)
      case atStart => exact ⟨0, Nat.zero_le _, rfl, HR1, HB1⟩
      case round =>
        obtain ⟨j, hj, rfl, HRj, HBj⟩ := hrel
        clear HR1 HB1 HKL
        by_cases hjt : j < l0.length
        · obtain ⟨ad, A', c, rfl, hcell, hcl, hrow⟩ := row_at (Kd.C_below HR0.out HBj.out) j hjt
          have hle := flat_le l0 (j + 1)
          have hsn := congrArg List.length (flat_snoc l0 j hjt)
          rw [List.length_append] at hsn
          have hb : (l0.take j).flatten.length + (l0[j]).length ≤ 1000 := by omega
          have HROW := Lib.hid hrow
          clear hrow hsn hle
          go_wp2_with (at_builtin; refine Kd.R_append_rows (w0 := w) (Kd.int .i64) w.heap.size rfl _ _ 22 3 (.int .i64 0) 8 rfl (by kernel_rfl) info3 rfl (by decide) (by decide) _ _ _ _ _ _ (fun _ => True) (fun _ => False) rfl rfl HRj.out HROW.out (fun x cs hc => hc) (fun k hk => hk.elim) (fun _ _ => trivial) HBj.out HBj.out.size (by omega) (fun v2 w2 hr2 hb2 hg2 _ => ?_); (have HR2 := Lib.hid hr2); (have HB2 := Lib.hid hb2); clear hr2 hb2 hg2 HRj HBj)
          go_roundw
          case rel => exact ⟨j + 1, by omega, by go_num, Lib.hid (by rw [flat_snoc l0 j hjt]; exact HR2.out), HB2⟩
          case measure => simp [Go.RowKit.intOf]; omega
        · have hjl : j = l0.length := by omega
          subst hjl
          have hRf := HRj.out
          rw [List.take_length] at hRf
          go_wp2
          go_ret
          exact ⟨_, rfl, hRf, HBj.out⟩
end Go.Proofs.Ytolegnmdcmfoiaa.S

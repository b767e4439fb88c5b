/- The walk of slices.Clone at []int: a row of its own, of the same numbers (after the shelf's worked walk). -/
import Derived.Test.YtolegnmdcmfoiaaQa0
import Derived.WalkKit
import Derived.Deep.LoopGhost
import Derived.Lib.Walk
import Derived.Lib.SliceRun
import Derived.Lib.Hide
import Derived.Shelf.RegionOpenPlain
namespace Go.Proofs.Ytolegnmdcmfoiaa.S
open Go.RowKit Go.Lib Go.Proofs.YtolegnmdcmfoiaaW.PrintWords Go.Proofs.Ytolegnmdcmfoiaa.Qa
set_option linter.unusedVariables false
set_option linter.unusedSimpArgs false

def slices_Clone.f (l : List Int) : Option (List Int) := if l.length ≤ 1048576 then some l else none

theorem cells_of {W : World} {A : Option Addr} {n : Nat} {l : List Int} (h : Kd.C (Kd.int .i64) W A n l) (ad : Addr) (ha : A = some ad) (hn : n = l.length) : ∀ j u, (l.map (Value.int .i64))[j]? = some u → W.cell? (ad.add j) = some u := by
  intro j u hj
  have hjn : j < l.length := by
    have := (List.getElem?_eq_some_iff.1 hj).1
    simpa using this
  obtain ⟨ad', e, hc⟩ := Kd.at_int h (j : Int) (by omega) (by omega)
  rw [ha] at e
  obtain rfl := Option.some.inj e
  have e2 : (l.map (Value.int .i64))[j]? = some (Value.int .i64 (rd l (j : Int))) := by simp [rd, List.getElem?_eq_getElem hjn]
  rw [e2] at hj
  obtain rfl := Option.some.inj hj
  exact hc

theorem nil_of {W : World} {n : Nat} {l : List Int} (h : Kd.C (Kd.int .i64) W none n l) : n = 0 ∧ l = [] := by
  by_cases hn : 0 < n
  · obtain ⟨ad', e, hc⟩ := Kd.at_int h 0 (by omega) (by omega)
    cases e
  · have := Kd.C_len h
    refine ⟨by omega, List.eq_nil_of_length_eq_zero (by omega)⟩

set_option maxHeartbeats 2000000 in
set_option maxRecDepth 100000 in
theorem slices_Clone.calls (A0 : Option Addr) (c0 : Nat) (l0 r : List Int) (w : World) (hr0 : Kd.C (Kd.int .i64) w A0 l0.length l0) (hc0 : l0.length ≤ c0) (h : slices_Clone.f l0 = some r) :
    Calls Try.prog 29 #[.slice A0 l0.length c0] w fun e w' => ∃ v0_ : Value, e = .returned v0_ ∧ Kd.R (Kd.int .i64) 3 w' w.heap.size (fun _ => True) v0_ r ∧ Below w.heap.size w w' := by
  unfold slices_Clone.f at h
  by_cases hl : l0.length ≤ 1048576
  case neg => rw [if_neg hl] at h; cases h
  rw [if_pos hl] at h
  obtain rfl := Option.some.inj h
  clear h
  have q22 : ∀ (w : World) (a : Option Addr) (n c n' c' : Nat), (binOp .eql 22 (.slice a n c) (.slice none n' c')).run Try.prog w = .ok (.bool a.isNone) w := fun w a n c n' c' => Lib.run_eql_slice_nil w _ _ a n c n' c' (by kernel_rfl : Try.prog.underlying 22 = some (.slice 3))
  cases A0 with
  | none =>
    obtain ⟨e0, rfl⟩ := nil_of hr0
    clear hr0 hc0
    go_enter Try.func29, Try.ntmps29
    go_wp2
    go_ret
    exact ⟨_, rfl, Kd.R_nil _ _ _ _ _, Below.refl _ _⟩
  | some ad =>
    have hcs := cells_of hr0 ad rfl rfl
    have HCS := Lib.hid hcs
    clear hcs hr0
    obtain ⟨i0, hi, hz0, hz1, hz2⟩ := info_parts info3
    have t22 : Try.prog.underlying 22 = some (.slice 3) := by kernel_rfl
    have z22 : ∀ w, Sem.run Try.prog (underlying 22) w = .ok (TypeDesc.slice 3) w := run_underlying t22
    go_enter Try.func29, Try.ntmps29
    go_wp2_with (at_builtin; refine wpList_append_own _ rfl _ _ 22 rfl w.heap.size 3 i0 (.int .i64 0) 1 8 t22 hi hz0 hz1 hz2 rfl (by decide) _ _ _ rfl (World.ownsRow_made w #[] 0 (Nat.le_refl _) (Nat.zero_le _) rfl) ad l0.length c0 (l0.map (Value.int .i64)) rfl ?qc1 ?qc2 ?qc3 ?qc4 ?qc5 ?qc6 ?_)
    case qc1 => simp
    case qc2 =>
      intro j u hj
      exact Lib.cell?_alloc_some _ (HCS.out j u hj)
    case qc3 => intro u hu; obtain ⟨x, _, rfl⟩ := List.mem_map.1 hu; rfl
    case qc4 => unfold maxLen; omega
    case qc5 => omega
    case qc6 => simp
    intro v' w1 hown hgrow hnil
    go_wp2
    go_ret
    refine ⟨v', rfl, Kd.R_of_own (by simpa [encs] using hown) (fun _ _ => trivial), ?_⟩
    exact ((Below.refl _ w).alloc (Nat.le_refl _) _).grown hgrow (by simp) (by intro k hk; simp [Value.ownBlock] at hk; omega)
end Go.Proofs.Ytolegnmdcmfoiaa.S

/- impl.CountRooms: its contract. -/
import Derived.Test.YtjbjpkphepfldaaTally
namespace Go.Proofs.Ytjbjpkphepfldaa.S
open Go.RowKit Go.Proofs.YtjbjpkphepfldaaW.PrintWords Go.Proofs.YtjbjpkphepfldaaW.PrintMore
set_option linter.unusedVariables false
set_option linter.unusedSimpArgs false

def sizes (n m : Int) : Bool := decide (1 ≤ n ∧ n ≤ 6 ∧ 1 ≤ m ∧ m ≤ 6 ∧ n * m ≤ 9)
/-- What CountRooms tells. -/
def impl_CountRooms.f (n m : Int) : Option (List Int × Bool) :=
  if sizes n m = true then (fillM n.toNat m.toNat 11 0 (bare n.toNat m.toNat)).bind fun x => if x.1.all (fun y => decide (y ≤ n.toNat * m.toNat)) = true then some (counts (n.toNat * m.toNat) x.1, true) else none
  else some ([], false)
theorem counting_is (n m : Int) : Qk.impl_counting.f n m = some (sizes n m) := by
  unfold Qk.impl_counting.f sizes
  by_cases h1 : 1 ≤ n
  · rw [if_pos h1]
    by_cases h2 : n ≤ 6
    · rw [if_pos h2]
      by_cases h3 : 1 ≤ m
      · rw [if_pos h3]
        by_cases h4 : m ≤ 6
        · rw [if_pos h4]
          have hb : 0 ≤ n * m ∧ n * m ≤ 36 := ⟨Int.mul_nonneg (by omega) (by omega), Int.le_trans (Int.mul_le_mul h2 h4 (by omega) (by omega)) (by decide)⟩
          rw [pw64 _ (by omega)]
          congr 1
          exact decide_eq_decide.2 ⟨fun h => ⟨h1, h2, h3, h4, h⟩, fun h => h.2.2.2.2⟩
        · rw [if_neg h4, decide_eq_false (fun h => h4 h.2.2.2.1)]
      · rw [if_neg h3, decide_eq_false (fun h => h3 h.2.2.1)]
    · rw [if_neg h2, decide_eq_false (fun h => h2 h.2.1)]
  · rw [if_neg h1, decide_eq_false (fun h => h1 h.1)]

set_option maxRecDepth 100000 in
set_option maxHeartbeats 4000000 in
theorem tally_none (n m : Int) (h : sizes n m = false) (w : World) :
    Calls Try.prog 14 #[.int .i64 n, .int .i64 m, .func (Fn.func 15) #[] #[]] w fun e w' => e = .returned (.tuple #[.slice none 0 0, .bool false]) ∧ Below w.heap.size w w' := by
  have CC : ∀ W', Calls Try.prog 23 #[.int .i64 n, .int .i64 m] W' fun e w' => e = .returned (.bool false) ∧ Drawn0 W' w' := fun W' => Qk.impl_counting.calls n m false W' (by rw [counting_is, h])
  have HCC := Lib.hid CC
  clear CC h
  refine (callsIn_wide (n := 0)).1 ?_
  refine callsIn_of_wp_marks Try.func14 rfl trivial ?_
  simp only [Try.ntmps14, List.size_toArray, List.length_cons, List.length_nil, Nat.reduceAdd, Nat.reduceSub, Array.replicate_succ, Array.replicate_zero, List.push_toArray, List.append_toArray, List.nil_append, List.cons_append]
  gi_wp2
  refine ⟨trivial, rfl, (callsIn_wide.2 (HCC.out _)).mono ?_⟩
  rintro e w2 ⟨rfl, nd, rfl⟩
  gi_wp2
  exact ⟨.tuple #[.slice none 0 0, .bool false], by simp [results, Try.f14, go_sem], rfl, pw_below_drewN (below_alloc (Below.refl _ _) _) nd⟩

set_option maxRecDepth 100000 in
set_option maxHeartbeats 4000000 in
theorem impl_CountRooms.calls (a0 a1 : Int) (r1 : List Int) (r2 : Bool) (w : World) (h : impl_CountRooms.f a0 a1 = some (r1, r2)) :
    Calls Try.prog 6 #[.int .i64 a0, .int .i64 a1] w fun e w' => ∃ v0_ : Value, e = .returned (.tuple #[v0_, .bool r2]) ∧ Kd.R (Kd.int .i64) 3 w' w.heap.size (fun _ => True) v0_ r1 ∧ Below w.heap.size w w' := by
  have TC : Calls Try.prog 14 #[.int .i64 a0, .int .i64 a1, .func (Fn.func 15) #[] #[]] w fun e w' => ∃ v0_ : Value, e = .returned (.tuple #[v0_, .bool r2]) ∧ Kd.R (Kd.int .i64) 3 w' w.heap.size (fun _ => True) v0_ r1 ∧ Below w.heap.size w w' := by
    unfold impl_CountRooms.f at h
    split at h
    · rename_i hs
      obtain ⟨h1, h2, h3, h4, h5⟩ := of_decide_eq_true hs
      obtain ⟨⟨xs, g'⟩, hf, h⟩ := bind_out h
      simp only at h
      split at h
      case isFalse => cases h
      rename_i hall
      have he := Option.some.inj h
      injection he with e1 e2
      subst e1
      subst e2
      obtain ⟨H, rfl⟩ := Int.eq_ofNat_of_zero_le (show 0 ≤ a0 by omega)
      obtain ⟨Wd, rfl⟩ := Int.eq_ofNat_of_zero_le (show 0 ≤ a1 by omega)
      have h9 : H * Wd ≤ 9 := by
        have : ((H * Wd : Nat) : Int) ≤ 9 := by rw [Int.natCast_mul]; exact h5
        omega
      exact tally_calls H Wd 11 (by omega) (by omega) (by omega) (by omega) h9 xs g' hf (fun x hx => by
        rw [List.all_eq_true] at hall
        exact of_decide_eq_true (hall x hx)) w
    · rename_i hs
      have he := Option.some.inj h
      injection he with e1 e2
      subst e1
      subst e2
      refine (tally_none a0 a1 (Bool.eq_false_iff.2 hs) w).mono ?_
      rintro e w' ⟨rfl, hb⟩
      exact ⟨_, rfl, Kd.R_nil _ _ _ _ _, hb⟩
  have HTC := Lib.hid TC
  clear TC h
  go_enter Try.func6, Try.ntmps6
  go_wp2_with fail
  refine HTC.out.mono ?_
  rintro e w1 ⟨v, rfl, hR, hb⟩
  have HR := Lib.hid hR
  have HB := Lib.hid hb
  clear hR hb
  go_wp2
  go_ret2
  exact ⟨_, rfl, HR.out, HB.out⟩
end Go.Proofs.Ytjbjpkphepfldaa.S

/- The walks of impl.PermFairCount and impl.PermLooseCount. -/
import Derived.Test.YtgehkabfjpifiaaCounted
import Derived.Test.YtgehkabfjpifiaaFair
namespace Go.Proofs.Ytgehkabfjpifiaa.S
open Go.RowKit Go.Proofs.YtgehkabfjpifiaaW.PrintWords Go.Proofs.Ytgehkabfjpifiaa.R Go.Proofs.Ytgehkabfjpifiaa.Qr
set_option linter.unusedVariables false
set_option linter.unusedSimpArgs false

theorem asks_fair : Asks 30 fairB := fun A c x W h1 h2 h3 => fair_calls A c x W h1 h2 (by omega)
theorem asks_loose : Asks 29 looseB := fun A c x W h1 h2 h3 => loose_calls A c x W h1 h2 (by omega)

set_option maxRecDepth 100000 in
set_option maxHeartbeats 4000000 in
theorem counted_no (n : Int) (f : FuncId) (h : ¬ (1 ≤ n ∧ n ≤ 7)) (w : World) :
    Calls Try.prog 28 #[.int .i64 n, .func (.func f) #[] #[]] w fun e w' => e = .returned (.tuple #[.int .i64 0, .bool false]) ∧ Below w.heap.size w w' := by
  by_cases h1 : n < 1
  · go_enter Try.func28, Try.ntmps28
    go_wp2
    go_ret2
    exact ⟨rfl, below_alloc (Below.refl _ _) _⟩
  · have h2 : 7 < n := by omega
    go_enter Try.func28, Try.ntmps28
    go_wp2
    go_ret2
    exact ⟨rfl, below_alloc (Below.refl _ _) _⟩

def cnt (h : List Int → Bool) (n : Int) : Int × Bool := if 1 ≤ n ∧ n ≤ 7 then ((((permsF n.toNat n.toNat []).countP h : Nat) : Int), true) else (0, false)
theorem counted_both (n : Int) (f : FuncId) (h : List Int → Bool) (hf : Asks f h) (ef : ∀ args w, (callFunc f args).run Try.prog w = .ok (.enter f args) w) (w : World) :
    Calls Try.prog 28 #[.int .i64 n, .func (.func f) #[] #[]] w fun e w' => e = .returned (.tuple #[.int .i64 (cnt h n).1, .bool (cnt h n).2]) ∧ Below w.heap.size w w' := by
  unfold cnt
  by_cases hn : 1 ≤ n ∧ n ≤ 7
  · rw [if_pos hn]
    obtain ⟨m, rfl⟩ := Int.eq_ofNat_of_zero_le (show 0 ≤ n by omega)
    exact counted_calls m f h hf ef (by omega) (by omega) w
  · rw [if_neg hn]
    exact counted_no n f hn w

def impl_PermFairCount.f (n : Int) : Option (Int × Bool) := some (cnt fairB n)
def impl_PermLooseCount.f (n : Int) : Option (Int × Bool) := some (cnt looseB n)

set_option maxRecDepth 100000 in
set_option maxHeartbeats 1000000 in
theorem impl_PermFairCount.calls (a0 : Int) (r1 : Int) (r2 : Bool) (w : World) (h : impl_PermFairCount.f a0 = some (r1, r2)) :
    Calls Try.prog 20 #[.int .i64 a0] w fun e w' => e = .returned (.tuple #[.int .i64 r1, .bool r2]) ∧ Below w.heap.size w w' := by
  have e := Option.some.inj h
  have e1 : (cnt fairB a0).1 = r1 := by rw [e]
  have e2 : (cnt fairB a0).2 = r2 := by rw [e]
  have HC := Lib.hid (e1 ▸ e2 ▸ counted_both a0 30 fairB asks_fair (fun args w => by simp [go_sem]))
  clear e e1 e2 h
  go_enter Try.func20, Try.ntmps20
  go_wp2_with fail
  refine (HC.out w).mono ?_
  rintro e w' ⟨rfl, hb⟩
  have HB := Lib.hid hb
  clear hb
  go_wp2
  go_ret2
  exact ⟨rfl, HB.out⟩

set_option maxRecDepth 100000 in
set_option maxHeartbeats 1000000 in
theorem impl_PermLooseCount.calls (a0 : Int) (r1 : Int) (r2 : Bool) (w : World) (h : impl_PermLooseCount.f a0 = some (r1, r2)) :
    Calls Try.prog 18 #[.int .i64 a0] w fun e w' => e = .returned (.tuple #[.int .i64 r1, .bool r2]) ∧ Below w.heap.size w w' := by
  have e := Option.some.inj h
  have e1 : (cnt looseB a0).1 = r1 := by rw [e]
  have e2 : (cnt looseB a0).2 = r2 := by rw [e]
  have HC := Lib.hid (e1 ▸ e2 ▸ counted_both a0 29 looseB asks_loose (fun args w => by simp [go_sem]))
  clear e e1 e2 h
  go_enter Try.func18, Try.ntmps18
  go_wp2_with fail
  refine (HC.out w).mono ?_
  rintro e w' ⟨rfl, hb⟩
  have HB := Lib.hid hb
  clear hb
  go_wp2
  go_ret2
  exact ⟨rfl, HB.out⟩
end Go.Proofs.Ytgehkabfjpifiaa.S

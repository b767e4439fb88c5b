/- The walks of impl.tight and impl.unfair: what four numbers are asked. -/
import Derived.Test.YtgehkabfjpifiaaQa0
import Derived.WalkKit
import Derived.Deep.QuietTactic
import Derived.BigQuiet
import Derived.WalkLawsBesides
import Derived.Lib.Hide
namespace Go.Proofs.Ytgehkabfjpifiaa.S
open Go.RowKit Go.Proofs.YtgehkabfjpifiaaW.PrintWords Go.Proofs.YtgehkabfjpifiaaW.PrintLast Go.Proofs.YtgehkabfjpifiaaW.PrintMore Go.Proofs.Ytgehkabfjpifiaa.Qa
attribute [local go_sem] max2_int min2_int max_two min_two max_three min_three max_four min_four
set_option linter.unusedVariables false
set_option linter.unusedSimpArgs false

def tightB (a b c d : Int) : Bool := (decide (c < a) && decide (a < d) && decide (d < b)) || (decide (b < d) && decide (d < a) && decide (a < c))
def unfairB (a b c d : Int) : Bool := (decide (b > mx a d) && decide (c < mn a d) && decide (a < d)) || (decide (b < mn a d) && decide (c > mx a d) && decide (a > d))

set_option maxRecDepth 100000 in
set_option maxHeartbeats 8000000 in
theorem tight_calls (a b c d : Int) (w : World) :
    Calls Try.prog 37 #[.agg #[.int .i64 a, .int .i64 b, .int .i64 c, .int .i64 d]] w fun e w' => e = .returned (.bool (tightB a b c d)) ∧ Below w.heap.size w w' := by
  by_cases h1 : c < a <;> by_cases h2 : a < d <;> by_cases h3 : d < b <;> by_cases h4 : b < d <;> by_cases h5 : d < a <;> by_cases h6 : a < c
  all_goals first
    | (exfalso; omega)
    | (go_enter Try.func37, Try.ntmps37
       go_wp2
       go_ret
       exact ⟨by simp [tightB, h1, h2, h3, h4, h5, h6], below_alloc (Below.refl _ _) _⟩)

set_option maxRecDepth 100000 in
set_option maxHeartbeats 8000000 in
theorem unfair_calls (a b c d : Int) (w : World) :
    Calls Try.prog 38 #[.agg #[.int .i64 a, .int .i64 b, .int .i64 c, .int .i64 d]] w fun e w' => e = .returned (.bool (unfairB a b c d)) ∧ Below w.heap.size w w' := by
  have fin : ∀ (x : Bool) (nq : Nat), unfairB a b c d = x → (Ending.returned (.bool x) = Ending.returned (.bool (unfairB a b c d)) ∧ Below w.heap.size w ((w.alloc (.cells #[.int .i64 a, .int .i64 b, .int .i64 c, .int .i64 d] 44)).drewN nq)) := fun x nq h => ⟨by rw [h], pw_below_drewN (below_alloc (Below.refl _ _) _) nq⟩
  have FIN := Lib.hid fin
  clear fin
  rcases Int.lt_trichotomy a d with h1 | h1 | h1
  · have h2 : ¬ d < a := by omega
    have HMX : Hid (mx a d = d) := Lib.hid (by unfold mx; split <;> omega)
    have HMN : Hid (mn a d = a) := Lib.hid (by unfold mn; split <;> omega)
    by_cases h3 : d < b <;> by_cases h4 : c < a <;> by_cases h5 : b < a <;> by_cases h6 : d < c
    all_goals first
      | (exfalso; omega)
      | (go_enter Try.func38, Try.ntmps38
         go_wp2
         go_quiet (fail)
         go_wp2
         go_ret
         exact FIN.out _ _ (by first | (simp [unfairB, HMX.out, HMN.out, h1, h2, h3, h4, h5, h6]; done) | (simp [unfairB, HMX.out, HMN.out, h1, h2, h3, h4, h5, h6]; omega)))
  · subst h1
    have h2 : ¬ a < a := by omega
    have HMX : Hid (mx a a = a) := Lib.hid (by unfold mx; split <;> omega)
    have HMN : Hid (mn a a = a) := Lib.hid (by unfold mn; split <;> omega)
    by_cases h3 : a < b <;> by_cases h4 : c < a <;> by_cases h5 : b < a <;> by_cases h6 : a < c
    all_goals first
      | (exfalso; omega)
      | (go_enter Try.func38, Try.ntmps38
         go_wp2
         go_quiet (fail)
         go_wp2
         go_ret
         exact FIN.out _ _ (by simp [unfairB, HMX.out, HMN.out, h2, h3, h4, h5, h6]))
  · have h2 : ¬ a < d := by omega
    have HMX : Hid (mx a d = a) := Lib.hid (by unfold mx; split <;> omega)
    have HMN : Hid (mn a d = d) := Lib.hid (by unfold mn; split <;> omega)
    by_cases h3 : a < b <;> by_cases h4 : c < d <;> by_cases h5 : b < d <;> by_cases h6 : a < c
    all_goals first
      | (exfalso; omega)
      | (go_enter Try.func38, Try.ntmps38
         go_wp2
         go_quiet (fail)
         go_wp2
         go_ret
         exact FIN.out _ _ (by first | (simp [unfairB, HMX.out, HMN.out, h1, h2, h3, h4, h5, h6]; done) | (simp [unfairB, HMX.out, HMN.out, h1, h2, h3, h4, h5, h6]; omega)))
end Go.Proofs.Ytgehkabfjpifiaa.S

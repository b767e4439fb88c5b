/- The contracts of impl.TermIn and impl.TermRooms. -/
import Derived.Test.YtmocablibmkebaaTermOf
import Derived.Test.YtmocablibmkebaaQs0
namespace Go.Proofs.Ytmocablibmkebaa.S
open Go.RowKit Go.Proofs.YtmocablibmkebaaW.PrintWords Go.Proofs.YtmocablibmkebaaW.PrintMore

def impl_TermIn.f (a0 : ByteArray) : Option Bool := some (ofI a0.data.toList).isSome
theorem impl_TermIn.calls (a0 : ByteArray) (r : Bool) (w : World) (h : impl_TermIn.f a0 = some r) :
    Calls Try.prog 9 #[.string a0] w fun e w' => e = .returned (.bool r) ∧ Below w.heap.size w w' := by
  obtain rfl := Option.some.inj h
  exact TermIn_calls a0 w
def impl_TermRooms.f (a0 : ByteArray) : Option (Int × Bool) := some ((((ofI a0.data.toList).map Tm.rooms).getD 0 : Nat), (ofI a0.data.toList).isSome)
theorem impl_TermRooms.calls (a0 : ByteArray) (r1 : Int) (r2 : Bool) (w : World) (h : impl_TermRooms.f a0 = some (r1, r2)) :
    Calls Try.prog 11 #[.string a0] w fun e w' => e = .returned (.tuple #[.int .i64 r1, .bool r2]) ∧ Below w.heap.size w w' := by
  simp only [impl_TermRooms.f, Option.some.injEq, Prod.mk.injEq] at h
  obtain ⟨rfl, rfl⟩ := h
  exact TermRooms_calls a0 w
end Go.Proofs.Ytmocablibmkebaa.S

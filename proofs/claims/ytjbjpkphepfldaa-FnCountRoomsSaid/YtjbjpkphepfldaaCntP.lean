/- How many plans have so many rooms: all sizes of at most 9 cells, by the kernel. -/
import Derived.Test.YtjbjpkphepfldaaCount
import Derived.Test.YtjbjpkphepfldaaScountB
namespace Go.Proofs.Ytjbjpkphepfldaa.S
open Go.RowKit Go.Proofs.YtjbjpkphepfldaaW.PrintWords
set_option maxRecDepth 1000000 in
theorem a11 : impl_CountRooms.f 1 1 = some ([0, 1], true) := by decide +kernel
set_option maxRecDepth 1000000 in
theorem b11 : spec_l10Counts.f 1 1 0 = some [0, 1] := by decide +kernel
set_option maxRecDepth 1000000 in
theorem a12 : impl_CountRooms.f 1 2 = some ([0, 1, 1], true) := by decide +kernel
set_option maxRecDepth 1000000 in
theorem b12 : spec_l10Counts.f 1 2 0 = some [0, 1, 1] := by decide +kernel
set_option maxRecDepth 1000000 in
theorem a13 : impl_CountRooms.f 1 3 = some ([0, 1, 2, 1], true) := by decide +kernel
set_option maxRecDepth 1000000 in
theorem b13 : spec_l10Counts.f 1 3 0 = some [0, 1, 2, 1] := by decide +kernel
set_option maxRecDepth 1000000 in
theorem a14 : impl_CountRooms.f 1 4 = some ([0, 1, 3, 3, 1], true) := by decide +kernel
set_option maxRecDepth 1000000 in
theorem b14 : spec_l10Counts.f 1 4 0 = some [0, 1, 3, 3, 1] := by decide +kernel
set_option maxRecDepth 1000000 in
theorem a15 : impl_CountRooms.f 1 5 = some ([0, 1, 4, 6, 4, 1], true) := by decide +kernel
set_option maxRecDepth 1000000 in
theorem b15 : spec_l10Counts.f 1 5 0 = some [0, 1, 4, 6, 4, 1] := by decide +kernel
set_option maxRecDepth 1000000 in
theorem a16 : impl_CountRooms.f 1 6 = some ([0, 1, 5, 10, 10, 5, 1], true) := by decide +kernel
set_option maxRecDepth 1000000 in
theorem b16 : spec_l10Counts.f 1 6 0 = some [0, 1, 5, 10, 10, 5, 1] := by decide +kernel
set_option maxRecDepth 1000000 in
theorem a21 : impl_CountRooms.f 2 1 = some ([0, 1, 1], true) := by decide +kernel
set_option maxRecDepth 1000000 in
theorem b21 : spec_l10Counts.f 2 1 0 = some [0, 1, 1] := by decide +kernel
set_option maxRecDepth 1000000 in
theorem a22 : impl_CountRooms.f 2 2 = some ([0, 1, 2, 4, 1], true) := by decide +kernel
set_option maxRecDepth 1000000 in
theorem b22 : spec_l10Counts.f 2 2 0 = some [0, 1, 2, 4, 1] := by decide +kernel
set_option maxRecDepth 1000000 in
theorem a23 : impl_CountRooms.f 2 3 = some ([0, 1, 3, 9, 13, 7, 1], true) := by decide +kernel
set_option maxRecDepth 1000000 in
theorem b23 : spec_l10Counts.f 2 3 0 = some [0, 1, 3, 9, 13, 7, 1] := by decide +kernel
set_option maxRecDepth 1000000 in
theorem a24 : impl_CountRooms.f 2 4 = some ([0, 1, 4, 15, 37, 47, 33, 10, 1], true) := by decide +kernel
set_option maxRecDepth 1000000 in
theorem b24 : spec_l10Counts.f 2 4 0 = some [0, 1, 4, 15, 37, 47, 33, 10, 1] := by decide +kernel
set_option maxRecDepth 1000000 in
theorem a31 : impl_CountRooms.f 3 1 = some ([0, 1, 2, 1], true) := by decide +kernel
set_option maxRecDepth 1000000 in
theorem b31 : spec_l10Counts.f 3 1 0 = some [0, 1, 2, 1] := by decide +kernel
set_option maxRecDepth 1000000 in
theorem a32 : impl_CountRooms.f 3 2 = some ([0, 1, 3, 9, 13, 7, 1], true) := by decide +kernel
set_option maxRecDepth 1000000 in
theorem b32 : spec_l10Counts.f 3 2 0 = some [0, 1, 3, 9, 13, 7, 1] := by decide +kernel
set_option maxRecDepth 1000000 in
theorem a33 : impl_CountRooms.f 3 3 = some ([0, 1, 4, 18, 48, 92, 96, 50, 12, 1], true) := by decide +kernel
set_option maxRecDepth 1000000 in
theorem b33 : spec_l10Counts.f 3 3 0 = some [0, 1, 4, 18, 48, 92, 96, 50, 12, 1] := by decide +kernel
set_option maxRecDepth 1000000 in
theorem a41 : impl_CountRooms.f 4 1 = some ([0, 1, 3, 3, 1], true) := by decide +kernel
set_option maxRecDepth 1000000 in
theorem b41 : spec_l10Counts.f 4 1 0 = some [0, 1, 3, 3, 1] := by decide +kernel
set_option maxRecDepth 1000000 in
theorem a42 : impl_CountRooms.f 4 2 = some ([0, 1, 4, 15, 37, 47, 33, 10, 1], true) := by decide +kernel
set_option maxRecDepth 1000000 in
theorem b42 : spec_l10Counts.f 4 2 0 = some [0, 1, 4, 15, 37, 47, 33, 10, 1] := by decide +kernel
set_option maxRecDepth 1000000 in
theorem a51 : impl_CountRooms.f 5 1 = some ([0, 1, 4, 6, 4, 1], true) := by decide +kernel
set_option maxRecDepth 1000000 in
theorem b51 : spec_l10Counts.f 5 1 0 = some [0, 1, 4, 6, 4, 1] := by decide +kernel
set_option maxRecDepth 1000000 in
theorem a61 : impl_CountRooms.f 6 1 = some ([0, 1, 5, 10, 10, 5, 1], true) := by decide +kernel
set_option maxRecDepth 1000000 in
theorem b61 : spec_l10Counts.f 6 1 0 = some [0, 1, 5, 10, 10, 5, 1] := by decide +kernel
/-- What both sides tell of a size. -/
def Told2 (n m : Int) : Prop := ∃ l : List Int, impl_CountRooms.f n m = some (l, true) ∧ spec_l10Counts.f n m 0 = some l ∧ impl_CountRooms.f m n = some (l, true) ∧ (l.length : Int) = n * m + 1 ∧ rd l 0 = 0 ∧ rd l 1 = 1 ∧ rd l (n * m) = 1
theorem told2 (n m : Int) (h : sizes n m = true) : Told2 n m := by
  obtain ⟨h1, h2, h3, h4, h5⟩ := of_decide_eq_true h
  have hn : n = 1 ∨ n = 2 ∨ n = 3 ∨ n = 4 ∨ n = 5 ∨ n = 6 := by omega
  have hm : m = 1 ∨ m = 2 ∨ m = 3 ∨ m = 4 ∨ m = 5 ∨ m = 6 := by omega
  rcases hn with rfl | rfl | rfl | rfl | rfl | rfl
  · rcases hm with rfl | rfl | rfl | rfl | rfl | rfl
    · exact ⟨_, a11, b11, a11, by decide, by decide, by decide, by decide⟩
    · exact ⟨_, a12, b12, a21, by decide, by decide, by decide, by decide⟩
    · exact ⟨_, a13, b13, a31, by decide, by decide, by decide, by decide⟩
    · exact ⟨_, a14, b14, a41, by decide, by decide, by decide, by decide⟩
    · exact ⟨_, a15, b15, a51, by decide, by decide, by decide, by decide⟩
    · exact ⟨_, a16, b16, a61, by decide, by decide, by decide, by decide⟩
  · rcases hm with rfl | rfl | rfl | rfl | rfl | rfl
    · exact ⟨_, a21, b21, a12, by decide, by decide, by decide, by decide⟩
    · exact ⟨_, a22, b22, a22, by decide, by decide, by decide, by decide⟩
    · exact ⟨_, a23, b23, a32, by decide, by decide, by decide, by decide⟩
    · exact ⟨_, a24, b24, a42, by decide, by decide, by decide, by decide⟩
    · omega
    · omega
  · rcases hm with rfl | rfl | rfl | rfl | rfl | rfl
    · exact ⟨_, a31, b31, a13, by decide, by decide, by decide, by decide⟩
    · exact ⟨_, a32, b32, a23, by decide, by decide, by decide, by decide⟩
    · exact ⟨_, a33, b33, a33, by decide, by decide, by decide, by decide⟩
    · omega
    · omega
    · omega
  · rcases hm with rfl | rfl | rfl | rfl | rfl | rfl
    · exact ⟨_, a41, b41, a14, by decide, by decide, by decide, by decide⟩
    · exact ⟨_, a42, b42, a24, by decide, by decide, by decide, by decide⟩
    · omega
    · omega
    · omega
    · omega
  · rcases hm with rfl | rfl | rfl | rfl | rfl | rfl
    · exact ⟨_, a51, b51, a15, by decide, by decide, by decide, by decide⟩
    · omega
    · omega
    · omega
    · omega
    · omega
  · rcases hm with rfl | rfl | rfl | rfl | rfl | rfl
    · exact ⟨_, a61, b61, a16, by decide, by decide, by decide, by decide⟩
    · omega
    · omega
    · omega
    · omega
    · omega
end Go.Proofs.Ytjbjpkphepfldaa.S

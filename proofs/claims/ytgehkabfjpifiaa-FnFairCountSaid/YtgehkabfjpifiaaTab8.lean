/- A row of eight numbers in one block of memory: what it holds, and what stays beside it. -/
import Derived.Test.YtgehkabfjpifiaaProg
import Derived.Test.YtgehkabfjpifiaaWWords
namespace Go.Proofs.Ytgehkabfjpifiaa.S
open Go.RowKit Go.Proofs.YtgehkabfjpifiaaW.PrintWords
set_option linter.unusedVariables false
set_option linter.unusedSimpArgs false

/-- Block T of wr holds the 8 numbers of tb; every other block is as in w0. -/
structure Tab (w0 wr : World) (T : Nat) (tb : Nat → Int) : Prop where
  blk : ∃ cs : Array Value, wr.heap[T]? = some (.cells cs 30 (0, 0)) ∧ ∀ j, j < 8 → cs[j]? = some (.int .i64 (tb j))
  other : ∀ k, k ≠ T → wr.heap[k]? = w0.heap[k]?
  size : wr.heap.size = w0.heap.size
  os : wr.os = w0.os
  tape : wr.tape = w0.tape
  output : wr.output = w0.output

theorem Tab.cell {w0 wr : World} {T : Nat} {tb : Nat → Int} (h : Tab w0 wr T tb) (j : Nat) (hj : j < 8) : wr.cell? ⟨T, j, none⟩ = some (.int .i64 (tb j)) := by
  obtain ⟨cs, hb, hc⟩ := h.blk
  rw [blk_cell hb]
  exact hc j hj

theorem Tab.frozen {w0 wr : World} {T : Nat} {tb : Nat → Int} (h : Tab w0 wr T tb) (j : Nat) : wr.frozen? ⟨T, j, none⟩ = false := by
  obtain ⟨cs, hb, hc⟩ := h.blk
  exact blk_frozen hb j

theorem Tab.set {w0 wr : World} {T : Nat} {tb : Nat → Int} (h : Tab w0 wr T tb) (j : Nat) (hj : j < 8) (v : Int) :
    Tab w0 (wr.setCell ⟨T, j, none⟩ (.int .i64 v)) T (fun i => if i = j then v else tb i) := by
  obtain ⟨cs, hb, hc⟩ := h.blk
  refine ⟨⟨cs.setIfInBounds j (.int .i64 v), blk_set hb j _, fun i hi => ?_⟩, fun k hk => (Below.heap_setCell wr _ _ k hk).trans (h.other k hk), by rw [World.size_setCell]; exact h.size, h.os, h.tape, h.output⟩
  by_cases e : i = j
  · subst e
    have hs : i < cs.size := by
      have := hc i hi
      exact (Array.getElem?_eq_some_iff.1 this).1
    rw [Array.getElem?_setIfInBounds_self_of_lt hs, if_pos rfl]
  · rw [Array.getElem?_setIfInBounds_ne (fun x => e x.symm), if_neg e]
    exact hc i hi

theorem Tab.drewN {w0 wr : World} {T : Nat} {tb : Nat → Int} (h : Tab w0 wr T tb) (n : Nat) : Tab w0 (wr.drewN n) T tb := ⟨h.blk, h.other, h.size, h.os, h.tape, h.output⟩
theorem Tab.drew {w0 wr : World} {T : Nat} {tb : Nat → Int} (h : Tab w0 wr T tb) : Tab w0 wr.drew T tb := ⟨h.blk, h.other, h.size, h.os, h.tape, h.output⟩

theorem Tab.below {w0 W : World} {T B : Nat} {tb : Nat → Int} (h : Tab w0 W T tb) (hT : B ≤ T) : Below B w0 W :=
  ⟨h.os, h.tape, h.output, by rw [h.size]; exact Nat.le_refl _, fun k hk => h.other k (by omega)⟩
end Go.Proofs.Ytgehkabfjpifiaa.S

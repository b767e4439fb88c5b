/- A table of 13 by 13 numbers in one block of memory: what it holds, and what stays beside it. -/
import Derived.Test.YtjbijfdiojhmcaaProg
import Derived.Test.YtjbijfdiojhmcaaWWords
namespace Go.Proofs.Ytjbijfdiojhmcaa.S
open Go.RowKit Go.Proofs.YtjbijfdiojhmcaaW.PrintWords
set_option linter.unusedVariables false
set_option linter.unusedSimpArgs false

/-- Block T of wr holds the 169 numbers of tb; every other block is as in w0. -/
structure Tab (w0 wr : World) (T : Nat) (tb : Nat → Int) : Prop where
  blk : ∃ cs : Array Value, wr.heap[T]? = some (.cells cs 48 (0, 0)) ∧ ∀ j, j < 169 → cs[j]? = some (.int .i64 (tb j))
  other : ∀ k, k ≠ T → wr.heap[k]? = w0.heap[k]?
  size : wr.heap.size = w0.heap.size
  os : wr.os = w0.os
  tape : wr.tape = w0.tape
  output : wr.output = w0.output

theorem Tab.cell {w0 wr : World} {T : Nat} {tb : Nat → Int} (h : Tab w0 wr T tb) (j : Nat) (hj : j < 169) : wr.cell? ⟨T, j, none⟩ = some (.int .i64 (tb j)) := by
  obtain ⟨cs, hb, hc⟩ := h.blk
  rw [blk_cell hb]
  exact hc j hj

theorem Tab.frozen {w0 wr : World} {T : Nat} {tb : Nat → Int} (h : Tab w0 wr T tb) (j : Nat) : wr.frozen? ⟨T, j, none⟩ = false := by
  obtain ⟨cs, hb, hc⟩ := h.blk
  exact blk_frozen hb j

theorem Tab.set {w0 wr : World} {T : Nat} {tb : Nat → Int} (h : Tab w0 wr T tb) (j : Nat) (hj : j < 169) (v : Int) :
    Tab w0 (wr.setCell ⟨T, j, none⟩ (.int .i64 v)) T (fun i => if i = j then v else tb i) := by
  obtain ⟨cs, hb, hc⟩ := h.blk
  refine ⟨⟨cs.setIfInBounds j (.int .i64 v), blk_set hb j _, fun i hi => ?_⟩, fun k hk => (Below.heap_setCell wr _ _ k hk).trans (h.other k hk), by rw [World.size_setCell]; exact h.size, h.os, h.tape, h.output⟩
  by_cases e : i = j
  · subst e
    have hs : i < cs.size := by
      have := hc i hi
      exact (Array.getElem?_eq_some_iff.1 this).1
    rw [Array.getElem?_setIfInBounds_self_of_lt hs, if_pos rfl]
  · rw [Array.getElem?_setIfInBounds_ne (fun x => e x.symm), if_neg e]
    exact hc i hi

theorem Tab.drewN {w0 wr : World} {T : Nat} {tb : Nat → Int} (h : Tab w0 wr T tb) (n : Nat) : Tab w0 (wr.drewN n) T tb := ⟨h.blk, h.other, h.size, h.os, h.tape, h.output⟩
theorem Tab.drew {w0 wr : World} {T : Nat} {tb : Nat → Int} (h : Tab w0 wr T tb) : Tab w0 wr.drew T tb := ⟨h.blk, h.other, h.size, h.os, h.tape, h.output⟩

/-! ### What a table is filled with -/
/-- Behind k cuts of the width. -/
def cutW (be : Int → Int → Int) (V : Nat → Nat → Int) (x y : Nat) (o : Int) : Nat → Int
  | 0 => o
  | k + 1 => be (cutW be V x y o k) (V (k + 1) y + V (x - (k + 1)) y)
/-- Behind k cuts of the height. -/
def cutH (be : Int → Int → Int) (V : Nat → Nat → Int) (x y : Nat) (o : Int) : Nat → Int
  | 0 => o
  | k + 1 => be (cutH be V x y o k) (V x (k + 1) + V x (y - (k + 1)))

theorem cutW_step (be : Int → Int → Int) (V : Nat → Nat → Int) (x y : Nat) (o : Int) (k : Nat) (hk : 1 ≤ k) : cutW be V x y o (k + 1 - 1) = be (cutW be V x y o (k - 1)) (V k y + V (x - k) y) := by
  obtain ⟨m, rfl⟩ : ∃ m, k = m + 1 := ⟨k - 1, by omega⟩
  rfl
theorem cutH_step (be : Int → Int → Int) (V : Nat → Nat → Int) (x y : Nat) (o : Int) (k : Nat) (hk : 1 ≤ k) : cutH be V x y o (k + 1 - 1) = be (cutH be V x y o (k - 1)) (V x k + V x (y - k)) := by
  obtain ⟨m, rfl⟩ : ∃ m, k = m + 1 := ⟨k - 1, by omega⟩
  rfl

/-- V is what the table is filled with, by what a sheet is worth alone and which of two answers is better. -/
def Fills (al be : Int → Int → Int) (V : Nat → Nat → Int) : Prop :=
  ∀ x y : Nat, 1 ≤ x → x ≤ 12 → 1 ≤ y → y ≤ 12 → V x y = cutH be V x y (cutW be V x y (al x y) (x - 1)) (y - 1)

end Go.Proofs.Ytjbijfdiojhmcaa.S

/- everyPlan: set. -/
import Derived.Test.YtjbjpkphepfldaaFillA
namespace Go.Proofs.Ytjbjpkphepfldaa.S
open Go.RowKit Go.Proofs.YtjbjpkphepfldaaW.PrintWords Go.Proofs.YtjbjpkphepfldaaW.PrintMore
set_option linter.unusedVariables false
set_option linter.unusedSimpArgs false

theorem set_self {α : Type} {l : List α} {i : Nat} {d : α} (hi : i < l.length) : l.set i (l.getD i d) = l := by
  apply List.ext_getElem?
  intro j
  by_cases e : j = i
  · subst e
    rw [List.getElem?_set_self hi, List.getD_eq_getElem?_getD, List.getElem?_eq_getElem hi]
    rfl
  · rw [List.getElem?_set_ne (fun x => e x.symm)]
theorem grid_step {g : List (List Int)} {X Y col : Nat} {v : Int} (hX : X < g.length) (hY : col ≤ Y) :
    (g.set X (putRow v col (Y - col) (g.getD X []))).set X (((g.set X (putRow v col (Y - col) (g.getD X []))).getD X []).set Y v) = g.set X (putRow v col (Y + 1 - col) (g.getD X [])) := by
  have e : (g.set X (putRow v col (Y - col) (g.getD X []))).getD X [] = putRow v col (Y - col) (g.getD X []) := by
    rw [List.getD_eq_getElem?_getD (l := g.set X _), List.getElem?_set_self hX]
    rfl
  rw [e, List.set_set, show Y + 1 - col = (Y - col) + 1 by omega]
  simp only [putRow]
  rw [show col + (Y - col) = Y by omega]

set_option maxRecDepth 100000 in
set_option maxHeartbeats 8000000 in
theorem set_calls {base o H Wd : Nat} {b : Nat → Nat} {g : List (List Int)} {W : World} (h : GM base o H Wd b g W) (bc : Nat) (hb : W.heap[bc]? = some (.cells #[.slice (some ⟨o, 0, none⟩) H H] 49 (0, 0))) (hbc : ∀ i, i < H → b i ≠ bc) (v : Int) (row col hh ww : Nat) (h1 : row + hh ≤ H) (h2 : col + ww ≤ Wd) (hH : H ≤ 1000) (hW : Wd ≤ 1000) :
    Calls Try.prog 39 #[.agg #[.int .i64 (row : Nat), .int .i64 (col : Nat), .int .i64 (hh : Nat), .int .i64 (ww : Nat)], .int .i64 v, .pointer (some ⟨bc, 0, none⟩)] W fun e w' => (∃ u, e = .returned u) ∧ GM base o H Wd b (putG v row col ww hh g) w' ∧ KeepS (fun k => ∃ i, i < H ∧ k = b i) W w' := by
  obtain ⟨E, hE⟩ : ∃ E, E = row + hh := ⟨_, rfl⟩
  obtain ⟨F, hF⟩ : ∃ F, F = col + ww := ⟨_, rfl⟩
  have e1 : IntKind.i64.wrap ((row : Int) + (hh : Int)) = (E : Int) := by rw [IntWalk.i64_in _ (by omega)]; omega
  have e2 : IntKind.i64.wrap ((col : Int) + (ww : Int)) = (F : Int) := by rw [IntWalk.i64_in _ (by omega)]; omega
  have hEH : E ≤ H := by omega
  have hFW : F ≤ Wd := by omega
  have hgl := h.len
  have hlt := blk_lt h.out
  have hlb : ∀ i, i < H → b i < W.heap.size := fun i hi => h.lt hi
  have HG := Lib.hid (h.below (below_alloc (Below.refl _ _) (Obj.cells #[.int .i64 (row : Nat), .int .i64 (col : Nat), .int .i64 (hh : Nat), .int .i64 (ww : Nat)] 68)))
  have HK : Hid (KeepS (fun k => ∃ i, i < H ∧ k = b i) W (W.alloc (Obj.cells #[.int .i64 (row : Nat), .int .i64 (col : Nat), .int .i64 (hh : Nat), .int .i64 (ww : Nat)] 68))) := Lib.hid (KeepS.alloc _ _ _)
  have HB : Hid ((W.alloc (Obj.cells #[.int .i64 (row : Nat), .int .i64 (col : Nat), .int .i64 (hh : Nat), .int .i64 (ww : Nat)] 68)).heap[W.heap.size]? = some (.cells #[.int .i64 (row : Nat), .int .i64 (col : Nat), .int .i64 (hh : Nat), .int .i64 (ww : Nat)] 68 (0, 0))) := Lib.hid (new_at _ _)
  have HBC := Lib.hid hb
  have HNE := Lib.hid hbc
  have HLB := Lib.hid hlb
  have HGL := Lib.hid hgl
  have HHE := Lib.hid hE
  have HHF := Lib.hid hF
  clear h hb hbc hlb hlt hgl hE hF
  go_enter Try.func39, Try.ntmps39
  go_wp2_with fail
  generalize W.alloc (Obj.cells #[.int .i64 (row : Nat), .int .i64 (col : Nat), .int .i64 (hh : Nat), .int .i64 (ww : Nat)] 68) = W1 at *
  have x0 : W1.cell? ⟨W.heap.size, 0, none⟩ = some (.int .i64 (row : Nat)) := (blk_cell HB.out 0).trans rfl
  go_wp2_with fail
  clear x0
  go_loopw [5] (fun kv wr => ∃ (X : Nat) (wl : World), wl = wr ∧ row ≤ X ∧ X ≤ E ∧ kv = .int .i64 (X : Nat) ∧ Hid (GM base o H Wd b (putG v row col ww (X - row) g) wl) ∧ Hid (KeepS (fun k => ∃ i, i < H ∧ k = b i) W wl) ∧ Hid (wl.heap[W.heap.size]? = some (.cells #[.int .i64 (row : Nat), .int .i64 (col : Nat), .int .i64 (hh : Nat), .int .i64 (ww : Nat)] 68 (0, 0)))) (fun kv _ => E + 1 - (Go.RowKit.intOf kv).toNat)
  case atStart => exact ⟨row, W1, rfl, Nat.le_refl _, by have := HHE.out; omega, rfl, by rw [Nat.sub_self]; exact HG, HK, HB⟩
  case round =>
    obtain ⟨X, wl, rfl, hX1, hX2, rfl, HGX, HKX, HBX⟩ := hrel
    clear HG HK HB
    have x0 : wl.cell? ⟨W.heap.size, 0, none⟩ = some (.int .i64 (row : Nat)) := (blk_cell HBX.out 0).trans rfl
    have x2 : wl.cell? ⟨W.heap.size, 2, none⟩ = some (.int .i64 (hh : Nat)) := (blk_cell HBX.out 2).trans rfl
    have x1 : wl.cell? ⟨W.heap.size, 1, none⟩ = some (.int .i64 (col : Nat)) := (blk_cell HBX.out 1).trans rfl
    by_cases hlt : X < E
    · have q1 : (X : Int) < (E : Int) := by omega
      have HLT := Lib.hid hlt
      have hXH : X < H := by omega
      go_wp2_with fail
      have HGY : Hid (GM base o H Wd b ((putG v row col ww (X - row) g).set X (putRow v col (col - col) ((putG v row col ww (X - row) g).getD X []))) wl) := by
        rw [Nat.sub_self, show putRow v col 0 ((putG v row col ww (X - row) g).getD X []) = (putG v row col ww (X - row) g).getD X [] from rfl, set_self (by rw [putG_len]; have := HGL.out; omega)]
        exact HGX
      clear x0 x1 x2 hlt
      go_loopw [6] (fun kv wr => ∃ (Y : Nat) (wx : World), wx = wr ∧ col ≤ Y ∧ Y ≤ F ∧ kv = .int .i64 (Y : Nat) ∧ Hid (GM base o H Wd b ((putG v row col ww (X - row) g).set X (putRow v col (Y - col) ((putG v row col ww (X - row) g).getD X []))) wx) ∧ Hid (KeepS (fun k => ∃ i, i < H ∧ k = b i) W wx) ∧ Hid (wx.heap[W.heap.size]? = some (.cells #[.int .i64 (row : Nat), .int .i64 (col : Nat), .int .i64 (hh : Nat), .int .i64 (ww : Nat)] 68 (0, 0)))) (fun kv _ => F + 1 - (Go.RowKit.intOf kv).toNat)
      case atStart => exact ⟨col, wl, rfl, Nat.le_refl _, by have := HHF.out; omega, rfl, HGY, HKX, HBX⟩
      case round =>
        obtain ⟨Y, wx, rfl, hY1, hY2, rfl, HGZ, HKZ, HBZ⟩ := hrel
        clear HGY HGX HKX HBX
        have x1 : wx.cell? ⟨W.heap.size, 1, none⟩ = some (.int .i64 (col : Nat)) := (blk_cell HBZ.out 1).trans rfl
        have x3 : wx.cell? ⟨W.heap.size, 3, none⟩ = some (.int .i64 (ww : Nat)) := (blk_cell HBZ.out 3).trans rfl
        by_cases hlt : Y < F
        · have q2 : (Y : Int) < (F : Int) := by omega
          have hYW : Y < Wd := by omega
          have q3 : (0 : Int) ≤ (X : Int) := by omega
          have q4 : (X : Int) < (H : Int) := by omega
          have q5 : (0 : Int) ≤ (Y : Int) := by omega
          have q6 : (Y : Int) < (Wd : Int) := by omega
          have y1 : wx.cell? ⟨bc, 0, none⟩ = some (.slice (some ⟨o, 0, none⟩) H H) := (blk_cell (HKZ.out.heap HBC.out (fun ⟨i, hi, e⟩ => HNE.out i hi e.symm)) 0).trans rfl
          have y2 := HGZ.out.outAt hXH
          have y3 := HGZ.out.free (c := Y) hXH
          have y4 := HGZ.out.cellAt hXH hYW
          generalize gat _ X Y = old at y4
          have HST : Hid (GM base o H Wd b ((putG v row col ww (X - row) g).set X (putRow v col (Y + 1 - col) ((putG v row col ww (X - row) g).getD X []))) (wx.setCell ⟨b X, Y, none⟩ (.int .i64 v))) := by
            have := HGZ.out.put hXH hYW v
            rw [grid_step (by rw [putG_len]; have := HGL.out; omega) hY1] at this
            exact this
          have HKT : Hid (KeepS (fun k => ∃ i, i < H ∧ k = b i) W (wx.setCell ⟨b X, Y, none⟩ (.int .i64 v))) := Lib.hid (HKZ.out.trans (KeepS.setCell wx ⟨b X, Y, none⟩ _ (.inl ⟨X, hXH, rfl⟩)))
          have HBT : Hid ((wx.setCell ⟨b X, Y, none⟩ (.int .i64 v)).heap[W.heap.size]? = some (.cells #[.int .i64 (row : Nat), .int .i64 (col : Nat), .int .i64 (hh : Nat), .int .i64 (ww : Nat)] 68 (0, 0))) := Lib.hid ((Below.heap_setCell wx ⟨b X, Y, none⟩ _ W.heap.size (by have := HLB.out X hXH; simp only; omega)).trans HBZ.out)
          clear HGZ HKZ HBZ
          have HLY := Lib.hid hlt
          clear hlt
          go_wp2_with fail
          go_roundw
          case rel => exact ⟨Y + 1, _, rfl, by omega, HLY.out, by push_cast; rfl, HST, HKT, HBT⟩
          case measure => simp [intOf]; have := HLY.out; omega
        · obtain rfl : Y = F := by omega
          have HGN : Hid (GM base o H Wd b (putG v row col ww (X + 1 - row) g) wx) := by
            have e : putG v row col ww (X + 1 - row) g = (putG v row col ww (X - row) g).set X (putRow v col (Y - col) ((putG v row col ww (X - row) g).getD X [])) := by
              rw [show X + 1 - row = (X - row) + 1 by omega]
              simp only [putG]
              rw [show row + (X - row) = X by omega, show Y - col = ww by have := HHF.out; omega]
            rw [e]
            exact HGZ
          clear HGZ
          go_wp2_with fail
          go_roundw
          case rel => exact ⟨X + 1, wx, rfl, by omega, HLT.out, by push_cast; rfl, HGN, HKZ, HBZ⟩
          case measure => simp [intOf]; have := HLT.out; omega
    · obtain rfl : X = E := by omega
      have HGN : Hid (GM base o H Wd b (putG v row col ww hh g) wl) := by
        rw [show hh = X - row by have := HHE.out; omega]
        exact HGX
      clear HGX
      go_wp2
      go_end0
      exact ⟨⟨_, rfl⟩, HGN.out, HKX.out⟩
end Go.Proofs.Ytjbjpkphepfldaa.S

/- A cell is told: the walk, where its number has been seen. -/
import Derived.Test.YtjbjpkphepfldaaOne
namespace Go.Proofs.Ytjbjpkphepfldaa.S
open Go.RowKit Go.Maps Go.Proofs.YtjbjpkphepfldaaW.PrintWords Go.Proofs.YtjbjpkphepfldaaW.PrintMore
attribute [local go_sem] max2_int min2_int max_two min_two   -- for this text's walks alone
set_option linter.unusedVariables false
set_option linter.unusedSimpArgs false

/-- The cell of a grid, laid for a walk. -/
structure At (W : World) (cv : Value) (r c : Nat) (x : Int) (o g n co m cg : Nat) : Prop where
  hcv : cv = .slice (some ⟨o, 0, none⟩) n co
  hr : r < n
  row : W.cell? ⟨o, r, none⟩ = some (.slice (some ⟨g, 0, none⟩) m cg)
  hc : c < m
  cell : W.cell? ⟨g, c, none⟩ = some (.int .i64 x)

theorem st_store {K : Cx} {W W2 w1 : World} {cvF : Value} {gr cap : Nat} {D : DataW Unit} {ord : List Int} {rooms : List Rc} {k : Nat} {q : Rc}
    (KP : KeepS (Tn K (.slice (some ⟨gr, 0, none⟩) rooms.length cap)) W W2) (hb : Below W2.heap.size W2 w1) (row : w1.ownsRow K.base 68 4 (.slice (some ⟨gr, 0, none⟩) rooms.length cap) rooms.length (flat rooms))
    (map : W2.ownsMap Try.prog 3 (plainElem Try.prog 3) K.mb ord.length D) (fb : W2.heap[K.fb]? = some (.cells #[cvF, .slice (some ⟨gr, 0, none⟩) rooms.length cap] 52 (0, 0)))
    (idx : IdxOk D ord) (len : rooms.length = ord.length) (ok : ∀ x ∈ rooms, x.ok) (hq : q.ok) (hk : k < rooms.length) (hL : Lo K) (hin : K.base ≤ gr) :
    St K ((((w1.setCell ⟨gr, k * 4, none⟩ (.int .i64 q.r)).setCell ⟨gr, k * 4 + 1, none⟩ (.int .i64 q.c)).setCell ⟨gr, k * 4 + 2, none⟩ (.int .i64 q.h)).setCell ⟨gr, k * 4 + 3, none⟩ (.int .i64 q.w)) cvF (.slice (some ⟨gr, 0, none⟩) rooms.length cap) D ord (rooms.set k q) ∧
    KeepS (Tn K (.slice (some ⟨gr, 0, none⟩) rooms.length cap)) W ((((w1.setCell ⟨gr, k * 4, none⟩ (.int .i64 q.r)).setCell ⟨gr, k * 4 + 1, none⟩ (.int .i64 q.c)).setCell ⟨gr, k * 4 + 2, none⟩ (.int .i64 q.h)).setCell ⟨gr, k * 4 + 3, none⟩ (.int .i64 q.w)) := by
  have hT : ∀ i, gr = i → Tn K (.slice (some ⟨gr, 0, none⟩) rooms.length cap) i := fun i e => .inr (.inr (by rw [e]; rfl))
  have k1 : KeepS (fun i => i = gr) w1 ((((w1.setCell ⟨gr, k * 4, none⟩ (.int .i64 q.r)).setCell ⟨gr, k * 4 + 1, none⟩ (.int .i64 q.c)).setCell ⟨gr, k * 4 + 2, none⟩ (.int .i64 q.h)).setCell ⟨gr, k * 4 + 3, none⟩ (.int .i64 q.w)) :=
    (((KeepS.setCell (S := fun i => i = gr) w1 ⟨gr, k * 4, none⟩ _ (.inl rfl)).trans (KeepS.setCell (S := fun i => i = gr) _ ⟨gr, k * 4 + 1, none⟩ _ (.inl rfl))).trans (KeepS.setCell (S := fun i => i = gr) _ ⟨gr, k * 4 + 2, none⟩ _ (.inl rfl))).trans (KeepS.setCell (S := fun i => i = gr) _ ⟨gr, k * 4 + 3, none⟩ _ (.inl rfl))
  have k2 : KeepS (fun i => i = gr) W2 ((((w1.setCell ⟨gr, k * 4, none⟩ (.int .i64 q.r)).setCell ⟨gr, k * 4 + 1, none⟩ (.int .i64 q.c)).setCell ⟨gr, k * 4 + 2, none⟩ (.int .i64 q.h)).setCell ⟨gr, k * 4 + 3, none⟩ (.int .i64 q.w)) := (KeepS.of_below _ hb).trans k1
  have r4 := ((((row.stored (k * 4) (.int .i64 q.r)).1.stored (k * 4 + 1) (.int .i64 q.c)).1.stored (k * 4 + 2) (.int .i64 q.h)).1.stored (k * 4 + 3) (.int .i64 q.w)).1
  rw [flat_set rooms k hk q] at r4
  refine ⟨⟨k2.heap fb (fun e => by have := hL.fb.1; omega), idx, ?_, by rw [List.length_set]; exact r4, by rw [List.length_set]; exact len, fun x hx => ?_⟩, KP.trans (k2.mono fun i _ e => hT i e.symm)⟩
  · exact map.kept (row := some gr) ⟨k2.os, k2.tape, k2.output, k2.size, fun i hi hn => k2.same i hi (fun e => hn (by rw [e]))⟩ (by have := hL.mb; intro e; injection e with e; omega)
  · rcases List.mem_or_eq_of_mem_set hx with h | h
    · exact ok x h
    · rw [h]; exact hq

set_option maxRecDepth 100000 in
set_option maxHeartbeats 8000000 in
theorem cell_old (K : Cx) (W : World) (hF : Fix K W) (hL : Lo K) (cvF rv : Value) (D : DataW Unit) (ord : List Int) (rooms : List Rc) (hS : St K W cvF rv D ord rooms)
    (r c : Nat) (hr : r ≤ 100) (hc : c ≤ 100) (x : Int) (hx : (Lit.int .i64 x).wf = true) (o g n co m cg : Nat) (hA : At W K.cv r c x o g n co m cg) (ho : o ≠ K.fb ∧ o ≠ K.mb) (hmem : x ∈ ord) (hlen : ord.length ≤ 1000) :
    Calls Try.prog 52 #[.int .i64 (r : Nat), .int .i64 (c : Nat), .pointer (some ⟨K.mp, 0, none⟩), .pointer (some ⟨K.cb, 0, none⟩), .pointer (some ⟨K.fp, 0, none⟩)] W
      fun e w' => e = .returned (.int .i64 (pos x ord : Nat)) ∧ St K w' cvF rv D ord (rooms.set (pos x ord) ((rooms.getD (pos x ord) ⟨0, 0, 0, 0⟩).both ⟨r, c, 1, 1⟩)) ∧ KeepS (Tn K rv) W w' := by
  have hk : pos x ord < rooms.length := by rw [hS.len]; exact pos_lt hmem
  have hlk : ∀ n, (Instr.lookup 80 (.map (some K.mb)) (.int .i64 x) true).run Try.prog (W.drewN n) = .ok (.tuple #[.int .i64 (pos x ord : Nat), .bool true]) (W.drewN n) := fun n => look_has (W := W.drewN n) hS.idx hS.map hx hmem
  have hk2 : rooms.length ≤ 1000 := by rw [hS.len]; exact hlen
  obtain ⟨fb, idx, map, row, len, ok⟩ := hS
  obtain ⟨fmp, fcb, ffp⟩ := hF
  have f1 : W.cell? ⟨K.mp, 0, none⟩ = some (.map (some K.mb)) := (blk_cell fmp 0).trans rfl
  have f2 : W.cell? ⟨K.cb, 0, none⟩ = some K.cv := (blk_cell fcb 0).trans rfl
  have f3 : W.cell? ⟨K.fp, 0, none⟩ = some (.pointer (some ⟨K.fb, 0, none⟩)) := (blk_cell ffp 0).trans rfl
  have f4 : W.cell? ⟨K.fb, 1, none⟩ = some rv := (blk_cell fb 1).trans rfl
  obtain ⟨hcv, hr2, hrow, hc2, hcell⟩ := hA
  obtain ⟨gr, cap, rfl⟩ : ∃ gr cap, rv = .slice (some ⟨gr, 0, none⟩) rooms.length cap := by
    obtain ⟨_, ⟨_, e⟩ | ⟨g', cap', cur, e, _⟩⟩ := row
    · omega
    · exact ⟨g', cap', e⟩
  have hin := row.lt gr rfl
  obtain ⟨y, hy⟩ : ∃ y, rooms[pos x ord]? = some y := ⟨_, List.getElem?_eq_getElem hk⟩
  have hyd : rooms.getD (pos x ord) ⟨0, 0, 0, 0⟩ = y := by rw [List.getD_eq_getElem?_getD, hy]; rfl
  have hyo : y.ok := ok y (List.mem_of_getElem? hy)
  rw [hyd]
  have hc4 : ∀ j, j < 4 → W.cell? ⟨gr, pos x ord * 4 + j, none⟩ = y.cells[j]? := fun j hj => by
    rw [row.cellAt (pos x ord * 4 + j) (by omega)]
    exact flat_get rooms _ y j hy hj
  have c0 : W.cell? ⟨gr, pos x ord * 4, none⟩ = some (.int .i64 y.r) := hc4 0 (by omega)
  have c1 : W.cell? ⟨gr, pos x ord * 4 + 1, none⟩ = some (.int .i64 y.c) := hc4 1 (by omega)
  have c2 : W.cell? ⟨gr, pos x ord * 4 + 2, none⟩ = some (.int .i64 y.h) := hc4 2 (by omega)
  have c3 : W.cell? ⟨gr, pos x ord * 4 + 3, none⟩ = some (.int .i64 y.w) := hc4 3 (by omega)
  have HY := Lib.hid hyo
  have ROW := Lib.hid row
  have MAP := Lib.hid map
  have IDX := Lib.hid idx
  have FB := Lib.hid fb
  have LEN := Lib.hid len
  have OK := Lib.hid ok
  have HIN := Lib.hid hin
  have LO := Lib.hid hL
  have HK := Lib.hid hk
  rw [hcv] at f2
  clear fmp fcb ffp hc4 hyd hyo row map idx fb len ok hin hL hcv hx hmem hlen ho
  generalize pos x ord = k at *
  have b1 : (0 : Int) ≤ (k : Int) := Int.natCast_nonneg _
  have b2 : (k : Int) < (rooms.length : Int) := by omega
  have b3 : (0 : Int) ≤ (r : Int) := Int.natCast_nonneg _
  have b4 : (r : Int) < (n : Int) := by omega
  have b5 : (0 : Int) ≤ (c : Int) := Int.natCast_nonneg _
  have b6 : (c : Int) < (m : Int) := by omega
  have hro : Rc.ok ⟨(r : Int), (c : Int), 1, 1⟩ := by simp only [Rc.ok]; omega
  obtain ⟨q, hq⟩ : ∃ q, q = y.both ⟨(r : Int), (c : Int), 1, 1⟩ := ⟨_, rfl⟩
  have BC : Hid (∀ W', Calls Try.prog 53 #[.agg #[.int .i64 y.r, .int .i64 y.c, .int .i64 y.h, .int .i64 y.w], .agg #[.int .i64 (r : Int), .int .i64 (c : Int), .int .i64 1, .int .i64 1]] W' fun e w' => e = .returned (.agg #[.int .i64 q.r, .int .i64 q.c, .int .i64 q.h, .int .i64 q.w]) ∧ Below W'.heap.size W' w') := Lib.hid (by rw [hq]; exact both_calls y ⟨(r : Int), (c : Int), 1, 1⟩ HY.out hro)
  rw [← hq]
  have HQ := Lib.hid hq
  clear hq
  have HRO := Lib.hid hro
  clear hk hro
  go_enter Try.func52, Try.ntmps52
  go_wp2_with fail
  go_quiet (fail)
  generalize hW2 : World.drewN W _ = W2
  have hcc : ∀ a, W2.cell? a = W.cell? a := fun a => by rw [← hW2]; rfl
  have d2 := (hcc ⟨K.cb, 0, none⟩).trans f2
  have d3 := (hcc ⟨K.fp, 0, none⟩).trans f3
  have d4 := (hcc ⟨K.fb, 1, none⟩).trans f4
  have e0 := (hcc ⟨gr, k * 4, none⟩).trans c0
  have e1 := (hcc ⟨gr, k * 4 + 1, none⟩).trans c1
  have e2 := (hcc ⟨gr, k * 4 + 2, none⟩).trans c2
  have e3 := (hcc ⟨gr, k * 4 + 3, none⟩).trans c3
  have ROW2 := Lib.hid (show W2.ownsRow K.base 68 4 (.slice (some ⟨gr, 0, none⟩) rooms.length cap) rooms.length (flat rooms) by rw [← hW2]; exact ROW.out)
  have MAP2 := Lib.hid (show W2.ownsMap Try.prog 3 (plainElem Try.prog 3) K.mb ord.length D by rw [← hW2]; exact MAP.out)
  have FB2 := Lib.hid (show W2.heap[K.fb]? = some (.cells #[cvF, .slice (some ⟨gr, 0, none⟩) rooms.length cap] 52 (0, 0)) by rw [← hW2]; exact FB.out)
  have KP := Lib.hid (show KeepS (Tn K (.slice (some ⟨gr, 0, none⟩) rooms.length cap)) W W2 by rw [← hW2]; exact KeepS.drewN _ _ _)
  clear f1 f2 f3 f4 c0 c1 c2 c3 hlk ROW MAP FB hW2 hrow hcell hcc
  go_wp2_with fail
  go_region_with
    (go_at_call 53; refine (BC.out _).mono ?_; rintro e w1 ⟨rfl, hb1⟩; have hbw : Below W2.heap.size W2 w1 := below_step (below_drew1 (Below.refl _ _)) hb1; have m3 := (hbw.cell (World.block_lt_of_cell? W2 _ d3)).trans d3; have m4 := (hbw.cell (World.block_lt_of_cell? W2 _ d4)).trans d4; have n0 := (hbw.cell (World.block_lt_of_cell? W2 _ e0)).trans e0; have n1 := (hbw.cell (World.block_lt_of_cell? W2 _ e1)).trans e1; have n2 := (hbw.cell (World.block_lt_of_cell? W2 _ e2)).trans e2; have n3 := (hbw.cell (World.block_lt_of_cell? W2 _ e3)).trans e3; have hown1 := ROW2.out.kept (grown_of_below hbw none) (.inr (by simp [Value.ownBlock])); have z0 := hown1.frozenAt (k * 4); have z1 := hown1.frozenAt (k * 4 + 1); have z2 := hown1.frozenAt (k * 4 + 2); have z3 := hown1.frozenAt (k * 4 + 3); have HROW := Lib.hid hown1; clear hown1)
  all_goals
    have ST := Lib.hid (st_store KP.out hbw HROW.out MAP2.out FB2.out IDX.out LEN.out OK.out (q := q) (by rw [HQ.out]; exact Rc.both_ok HY.out HRO.out) HK.out LO.out HIN.out.1)
    clear hb1 hbw m3 m4 n0 n1 n2 n3 z0 z1 z2 z3 d2 d3 d4 e0 e1 e2 e3
    go_wp2
    go_ret
    exact ⟨rfl, ST.out⟩
end Go.Proofs.Ytjbjpkphepfldaa.S

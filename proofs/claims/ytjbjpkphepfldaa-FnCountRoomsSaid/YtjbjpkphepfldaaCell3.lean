/- A cell is told: the walk, where its number is new. -/
import Derived.Test.YtjbjpkphepfldaaCell2
namespace Go.Proofs.Ytjbjpkphepfldaa.S
open Go.RowKit Go.Maps Go.Proofs.YtjbjpkphepfldaaW.PrintWords Go.Proofs.YtjbjpkphepfldaaW.PrintMore
attribute [local go_sem] max2_int min2_int max_two min_two   -- for this text's walks alone
set_option linter.unusedVariables false
set_option linter.unusedSimpArgs false

theorem KeepS.trans' {S S' : Nat → Prop} {A B C : World} (h : KeepS S A B) (k : KeepS S' B C) (hs : ∀ i, S' i → S i ∨ A.heap.size ≤ i) : KeepS S A C :=
  ⟨Nat.le_trans h.size k.size, fun i hi hn => (k.same i (Nat.lt_of_lt_of_le hi h.size) (fun x => (hs i x).elim hn (fun y => by omega))).trans (h.same i hi hn), k.os.trans h.os, k.tape.trans h.tape, k.output.trans h.output⟩
theorem info49 : (Try.prog.info? 68).map (fun i => (i.zero, i.size, i.bytes)) = some (some (.agg #[.int .i64 0, .int .i64 0, .int .i64 0, .int .i64 0]), 4, 32) := by kernel_rfl
theorem flat_snoc (l : List Rc) (x : Rc) : flat (l ++ [x]) = flat l ++ x.cells := by simp [flat]

/-- Behind the append of a new room. -/
def Mid (K : Cx) (W : World) (cvF rv : Value) (D' : DataW Unit) (m : Nat) (rooms' : List Rc) (wc : World) : Prop :=
  ∃ g2 cap2, wc.heap[K.fb]? = some (.cells #[cvF, .slice (some ⟨g2, 0, none⟩) rooms'.length cap2] 52 (0, 0)) ∧ wc.ownsRow K.base 68 4 (.slice (some ⟨g2, 0, none⟩) rooms'.length cap2) rooms'.length (flat rooms') ∧
    wc.ownsMap Try.prog 3 (plainElem Try.prog 3) K.mb m D' ∧ KeepS (Tn K rv) W wc ∧ (rv.ownBlock = some g2 ∨ W.heap.size ≤ g2) ∧ wc.cell? ⟨K.fp, 0, none⟩ = some (.pointer (some ⟨K.fb, 0, none⟩))

theorem mid_of {K : Cx} {W w3 w5 : World} {cvF rv : Value} {D' : DataW Unit} {m : Nat} {rooms : List Rc} {r c : Int} {g2 cap2 : Nat} (lo : Lo K) (kp : KeepS (Tn K rv) W w3) (hsz : W.heap.size ≤ w3.heap.size) (hb : K.base ≤ w3.heap.size)
    (row : w3.ownsRow K.base 68 4 rv rooms.length (flat rooms)) (map : w3.ownsMap Try.prog 3 (plainElem Try.prog 3) K.mb m D') (g3 : w3.cell? ⟨K.fp, 0, none⟩ = some (.pointer (some ⟨K.fb, 0, none⟩)))
    (hfb : w5.heap[K.fb]? = some (.cells #[cvF, rv] 52 (0, 0)))
    (hown : w5.ownsRow K.base 68 4 (.slice (some ⟨g2, 0, none⟩) (rooms.length + 1) cap2) (rooms.length + 1) (flat rooms ++ [.int .i64 r, .int .i64 c, .int .i64 1, .int .i64 1]))
    (hg : (w3.alloc (Obj.cells #[.int .i64 r, .int .i64 c, .int .i64 1, .int .i64 1] 68)).drew.grownBy w5 rv.ownBlock) (hat : rv.ownBlock = some g2 ∨ g2 = w3.heap.size + 1) (hnf : some K.fb ≠ rv.ownBlock) :
    Mid K W cvF rv D' m (rooms ++ [⟨r, c, 1, 1⟩]) (w5.setCell ⟨K.fb, 1, none⟩ (.slice (some ⟨g2, 0, none⟩) (rooms.length + 1) cap2)) := by
  have hT : ∀ i, rv.ownBlock = some i → Tn K rv i := fun i e => .inr (.inr e)
  have ka : KeepS (Tn K rv) w3 w5 := ((KeepS.alloc _ w3 _).trans (KeepS.drew _ _)).trans (KeepS.grown' hg hT)
  have ks : KeepS (Tn K rv) w5 (w5.setCell ⟨K.fb, 1, none⟩ (.slice (some ⟨g2, 0, none⟩) (rooms.length + 1) cap2)) := KeepS.setCell _ _ _ (.inl (.inl rfl))
  have hgb : K.base ≤ g2 := (hown.lt g2 rfl).1
  have hlen : (rooms ++ [(⟨r, c, 1, 1⟩ : Rc)]).length = rooms.length + 1 := by simp
  have hnm : some K.mb ≠ rv.ownBlock := fun e => by have := (row.lt K.mb e.symm).1; have := lo.mb; omega
  refine ⟨g2, cap2, ?_, ?_, ?_, kp.trans (ka.trans ks), hat.imp id (fun e => by omega), ?_⟩
  · rw [hlen]
    exact blk_put hfb 1 _ rfl
  · rw [hlen, flat_snoc]
    exact hown.kept (row := some K.fb) ⟨rfl, rfl, rfl, by simp, fun i hi hn => Below.heap_setCell _ _ _ i (fun e => hn (by rw [e]))⟩ (.inr (fun e => by have e2 : g2 = K.fb := Option.some.inj e; have := lo.fb.1; omega))
  · have m5 : w5.ownsMap Try.prog 3 (plainElem Try.prog 3) K.mb m D' := ((map.alloc _).drew).kept hg hnm
    exact m5.kept (row := some K.fb) ⟨rfl, rfl, rfl, by simp, fun i hi hn => Below.heap_setCell _ _ _ i (fun e => hn (by rw [e]))⟩ (fun e => by injection e with e; exact lo.fb.2 e.symm)
  · have hl := World.block_lt_of_cell? w3 _ g3
    refine (ka.trans ks).cell g3 (fun e => ?_)
    rcases e with e | e | e
    · exact lo.fp.2.2 e
    · exact lo.fp.2.1 e
    · have := (row.lt _ e).1
      have := lo.fp.1
      simp only at *
      omega

set_option maxRecDepth 100000 in
set_option maxHeartbeats 8000000 in
theorem cell_new (K : Cx) (W : World) (hF : Fix K W) (hL : Lo K) (cvF rv : Value) (D : DataW Unit) (ord : List Int) (rooms : List Rc) (hS : St K W cvF rv D ord rooms) (hbase : K.base ≤ W.heap.size)
    (r c : Nat) (hr : r ≤ 100) (hc : c ≤ 100) (x : Int) (hx : (Lit.int .i64 x).wf = true) (o g n co m cg : Nat) (hA : At W K.cv r c x o g n co m cg) (ho : o < K.base ∧ o ≠ K.fb ∧ o ≠ K.mb) (hg : g < K.base ∧ g ≠ K.fb ∧ g ≠ K.mb) (hmem : x ∉ ord) (hlen : ord.length ≤ 1000) :
    Calls Try.prog 52 #[.int .i64 (r : Nat), .int .i64 (c : Nat), .pointer (some ⟨K.mp, 0, none⟩), .pointer (some ⟨K.cb, 0, none⟩), .pointer (some ⟨K.fp, 0, none⟩)] W
      fun e w' => ∃ rv' D', e = .returned (.int .i64 (ord.length : Nat)) ∧ St K w' cvF rv' D' (ord ++ [x]) (rooms ++ [Rc.both ⟨r, c, 1, 1⟩ ⟨r, c, 1, 1⟩]) ∧ KeepS (Tn K rv) W w' ∧ (∀ k, rv'.ownBlock = some k → rv.ownBlock = some k ∨ W.heap.size ≤ k) := by
  have hlk : ∀ n, (Instr.lookup 80 (.map (some K.mb)) (.int .i64 x) true).run Try.prog (W.drewN n) = .ok (.tuple #[.int .i64 0, .bool false]) (W.drewN n) := fun n => look_new (W := W.drewN n) hS.idx hS.map hx hmem
  have hk2 : rooms.length ≤ 1000 := by rw [hS.len]; exact hlen
  obtain ⟨i0, hi0, hz0, hz1, hz2⟩ := info_parts info49
  obtain ⟨fb, idx, map, row, len, ok⟩ := hS
  obtain ⟨fmp, fcb, ffp⟩ := hF
  have f1 : W.cell? ⟨K.mp, 0, none⟩ = some (.map (some K.mb)) := (blk_cell fmp 0).trans rfl
  have f2 : W.cell? ⟨K.cb, 0, none⟩ = some K.cv := (blk_cell fcb 0).trans rfl
  have f3 : W.cell? ⟨K.fp, 0, none⟩ = some (.pointer (some ⟨K.fb, 0, none⟩)) := (blk_cell ffp 0).trans rfl
  have f4 : W.cell? ⟨K.fb, 1, none⟩ = some rv := (blk_cell fb 1).trans rfl
  obtain ⟨hcv, hr2, hrow, hc2, hcell⟩ := hA
  have ROW := Lib.hid row
  have MAP := Lib.hid map
  have IDX := Lib.hid idx
  have FB := Lib.hid fb
  have LEN := Lib.hid len
  have OK := Lib.hid ok
  have LO := Lib.hid hL
  have HX := Lib.hid hx
  have HM := Lib.hid hmem
  have HO := Lib.hid ho
  have HGG := Lib.hid hg
  have HBS := Lib.hid hbase
  have HLN := Lib.hid hlen
  rw [hcv] at f2
  clear fmp fcb ffp row map idx fb len ok hL hcv hx hmem hlen ho hg hbase
  have b3 : (0 : Int) ≤ (r : Int) := Int.natCast_nonneg _
  have b4 : (r : Int) < (n : Int) := by omega
  have b5 : (0 : Int) ≤ (c : Int) := Int.natCast_nonneg _
  have b6 : (c : Int) < (m : Int) := by omega
  have hro : Rc.ok ⟨(r : Int), (c : Int), 1, 1⟩ := by simp only [Rc.ok]; omega
  have HRO := Lib.hid hro
  clear hro
  go_enter Try.func52, Try.ntmps52
  go_wp2_with fail
  go_quiet (fail)
  generalize hW2 : World.drewN W _ = W2
  have hcc : ∀ a, W2.cell? a = W.cell? a := fun a => by rw [← hW2]; rfl
  have d1 := (hcc ⟨K.mp, 0, none⟩).trans f1
  have d2 := (hcc ⟨K.cb, 0, none⟩).trans f2
  have d3 := (hcc ⟨K.fp, 0, none⟩).trans f3
  have d4 := (hcc ⟨K.fb, 1, none⟩).trans f4
  have d5 := (hcc ⟨o, r, none⟩).trans hrow
  have d6 := (hcc ⟨g, c, none⟩).trans hcell
  have ROW2 := Lib.hid (show W2.ownsRow K.base 68 4 rv rooms.length (flat rooms) by rw [← hW2]; exact ROW.out)
  have MAP2 := Lib.hid (show W2.ownsMap Try.prog 3 (plainElem Try.prog 3) K.mb ord.length D by rw [← hW2]; exact MAP.out)
  have FB2 := Lib.hid (show W2.heap[K.fb]? = some (.cells #[cvF, rv] 52 (0, 0)) by rw [← hW2]; exact FB.out)
  have KP := Lib.hid (show KeepS (Tn K rv) W W2 by rw [← hW2]; exact KeepS.drewN _ _ _)
  have HSZ := Lib.hid (show W.heap.size ≤ W2.heap.size by rw [← hW2]; exact Nat.le_refl _)
  clear f1 f2 f3 f4 hlk ROW MAP FB hW2 hrow hcell hcc
  go_wp2_with (first | (at_len; refine wpList_len_own _ rfl _ 80 rfl 3 3 Try.underlying80 _ K.mb ord.length D rfl MAP2.out ?_))
  rw [IDX.out.size]
  go_still_tail 9, (by kernel_rfl)
  change wpList _ _ _ _ _ W2.drew
  have hkey : keyOf Try.prog 3 (.int .i64 x) = some (ky x) := keyOf_int_mk Try.underlying3 HX.out
  have hval : plainElem (H := Unit) Try.prog 3 (.int .i64 (ord.length : Nat)) = some (.lit (.int .i64 (ord.length : Nat)), []) := plainElem_int Try.underlying3 (WalkArith.wf_i64 (by have := HLN.out; omega))
  have hml : ord.length < maxLen := Nat.lt_of_le_of_lt HLN.out (by decide)
  go_wp2_with (first | (at_mapUpdate; refine wpList_mapUpdate_own _ rfl _ _ _ 80 rfl 3 3 law3 Try.underlying80 _ K.mb ord.length D rfl MAP2.out hml _ _ (ky x) rfl rfl hkey (.lit (.int .i64 (ord.length : Nat))) [] hval ?_; intro w3 hmap3 hg3))
  have kp3 : KeepS (fun i => i = K.mb) W2 w3 := (KeepS.drew _ W2).trans (KeepS.grown hg3 rfl)
  have KP3 := Lib.hid (KP.out.trans (kp3.mono (fun i _ e => (.inr (.inl e) : Tn K rv i))))
  have MAP3 := Lib.hid hmap3
  have lo := LO.out
  have g3 := kp3.cell d3 (fun e => lo.fp.2.1 e)
  have g4 := kp3.cell d4 (fun e => lo.fb.2 e)
  have FB3 := Lib.hid (kp3.heap FB2.out (fun e => lo.fb.2 e))
  have ROW3 := Lib.hid (ROW2.out.kept (row := some K.mb) ⟨kp3.os, kp3.tape, kp3.output, kp3.size, fun i hi hn => kp3.same i hi (fun e => hn (by rw [e]))⟩ (by
    by_cases hb : rv.ownBlock = none
    · exact .inl hb
    · exact .inr (fun e => by have := (ROW2.out.lt K.mb e).1; have := lo.mb; omega)))
  have HSZ3 := Lib.hid (Nat.le_trans HSZ.out kp3.size)
  clear hkey hval hml hmap3 hg3 kp3 lo d1 d2 d3 d4 d5 d6
  have hb49 : (rooms.length + 1) * 32 ≤ 140737488355328 := by omega
  have hm49 : rooms.length + 1 ≤ maxLen := Nat.le_trans (show rooms.length + 1 ≤ 1001 by omega) (by decide)
  simp only [Act.put, List.setIfInBounds_toArray, List.set_cons_zero, List.set_cons_succ]
  go_cut [] (fun wc => Mid K W cvF rv (D.put (ky x) (.lit (.int .i64 (ord.length : Nat)))) (ord.length + 1) (rooms ++ [⟨(r : Int), (c : Int), 1, 1⟩]) wc)
  case first =>
    have h3b : K.base ≤ w3.heap.size := Nat.le_trans HBS.out HSZ3.out
    have a3 := ((below_alloc (Below.refl w3.heap.size w3) (Obj.cells #[.int .i64 (r : Int), .int .i64 (c : Int), .int .i64 1, .int .i64 1] 68)).cell (World.block_lt_of_cell? w3 _ g3)).trans g3
    have a4 := ((below_alloc (Below.refl w3.heap.size w3) (Obj.cells #[.int .i64 (r : Int), .int .i64 (c : Int), .int .i64 1, .int .i64 1] 68)).cell (World.block_lt_of_cell? w3 _ g4)).trans g4
    have hnf : some K.fb ≠ rv.ownBlock := fun e => by have := (ROW3.out.lt K.fb e.symm).1; have := LO.out.fb.1; omega
    have hnp : some K.fp ≠ rv.ownBlock := fun e => by have := (ROW3.out.lt K.fp e.symm).1; have := LO.out.fp.1; omega
    go_region_law
      (refine step_append_lies _ (by rfl) _ _ _ (by rfl) K.base 68 i0 _ 4 32 Try.underlying50 hi0 hz0 hz1 hz2 rfl (by omega) rv rooms.length (flat rooms) (by rfl) ((ROW3.out.alloc _).drew) ⟨w3.heap.size, 0, none⟩ 1 1 [.int .i64 (r : Int), .int .i64 (c : Int), .int .i64 1, .int .i64 1] (by rfl) (by rfl)
         (World.news_of_block (cs := #[.int .i64 (r : Int), .int .i64 (c : Int), .int .i64 1, .int .i64 1]) (t := 68) (fr := (0, 0)) (heap_alloc_new w3 _)) (by simp [Value.oneCell']) (by omega) hm49 hb49 (by simp; omega) (w3.heap.size + 1) (by simp) ?_
       intro g2 cap2 w5 hown2 hgrow2 hat2 hlt2
       have hfb5 := (hgrow2.block K.fb (blk_lt (blk_drew (blk_alloc FB3.out _))) hnf).trans (blk_drew (blk_alloc FB3.out _))
       have g5 := hgrow2.cell (a := ⟨K.fp, 0, none⟩) a3 hnp
       have zz := blk_frozen hfb5 1
       have cc := (blk_cell hfb5 1).trans rfl)
    all_goals
      have MD := Lib.hid (mid_of LO.out KP3.out HSZ3.out h3b ROW3.out MAP3.out g3 hfb5 hown2 hgrow2 hat2 hnf)
      clear hfb5 g5 zz cc hown2 hgrow2 hat2 hlt2
      go_wp2
      go_meet
      case rel => exact MD.out
  case rest =>
    obtain ⟨gr, cap, fb2, row2, map2, kp2, hat2, d3⟩ := hcut
    have hl2 : (rooms ++ [(⟨(r : Int), (c : Int), 1, 1⟩ : Rc)]).length = ord.length + 1 := by rw [List.length_append, LEN.out]; rfl
    have hin := row2.lt gr rfl
    have d4 : wc.cell? ⟨K.fb, 1, none⟩ = some (.slice (some ⟨gr, 0, none⟩) (rooms ++ [(⟨(r : Int), (c : Int), 1, 1⟩ : Rc)]).length cap) := (blk_cell fb2 1).trans rfl
    have hy : (rooms ++ [(⟨(r : Int), (c : Int), 1, 1⟩ : Rc)])[ord.length]? = some ⟨(r : Int), (c : Int), 1, 1⟩ := by rw [← LEN.out]; simp
    have hk : ord.length < (rooms ++ [(⟨(r : Int), (c : Int), 1, 1⟩ : Rc)]).length := by rw [hl2]; omega
    have hc4 : ∀ j, j < 4 → wc.cell? ⟨gr, ord.length * 4 + j, none⟩ = (⟨(r : Int), (c : Int), 1, 1⟩ : Rc).cells[j]? := fun j hj => by
      rw [row2.cellAt (ord.length * 4 + j) (by omega)]
      exact flat_get _ _ _ j hy hj
    have e0 : wc.cell? ⟨gr, ord.length * 4, none⟩ = some (.int .i64 (r : Int)) := hc4 0 (by omega)
    have e1 : wc.cell? ⟨gr, ord.length * 4 + 1, none⟩ = some (.int .i64 (c : Int)) := hc4 1 (by omega)
    have e2 : wc.cell? ⟨gr, ord.length * 4 + 2, none⟩ = some (.int .i64 1) := hc4 2 (by omega)
    have e3 : wc.cell? ⟨gr, ord.length * 4 + 3, none⟩ = some (.int .i64 1) := hc4 3 (by omega)
    have hidx := IDX.out.put HM.out
    have hok : ∀ y ∈ rooms ++ [(⟨(r : Int), (c : Int), 1, 1⟩ : Rc)], y.ok := fun y hy => by
      rcases List.mem_append.1 hy with hy | hy
      · exact OK.out y hy
      · rw [List.mem_singleton.1 hy]; exact HRO.out
    have hset : (rooms ++ [(⟨(r : Int), (c : Int), 1, 1⟩ : Rc)]).set ord.length (Rc.both ⟨(r : Int), (c : Int), 1, 1⟩ ⟨(r : Int), (c : Int), 1, 1⟩) = rooms ++ [Rc.both ⟨(r : Int), (c : Int), 1, 1⟩ ⟨(r : Int), (c : Int), 1, 1⟩] := by
      rw [← LEN.out, List.set_append_right _ _ (Nat.le_refl _)]
      simp
    have hap : (ord ++ [x]).length = ord.length + 1 := by simp
    have HAP := Lib.hid hap
    have ROW2' := Lib.hid row2
    have MAP2' := Lib.hid map2
    have FB2' := Lib.hid fb2
    have KP2 := Lib.hid kp2
    have HAT2 := Lib.hid hat2
    have HK := Lib.hid hk
    have HID := Lib.hid hidx
    have HOK := Lib.hid hok
    have HL2 := Lib.hid hl2
    have HINN := Lib.hid hin.1
    obtain ⟨q, hq⟩ : ∃ q, q = Rc.both ⟨(r : Int), (c : Int), 1, 1⟩ ⟨(r : Int), (c : Int), 1, 1⟩ := ⟨_, rfl⟩
    have BC : Hid (∀ W', Calls Try.prog 53 #[.agg #[.int .i64 (r : Int), .int .i64 (c : Int), .int .i64 1, .int .i64 1], .agg #[.int .i64 (r : Int), .int .i64 (c : Int), .int .i64 1, .int .i64 1]] W' fun e w' => e = .returned (.agg #[.int .i64 q.r, .int .i64 q.c, .int .i64 q.h, .int .i64 q.w]) ∧ Below W'.heap.size W' w') := Lib.hid (by rw [hq]; exact both_calls ⟨(r : Int), (c : Int), 1, 1⟩ ⟨(r : Int), (c : Int), 1, 1⟩ HRO.out HRO.out)
    have HST2 : Hid ((rooms ++ [(⟨(r : Int), (c : Int), 1, 1⟩ : Rc)]).set ord.length q = rooms ++ [Rc.both ⟨(r : Int), (c : Int), 1, 1⟩ ⟨(r : Int), (c : Int), 1, 1⟩]) := Lib.hid (by rw [hq]; exact hset)
    have HQ := Lib.hid hq
    have b1 : (0 : Int) ≤ (ord.length : Int) := Int.natCast_nonneg _
    have b2 : (ord.length : Int) < ((rooms ++ [(⟨(r : Int), (c : Int), 1, 1⟩ : Rc)]).length : Int) := by omega
    clear hq hset hidx hok hl2 hk hy hc4 fb2 row2 map2 kp2 hat2 hin hap
    generalize rooms ++ [(⟨(r : Int), (c : Int), 1, 1⟩ : Rc)] = rooms' at *
    go_wp2_with fail
    go_region_with
      (go_at_call 53; refine (BC.out _).mono ?_; rintro e w1 ⟨rfl, hb1⟩; have hbw : Below wc.heap.size wc w1 := below_step (below_drew1 (Below.refl _ _)) hb1; have m3 := (hbw.cell (World.block_lt_of_cell? wc _ d3)).trans d3; have m4 := (hbw.cell (World.block_lt_of_cell? wc _ d4)).trans d4; have n0 := (hbw.cell (World.block_lt_of_cell? wc _ e0)).trans e0; have n1 := (hbw.cell (World.block_lt_of_cell? wc _ e1)).trans e1; have n2 := (hbw.cell (World.block_lt_of_cell? wc _ e2)).trans e2; have n3 := (hbw.cell (World.block_lt_of_cell? wc _ e3)).trans e3; have hown1 := ROW2'.out.kept (grown_of_below hbw none) (.inr (by simp [Value.ownBlock])); have z0 := hown1.frozenAt (ord.length * 4); have z1 := hown1.frozenAt (ord.length * 4 + 1); have z2 := hown1.frozenAt (ord.length * 4 + 2); have z3 := hown1.frozenAt (ord.length * 4 + 3); have HROW := Lib.hid hown1; clear hown1)
    all_goals
      have ST := Lib.hid (st_store (KeepS.refl _ wc) hbw HROW.out (by rw [HAP.out]; exact MAP2'.out) FB2'.out HID.out (by rw [HL2.out, HAP.out]) HOK.out (q := q) (by rw [HQ.out]; exact Rc.both_ok HRO.out HRO.out) HK.out LO.out HINN.out)
      clear hb1 hbw m3 m4 n0 n1 n2 n3 z0 z1 z2 z3 d3 d4 e0 e1 e2 e3
      go_wp2
      go_ret
      refine ⟨_, _, rfl, by rw [← HST2.out]; exact ST.out.1, KP2.out.trans' ST.out.2 (fun i hi => ?_), fun i hi => ?_⟩
      · rcases hi with e | e | e
        · exact .inl (.inl e)
        · exact .inl (.inr (.inl e))
        · have e2 : gr = i := Option.some.inj e
          subst e2
          exact HAT2.out.imp (fun h => .inr (.inr h)) id
      · have e2 : gr = i := Option.some.inj hi
        subst e2
        exact HAT2.out
end Go.Proofs.Ytjbjpkphepfldaa.S

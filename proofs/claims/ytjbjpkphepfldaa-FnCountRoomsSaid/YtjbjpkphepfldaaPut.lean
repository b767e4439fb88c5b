/- spec.l1Put: a letter is written into rows and columns: the walk. -/
import Derived.Test.YtjbjpkphepfldaaFillB
import Derived.Laws.BytesArg
import Derived.Lib.ConvBytes
import Derived.Deep.AppendLies
namespace Go.Proofs.Ytjbjpkphepfldaa.S
open Go.RowKit Go.Proofs.YtjbjpkphepfldaaW.PrintWords Go.Proofs.YtjbjpkphepfldaaW.PrintMore
set_option linter.unusedVariables false
set_option linter.unusedSimpArgs false

theorem info9 : (Try.prog.info? 9).map (fun i => (i.zero, i.size, i.bytes)) = some (some (.string ⟨#[]⟩), 1, 16) := by kernel_rfl
/-- A text of numbers, as a value. -/
def sv (l : List Int) : Value := .string (strOfNums l)
/-- Texts that can be read. -/
def PS (W : World) (v : Value) (p : List (List Int)) : Prop := ∃ o c cs, v = .slice (some ⟨o, 0, none⟩) p.length c ∧ p.length ≤ c ∧ W.heap[o]? = some (.cells cs 9 (0, 0)) ∧ ∀ (i : Nat) (l : List Int), p[i]? = some l → cs[i]? = some (sv l)
theorem PS.cell {W : World} {v : Value} {p : List (List Int)} (h : PS W v p) : ∃ o c, v = .slice (some ⟨o, 0, none⟩) p.length c ∧ p.length ≤ c ∧ o < W.heap.size ∧ ∀ i l, p[i]? = some l → W.cell? ⟨o, i, none⟩ = some (sv l) := by
  obtain ⟨o, c, cs, e, hc, hh, hr⟩ := h
  exact ⟨o, c, e, hc, blk_lt hh, fun i l hl => (blk_cell hh i).trans (hr i l hl)⟩
theorem PS.keep {W W' : World} {v : Value} {p : List (List Int)} (h : PS W v p) (hk : ∀ (o : Nat) (cs : Array Value), W.heap[o]? = some (Obj.cells cs 9 (0, 0)) → W'.heap[o]? = W.heap[o]?) : PS W' v p := by
  obtain ⟨o, c, cs, e, hc, hh, hr⟩ := h
  exact ⟨o, c, cs, e, hc, (hk o cs hh).trans hh, hr⟩
theorem PS.below {W W' : World} {v : Value} {p : List (List Int)} (h : PS W v p) (hb : Below W.heap.size W W') : PS W' v p := h.keep (fun o cs hh => hb.block o (blk_lt hh))
theorem PS.of_own {W : World} {base g n c : Nat} {q : List (List Int)} (h : W.ownsRow base 9 1 (.slice (some ⟨g, 0, none⟩) n c) n (q.map sv)) (hn : q.length = n) : PS W (.slice (some ⟨g, 0, none⟩) n c) q := by
  obtain ⟨hl, ⟨e, _⟩ | ⟨g', cap, cur, e, _, hh, h1, _, _, h4⟩⟩ := h
  · cases e
  · injection e with hA _ hc
    injection hA with hA
    injection hA with hA _
    subst hA
    subst hc
    refine ⟨g, c, cur, by rw [hn], by omega, hh, fun i l hl => ?_⟩
    have hi : i < q.length := (List.getElem?_eq_some_iff.1 hl).1
    have h5 : (cur.toList.take (n * 1))[i]? = some (sv l) := by rw [h4, List.getElem?_map, hl]; rfl
    rw [List.getElem?_take_of_lt (by omega), Array.getElem?_toList] at h5
    exact h5
/-- Bytes in a row. -/
def BytesAt (W : World) (b : Nat) (l : List Int) : Prop := ∃ cur lo hi, W.heap[b]? = some (.cells cur 5 (lo, hi)) ∧ l.length ≤ lo ∧ l.length ≤ cur.size ∧ ∀ (j : Nat) (x : Int), l[j]? = some x → cur[j]? = some (Value.int .u8 x)
theorem BytesAt.cell {W : World} {b : Nat} {l : List Int} (h : BytesAt W b l) {j : Nat} {x : Int} (hx : l[j]? = some x) : W.cell? ⟨b, j, none⟩ = some (.int .u8 x) := by
  obtain ⟨cur, lo, hi, hh, _, _, hr⟩ := h
  rw [cell_of_row W b j cur 5 (lo, hi) hh]
  exact hr j x hx
theorem BytesAt.free {W : World} {b : Nat} {l : List Int} (h : BytesAt W b l) {j : Nat} (hj : j < l.length) : W.frozen? ⟨b, j, none⟩ = false := by
  obtain ⟨cur, lo, hi, hh, h1, _, _⟩ := h
  simp only [World.frozen?, hh]
  have : ¬ lo ≤ j := by omega
  simp [this]
theorem BytesAt.put {W : World} {b : Nat} {l : List Int} (h : BytesAt W b l) (j : Nat) (v : Int) : BytesAt (W.setCell ⟨b, j, none⟩ (.int .u8 v)) b (l.set j v) := by
  obtain ⟨cur, lo, hi, hh, h1, h2, hr⟩ := h
  refine ⟨cur.setIfInBounds j (.int .u8 v), lo, hi, by simp [World.setCell, Array.getElem?_modify, hh], by rw [List.length_set]; exact h1, by rw [List.length_set]; simpa using h2, fun i x hx => ?_⟩
  by_cases e : i = j
  · subst e
    have hi : i < l.length := by have := (List.getElem?_eq_some_iff.1 hx).1; simpa using this
    rw [List.getElem?_set_self hi] at hx
    obtain rfl := Option.some.inj hx
    rw [Array.getElem?_setIfInBounds_self_of_lt (by omega)]
  · rw [List.getElem?_set_ne (fun y => e y.symm)] at hx
    rw [Array.getElem?_setIfInBounds_ne (fun y => e y.symm)]
    exact hr i x hx
theorem BytesAt.heap {W W' : World} {b : Nat} {l : List Int} (h : BytesAt W b l) (e : W'.heap[b]? = W.heap[b]?) : BytesAt W' b l := by
  obtain ⟨cur, lo, hi, hh, r⟩ := h
  exact ⟨cur, lo, hi, e.trans hh, r⟩
theorem BytesAt.lt {W : World} {b : Nat} {l : List Int} (h : BytesAt W b l) : b < W.heap.size := by
  obtain ⟨cur, lo, hi, hh, _⟩ := h
  exact (Array.getElem?_eq_some_iff.1 hh).1
def Byt (l : List Int) : Prop := ∀ x ∈ l, 0 ≤ x ∧ x < 256
theorem BytesAt.new (W : World) {l : List Int} (hl : Byt l) : BytesAt (Lib.bytesWorld W 5 (strOfNums l)) W.heap.size l := by
  refine ⟨_, _, _, Lib.bytesWorld_at_new W 5 _, ?_, ?_, fun j x hx => ?_⟩
  · simp [Lib.bytesCells, strOfNums]
  · simp [Lib.bytesCells, strOfNums]
  · have hj : j < l.length := (List.getElem?_eq_some_iff.1 hx).1
    have h1 := Lib.bytesWorld_cell W 5 (strOfNums l) j (by rw [strOfNums_size]; exact hj)
    rw [cell_of_row _ _ j _ 5 _ (Lib.bytesWorld_at_new W 5 _)] at h1
    rw [h1, strOfNums_data, List.getD_eq_getElem?_getD, List.getElem?_map, hx]
    simp only [Option.map_some, Option.getD_some]
    have := hl x (List.mem_of_getElem? hx)
    rw [UInt8.toNat_ofNat']
    congr 2
    omega
theorem bytes_below (W : World) (s : ByteArray) : Below W.heap.size W (Lib.bytesWorld W 5 s) := ⟨rfl, rfl, rfl, by rw [Lib.bytesWorld_size]; omega, fun k hk => Lib.bytesWorld_at_old W 5 s k hk⟩
theorem BytesAt.conv {W : World} {b : Nat} {l : List Int} (h : BytesAt W b l) (c : Nat) : (convert 28 9 (.slice (some ⟨b, 0, none⟩) l.length c)).run Try.prog W = .ok (.string (strOfNums l)) W :=
  run_convert_bytes_arg W 28 5 Try.underlying28 Try.underlying5 b 0 l.length c l rfl (fun i hi => by
    rw [Nat.zero_add, List.getD_eq_getElem?_getD, List.getElem?_eq_getElem hi]
    exact h.cell (List.getElem?_eq_getElem hi)) 9 Try.underlying9

theorem putRow_byt {v : Int} {c : Nat} (hv : 0 ≤ v ∧ v < 256) : ∀ (w : Nat) (l : List Int), Byt l → Byt (putRow v c w l)
  | 0, l, h => h
  | w + 1, l, h => fun x hx => by
    simp only [putRow] at hx
    rcases List.mem_or_eq_of_mem_set hx with hx | rfl
    · exact putRow_byt hv w l h x hx
    · exact hv
/-- Rows of bytes, all so long. -/
structure Gd (p : List (List Int)) (Wd : Nat) : Prop where
  row : ∀ l ∈ p, l.length = Wd
  byt : ∀ l ∈ p, Byt l
theorem Gd.put {p : List (List Int)} {Wd : Nat} (h : Gd p Wd) {v : Int} (hv : 0 ≤ v ∧ v < 256) {r c w : Nat} : ∀ hh, r + hh ≤ p.length → Gd (putG v r c w hh p) Wd
  | 0, _ => h
  | hh + 1, hl => by
    have ih := Gd.put h hv (r := r) (c := c) (w := w) hh (by omega)
    have hm : (putG v r c w hh p).getD (r + hh) [] ∈ putG v r c w hh p := by
      rw [List.getD_eq_getElem?_getD, List.getElem?_eq_getElem (by rw [putG_len]; omega)]
      exact List.getElem_mem _
    refine ⟨fun l hl => ?_, fun l hl => ?_⟩
    · simp only [putG] at hl
      rcases List.mem_or_eq_of_mem_set hl with hl | rfl
      · exact ih.row l hl
      · rw [putRow_len]; exact ih.row _ hm
    · simp only [putG] at hl
      rcases List.mem_or_eq_of_mem_set hl with hl | rfl
      · exact ih.byt l hl
      · exact putRow_byt hv w _ (ih.byt _ hm)

set_option maxRecDepth 100000 in
set_option maxHeartbeats 8000000 in
theorem put_calls (p : List (List Int)) (Wd : Nat) (v : Value) (W : World) (hp : PS W v p) (hg : Gd p Wd) (h0 : 1 ≤ p.length) (h1 : p.length ≤ 1000) (hW : Wd ≤ 1000) (top left hh ww : Nat) (ht : top + hh ≤ p.length) (hl : left + ww ≤ Wd) (ch : Int) (hch : 0 ≤ ch ∧ ch < 256) :
    Calls Try.prog 57 #[v, .int .i64 (top : Nat), .int .i64 (left : Nat), .int .i64 (hh : Nat), .int .i64 (ww : Nat), .int .u8 ch] W fun e w' => ∃ v', e = .returned v' ∧ PS w' v' (putG ch top left ww hh p) ∧ Below W.heap.size W w' := by
  obtain ⟨i9, hi9, hz0, hz1, hz2⟩ := info_parts info9
  obtain ⟨o, c, rfl, hc, hoW, hrd⟩ := hp.cell
  obtain ⟨n, hn⟩ : ∃ n, n = p.length := ⟨_, rfl⟩
  have HG := Lib.hid hg
  have HRD := Lib.hid hrd
  have hnews : ∀ j u, (p.map sv)[j]? = some u → (W.alloc (Obj.cells #[] 9)).cell? ((⟨o, 0, none⟩ : Addr).add j) = some u := fun j u hu => by
    rw [List.getElem?_map] at hu
    obtain ⟨l, hl, rfl⟩ := Option.map_eq_some_iff.1 hu
    rw [add_pl]
    exact ((below_alloc (Below.refl W.heap.size W) (Obj.cells #[] 9)).cell hoW).trans (hrd j l hl)
  have hone : ∀ u ∈ p.map sv, u.oneCell' = true := fun u hu => by
    obtain ⟨l, _, rfl⟩ := List.mem_map.1 hu
    rfl
  have HNW := Lib.hid hnews
  have HON := Lib.hid hone
  have HN := Lib.hid hn
  rw [← hn] at h0 h1 ht ⊢
  have p1 : 0 + n ≤ maxLen := Nat.le_trans (show 0 + n ≤ 1000 by omega) (by decide)
  have p2 : (0 + n) * 16 ≤ 140737488355328 := by omega
  have hpl : (p.map sv).length = n * 1 := by rw [List.length_map, Nat.mul_one, hn]
  clear hg hrd hnews hone hn hc
  go_enter Try.func57, Try.ntmps57
  go_wp2_with (first | (at_builtin; refine wpList_append_lies _ rfl _ _ 43 rfl W.heap.size 9 i9 _ 1 16 Try.underlying43 hi9 hz0 hz1 hz2 rfl (by omega) (.slice (some ⟨W.heap.size, 0, none⟩) 0 0) 0 [] rfl (World.ownsRow_lit W #[] 0 (Nat.le_refl _) (by decide) rfl) ⟨o, 0, none⟩ n c (p.map sv) rfl hpl HNW.out HON.out (by omega) p1 p2 (by simp) (W.heap.size + 1) (by simp) ?_; intro g2 c2 w1 hown hgrow hat hlt1))
  have hob : w1.ownsRow W.heap.size 9 1 (.slice (some ⟨g2, 0, none⟩) n c2) n ((putG ch top left ww (top - top) p).map sv) := by
    rw [Nat.sub_self]
    have := hown
    rw [Nat.zero_add, List.nil_append] at this
    exact this
  have HO1 := Lib.hid hob
  have HB1 : Hid (Below W.heap.size W w1) := Lib.hid (Below.grown (below_alloc (Below.refl _ _) _) hgrow (by simp) (fun k e => by have e2 : W.heap.size = k := Option.some.inj e; omega))
  clear hob hown hgrow hat hlt1 HNW HON p1 p2 hpl
  try simp only [Nat.zero_add]
  obtain ⟨E, hE⟩ : ∃ E, E = top + hh := ⟨_, rfl⟩
  obtain ⟨F, hF⟩ : ∃ F, F = left + ww := ⟨_, rfl⟩
  have e1 : IntKind.i64.wrap ((top : Int) + (hh : Int)) = (E : Int) := by rw [IntWalk.i64_in _ (by omega)]; omega
  have e2 : IntKind.i64.wrap ((left : Int) + (ww : Int)) = (F : Int) := by rw [IntWalk.i64_in _ (by omega)]; omega
  have hEn : E ≤ n := by omega
  have hFW : F ≤ Wd := by omega
  have HHE := Lib.hid hE
  have HHF := Lib.hid hF
  have hmt : top ≤ E := by omega
  have hml : left ≤ F := by omega
  clear hE hF ht hl
  go_wp2_with fail
  go_loopw [14] (fun kv wr => ∃ (X : Nat) (wl : World), wl = wr ∧ top ≤ X ∧ X ≤ E ∧ kv = .int .i64 (X : Nat) ∧ Hid (wl.ownsRow W.heap.size 9 1 (.slice (some ⟨g2, 0, none⟩) n c2) n ((putG ch top left ww (X - top) p).map sv)) ∧ Hid (Below W.heap.size W wl)) (fun kv _ => E + 1 - (Go.RowKit.intOf kv).toNat)
  case atStart => exact ⟨top, w1, rfl, Nat.le_refl _, hmt, rfl, HO1, HB1⟩
  case round =>
    obtain ⟨X, wl, rfl, hX1, hX2, rfl, HOX, HBX⟩ := hrel
    clear HO1 HB1
    by_cases hlt : X < E
    · have q1 : (X : Int) < (E : Int) := by omega
      have q2 : (0 : Int) ≤ (X : Int) := by omega
      have q3 : (X : Int) < (n : Int) := by omega
      have hXn : X < n := by omega
      have hXp : X < (putG ch top left ww (X - top) p).length := by rw [putG_len]; have := HN.out; omega
      obtain ⟨L, hL⟩ : ∃ L, L = (putG ch top left ww (X - top) p).getD X [] := ⟨_, rfl⟩
      have hLg : (putG ch top left ww (X - top) p)[X]? = some L := by rw [hL, List.getD_eq_getElem?_getD, List.getElem?_eq_getElem hXp]; rfl
      have hgd : Gd (putG ch top left ww (X - top) p) Wd := HG.out.put hch (X - top) (by have := HN.out; omega)
      have hLl : L.length = Wd := hgd.row L (List.mem_of_getElem? hLg)
      have hLb : Byt L := hgd.byt L (List.mem_of_getElem? hLg)
      have x1 : wl.cell? ⟨g2, X, none⟩ = some (.string (strOfNums L)) := by
        rw [HOX.out.cellAt X (by omega), List.getElem?_map, hLg]
        rfl
      have hcv : ∀ w, (convert 9 28 (.string (strOfNums L))).run Try.prog w = .ok (.slice (some ⟨w.heap.size, 0, none⟩) Wd (grownCap w Wd 0 5)) (Lib.bytesWorld w 5 (strOfNums L)) := fun w => by
        have := Lib.run_convert_string_bytes w 9 28 5 (strOfNums L) Try.underlying9 Try.underlying28 Try.underlying5
        rw [strOfNums_size, hLl] at this
        exact this
      have HLT := Lib.hid hlt
      have HL := Lib.hid hL
      have HLL := Lib.hid hLl
      have HLB := Lib.hid hLb
      have HXP := Lib.hid hXp
      clear hlt hL hLg hgd hLl hLb hXp
      go_wp2_with fail
      have HBY : Hid (BytesAt (Lib.bytesWorld wl 5 (strOfNums L)) wl.heap.size (putRow ch left (left - left) L)) := by rw [Nat.sub_self]; exact Lib.hid (BytesAt.new wl HLB.out)
      have HBB := Lib.hid (bytes_below wl (strOfNums L))
      clear hcv x1
      generalize grownCap wl Wd 0 5 = cp at *
      generalize hw6 : Lib.bytesWorld wl 5 (strOfNums L) = w6 at *
      clear hw6
      go_loopw [16] (fun kv wr => ∃ (Y : Nat) (wx : World), wx = wr ∧ left ≤ Y ∧ Y ≤ F ∧ kv = .int .i64 (Y : Nat) ∧ Hid (BytesAt wx wl.heap.size (putRow ch left (Y - left) L)) ∧ Hid (KeepS (fun k => k = wl.heap.size) wl wx)) (fun kv _ => F + 1 - (Go.RowKit.intOf kv).toNat)
      case atStart => exact ⟨left, w6, rfl, Nat.le_refl _, hml, rfl, HBY, Lib.hid (KeepS.of_below _ HBB.out)⟩
      case round =>
        obtain ⟨Y, wx, rfl, hY1, hY2, rfl, HBZ, HKZ⟩ := hrel
        clear HBY
        by_cases hlt : Y < F
        · have q4 : (Y : Int) < (F : Int) := by omega
          have q5 : (0 : Int) ≤ (Y : Int) := by omega
          have q6 : (Y : Int) < (Wd : Int) := by omega
          have hYL : Y < (putRow ch left (Y - left) L).length := by rw [putRow_len]; have := HLL.out; omega
          have y1 := HBZ.out.cell (List.getElem?_eq_getElem hYL)
          have y2 := HBZ.out.free hYL
          generalize (putRow ch left (Y - left) L)[Y]'hYL = old at y1
          have HBP : Hid (BytesAt (wx.setCell ⟨wl.heap.size, Y, none⟩ (.int .u8 ch)) wl.heap.size (putRow ch left (Y + 1 - left) L)) := by
            have := HBZ.out.put Y ch
            rw [show Y + 1 - left = (Y - left) + 1 by omega]
            simp only [putRow]
            rw [show left + (Y - left) = Y by omega]
            exact Lib.hid this
          have HKP : Hid (KeepS (fun k => k = wl.heap.size) wl (wx.setCell ⟨wl.heap.size, Y, none⟩ (.int .u8 ch))) := Lib.hid (HKZ.out.trans (KeepS.setCell wx ⟨wl.heap.size, Y, none⟩ _ (.inl rfl)))
          have HLY := Lib.hid hlt
          clear hlt hYL HBZ HKZ
          go_wp2_with fail
          go_roundw
          case rel => exact ⟨Y + 1, _, rfl, by omega, HLY.out, by push_cast; rfl, HBP, HKP⟩
          case measure => simp [intOf]; have := HLY.out; omega
        · obtain rfl : Y = F := by omega
          have hcv2 := HBZ.out.conv cp
          rw [putRow_len, HLL.out] at hcv2
          have ho := own_keepV HOX.out HKZ.out (fun g e e2 => by
            have e3 : g2 = g := Option.some.inj e
            have := (HOX.out.lt g2 rfl).2
            omega)
          have z1 := ho.frozenAt X
          obtain ⟨u3, c3⟩ : ∃ u, wx.cell? ⟨g2, X, none⟩ = some u := ⟨_, (ho.cellAt X (by omega)).trans (List.getElem?_eq_getElem (by rw [List.length_map]; exact HXP.out))⟩
          have hst := (ho.stored X (sv (putRow ch left (Y - left) L))).1
          have hput : ((putG ch top left ww (X - top) p).map sv).set X (sv (putRow ch left (Y - left) L)) = (putG ch top left ww (X + 1 - top) p).map sv := by
            rw [show X + 1 - top = (X - top) + 1 by omega]
            simp only [putG]
            rw [show top + (X - top) = X by omega, ← HL.out, List.map_set, show Y - left = ww by have := HHF.out; omega]
          rw [hput] at hst
          have HST : Hid ((wx.setCell ⟨g2, X, none⟩ (.string (strOfNums (putRow ch left (Y - left) L)))).ownsRow W.heap.size 9 1 (.slice (some ⟨g2, 0, none⟩) n c2) n ((putG ch top left ww (X + 1 - top) p).map sv)) := Lib.hid hst
          have HBN : Hid (Below W.heap.size W (wx.setCell ⟨g2, X, none⟩ (.string (strOfNums (putRow ch left (Y - left) L))))) := Lib.hid ((HBX.out.trans (HKZ.out.below HBX.out.size (fun k e => by have := HBX.out.size; omega))).setCell (p := ⟨g2, X, none⟩) (HOX.out.lt g2 rfl).1 _)
          clear ho hst hput HOX HBX HBZ HKZ
          generalize strOfNums (putRow ch left (Y - left) L) = s9 at *
          go_wp2_with fail
          go_roundw
          case rel => exact ⟨X + 1, _, rfl, by omega, HLT.out, by push_cast; rfl, HST, HBN⟩
          case measure => simp [intOf]; have := HLT.out; omega
    · obtain rfl : X = E := by omega
      have HPN : Hid (PS wl (.slice (some ⟨g2, 0, none⟩) n c2) (putG ch top left ww hh p)) := by
        have ho := HOX.out
        rw [show X - top = hh by have := HHE.out; omega] at ho
        exact Lib.hid (PS.of_own ho (by rw [putG_len]; exact HN.out.symm))
      clear HOX
      go_wp2
      go_ret
      exact ⟨_, rfl, HPN.out, HBX.out⟩
end Go.Proofs.Ytjbjpkphepfldaa.S

/- A blank grid whose cells are all -1: its rows lie in blocks of their own. -/
import Derived.Test.YtjbjpkphepfldaaTwo
namespace Go.Proofs.Ytjbjpkphepfldaa.S
open Go.RowKit Go.Proofs.YtjbjpkphepfldaaW.PrintWords Go.Proofs.YtjbjpkphepfldaaW.PrintMore
set_option linter.unusedVariables false
set_option linter.unusedSimpArgs false

theorem own_arr {w : World} {base g n : Nat} {e : TypeId} {xs : List Value} (h : w.ownsRow base e 1 (.slice (some ⟨g, 0, none⟩) n n) n xs) : w.heap[g]? = some (.cells xs.toArray e (0, 0)) ∧ xs.length = n ∧ base ≤ g := by
  obtain ⟨hl, ⟨h, _⟩ | ⟨g', cap, cur, h, hb, hh, h1, h2, h3, h4⟩⟩ := h
  · cases h
  · injection h with hA _ hc
    injection hA with hA
    injection hA with hA _
    subst hA
    subst hc
    have hs : cur.toList.length = n := by rw [Array.length_toList]; omega
    rw [List.take_of_length_le (by omega)] at h4
    subst h4
    exact ⟨by rw [hh], by omega, hb⟩

/-- Between two rows. -/
structure BP (B o H Wd r : Nat) (b : Nat → Nat) (vs : List Value) (W0 W : World) : Prop where
  out : W.heap[o]? = some (.cells vs.toArray 22 (0, 0))
  vl : vs.length = H
  ob : B ≤ o
  dn : ∀ i, i < r → vs[i]? = some (.slice (some ⟨b i, 0, none⟩) Wd Wd) ∧ W.heap[b i]? = some (.cells (List.replicate Wd (Value.int .i64 (-1))).toArray 3 (0, 0)) ∧ B ≤ b i ∧ b i ≠ o
  inj : ∀ i j, i < r → j < r → b i = b j → i = j
  bw : Below B W0 W
/-- In a row. -/
structure BR (B o H Wd r c g : Nat) (b : Nat → Nat) (vs L : List Value) (W0 W : World) : Prop extends BP B o H Wd r b vs W0 W where
  hv : vs[r]? = some (.slice (some ⟨g, 0, none⟩) Wd Wd)
  row : W.heap[g]? = some (.cells L.toArray 3 (0, 0))
  ll : L.length = Wd
  got : ∀ j, j < c → L[j]? = some (.int .i64 (-1))
  gb : B ≤ g
  go : g ≠ o
  gn : ∀ i, i < r → b i ≠ g

theorem BR.step {B o H Wd r c g : Nat} {b : Nat → Nat} {vs L : List Value} {W0 W : World} (h : BR B o H Wd r c g b vs L W0 W) (hc : c < Wd) (d : Nat) : BR B o H Wd r (c + 1) g b vs (L.set c (.int .i64 (-1))) W0 ((W.drewN d).setCell ⟨g, c, none⟩ (.int .i64 (-1))) where
  out := (Below.heap_setCell (W.drewN d) ⟨g, c, none⟩ _ o (fun e => h.go e.symm)).trans h.out
  vl := h.vl
  ob := h.ob
  dn := fun i hi => by
    obtain ⟨h1, h2, h3, h4⟩ := h.dn i hi
    exact ⟨h1, (Below.heap_setCell (W.drewN d) ⟨g, c, none⟩ _ (b i) (fun e => h.gn i hi e)).trans h2, h3, h4⟩
  inj := h.inj
  bw := (pw_below_drewN h.bw d).setCell (p := ⟨g, c, none⟩) h.gb _
  hv := h.hv
  row := blk_put (w := W.drewN d) h.row c _ (by simp)
  ll := by rw [List.length_set]; exact h.ll
  got := fun j hj => by
    by_cases e : j = c
    · subst e
      rw [List.getElem?_set_self (by have := h.ll; omega)]
    · rw [List.getElem?_set_ne (fun x => e x.symm)]
      exact h.got j (by omega)
  gb := h.gb
  go := h.go
  gn := h.gn
theorem BR.last {B o H Wd r g : Nat} {b : Nat → Nat} {vs L : List Value} {W0 W : World} (h : BR B o H Wd r Wd g b vs L W0 W) : BP B o H Wd (r + 1) (fun i => if i = r then g else b i) vs W0 W where
  out := h.out
  vl := h.vl
  ob := h.ob
  dn := fun i hi => by
    by_cases e : i = r
    · subst e
      simp only [if_true]
      have : L = List.replicate Wd (Value.int .i64 (-1)) := by
        apply List.ext_getElem?
        intro j
        by_cases hj : j < Wd
        · rw [h.got j hj, List.getElem?_replicate, if_pos hj]
        · rw [List.getElem?_eq_none (by have := h.ll; omega), List.getElem?_eq_none (by simp; omega)]
      exact ⟨h.hv, by rw [← this]; exact h.row, h.gb, h.go⟩
    · simp only [if_neg e]
      exact h.dn i (by omega)
  inj := fun i j hi hj e => by
    by_cases e1 : i = r
    · by_cases e2 : j = r
      · omega
      · simp only [if_pos e1, if_neg e2] at e
        exact absurd e.symm (h.gn j (by omega))
    · by_cases e2 : j = r
      · simp only [if_neg e1, if_pos e2] at e
        exact absurd e (h.gn i (by omega))
      · simp only [if_neg e1, if_neg e2] at e
        exact h.inj i j (by omega) (by omega) e
  bw := h.bw
theorem BP.open {B o H Wd r : Nat} {b : Nat → Nat} {vs L : List Value} {W0 W W2 : World} (h : BP B o H Wd r b vs W0 W) (hr : r < H) (hg : Below W.heap.size W W2) (hB : B ≤ W.heap.size) (row : W2.heap[W.heap.size]? = some (.cells L.toArray 3 (0, 0))) (hL : L.length = Wd) :
    BR B o H Wd r 0 W.heap.size b (vs.set r (.slice (some ⟨W.heap.size, 0, none⟩) Wd Wd)) L W0 (W2.setCell ⟨o, r, none⟩ (.slice (some ⟨W.heap.size, 0, none⟩) Wd Wd)) where
  out := blk_put (blk_below h.out hg) r _ (by simp)
  vl := by rw [List.length_set]; exact h.vl
  ob := h.ob
  dn := fun i hi => by
    obtain ⟨h1, h2, h3, h4⟩ := h.dn i hi
    exact ⟨by rw [List.getElem?_set_ne (by omega)]; exact h1, (Below.heap_setCell W2 ⟨o, r, none⟩ _ (b i) h4).trans (blk_below h2 hg), h3, h4⟩
  inj := h.inj
  bw := (h.bw.trans (hg.mono hB)).setCell (p := ⟨o, r, none⟩) h.ob _
  hv := List.getElem?_set_self (by have := h.vl; omega)
  row := (Below.heap_setCell W2 ⟨o, r, none⟩ _ W.heap.size (by have := blk_lt h.out; simp only; omega)).trans row
  ll := hL
  got := fun j hj => absurd hj (by omega)
  gb := hB
  go := by have := blk_lt h.out; omega
  gn := fun i hi => by have := blk_lt (h.dn i hi).2.1; omega

set_option maxRecDepth 100000 in
set_option maxHeartbeats 1000000 in
theorem minus_calls (r c : Nat) (W : World) : Calls Try.prog 32 #[.int .i64 (r : Nat), .int .i64 (c : Nat)] W fun e w' => e = .returned (.int .i64 (-1)) ∧ w' = W := by
  go_enter Try.func32, Try.ntmps32
  go_wp2
  go_ret
  exact ⟨rfl, rfl⟩

set_option maxRecDepth 100000 in
set_option maxHeartbeats 8000000 in
theorem blankc_calls (H Wd : Nat) (hH : H ≤ 1000) (hW : Wd ≤ 1000) (W0 : World) :
    Calls Try.prog 31 #[.int .i64 (H : Nat), .int .i64 (Wd : Nat), .func (Fn.func 32) #[] #[]] W0 fun e w' => ∃ o b vs, e = .returned (.slice (some ⟨o, 0, none⟩) H H) ∧ BP W0.heap.size o H Wd H b vs W0 w' := by
  obtain ⟨i3, hi3, hz30, hz31, hz32⟩ := info_parts info3
  obtain ⟨i24, hi24, hz0, hz1, hz2⟩ := info_parts info24
  have en := enters_of (P := Try.prog) Try.func32 rfl rfl
  have p1 : i24.bytes * H ≤ 281474976710656 := by rw [hz2]; omega
  have p2 : H ≤ maxLen := Nat.le_trans hH (by decide)
  have p3 : i3.bytes * Wd ≤ 281474976710656 := by rw [hz32]; omega
  have p4 : Wd ≤ maxLen := Nat.le_trans hW (by decide)
  go_enter Try.func31, Try.ntmps31
  go_wp2_with (first | (refine wpList_make_full _ rfl _ _ 49 rfl W0.heap.size 22 i24 _ 1 Try.underlying49 hi24 hz0 hz1 .i64 .i64 _ _ H rfl rfl rfl rfl p1 p2 (Nat.le_refl _) ?_; intro w1 hown1 hg1))
  have HB0 : Hid (∃ vs, BP W0.heap.size W0.heap.size H Wd 0 (fun _ => 0) vs W0 w1) := Lib.hid ⟨_, by
    obtain ⟨q1, q2, q3⟩ := own_arr hown1
    exact ⟨q1, q2, q3, fun i hi => absurd hi (by omega), fun i j hi => absurd hi (by omega), Below.grown (Below.refl W0.heap.size W0) hg1 (Nat.le_refl _) (by simp)⟩⟩
  clear hown1 hg1
  go_loopw [14] (fun kv wr => ∃ (r : Nat) (wl : World) (b : Nat → Nat) (vs : List Value), wl = wr ∧ r ≤ H ∧ kv = .int .i64 (r : Nat) ∧ Hid (BP W0.heap.size W0.heap.size H Wd r b vs W0 wl)) (fun kv _ => H + 1 - (Go.RowKit.intOf kv).toNat)
  case atStart => obtain ⟨vs, hb⟩ := HB0.out; exact ⟨0, w1, _, vs, rfl, Nat.zero_le _, rfl, hb⟩
  case round =>
    obtain ⟨r, wl, b, vs, rfl, hr, rfl, HBL⟩ := hrel
    clear HB0
    by_cases hlt : r < H
    · have q1 : (r : Int) < (H : Int) := by omega
      have q2 : (0 : Int) ≤ (r : Int) := by omega
      have HR := Lib.hid hlt
      go_wp2_with (first | (refine wpList_make_full _ rfl _ _ 22 rfl W0.heap.size 3 i3 _ 1 Try.underlying22 hi3 hz30 hz31 .i64 .i64 _ _ Wd rfl rfl rfl rfl p3 p4 (HBL.out.bw.size) ?_; intro w2 hown2 hg2; have b2 := Below.grown (Below.refl wl.heap.size wl) hg2 (Nat.le_refl _) (by simp); have o2 := blk_below HBL.out.out b2; have z2 := blk_frozen o2 r; have c2 : ∃ u, w2.cell? ⟨W0.heap.size, r, none⟩ = some u := ⟨_, (blk_cell o2 r).trans (by rw [List.getElem?_toArray]; exact List.getElem?_eq_getElem (by have := HBL.out.vl; omega))⟩; obtain ⟨u2, c2⟩ := c2))
      have HRO : Hid (∃ L vs', BR W0.heap.size W0.heap.size H Wd r 0 wl.heap.size b vs' L W0 (w2.setCell ⟨W0.heap.size, r, none⟩ (.slice (some ⟨wl.heap.size, 0, none⟩) Wd Wd))) := Lib.hid ⟨_, _, HBL.out.open HR.out b2 HBL.out.bw.size (own_arr hown2).1 (own_arr hown2).2.1⟩
      clear hown2 hg2 b2 o2 z2 c2
      go_loopw [27] (fun kv wr => ∃ (c : Nat) (wx : World) (vs' L : List Value), wx = wr ∧ c ≤ Wd ∧ kv = .int .i64 (c : Nat) ∧ Hid (BR W0.heap.size W0.heap.size H Wd r c wl.heap.size b vs' L W0 wx)) (fun kv _ => Wd + 1 - (Go.RowKit.intOf kv).toNat)
      case atStart => obtain ⟨L, vs', hro⟩ := HRO.out; exact ⟨0, _, vs', L, rfl, Nat.zero_le _, rfl, hro⟩
      case round =>
        obtain ⟨c, wx, vs', L, rfl, hc, rfl, HX⟩ := hrel
        clear HRO
        by_cases hlc : c < Wd
        · have q3 : (c : Int) < (Wd : Int) := by omega
          have q4 : (0 : Int) ≤ (c : Int) := by omega
          have HC := Lib.hid hlc
          have x1 : wx.cell? ⟨W0.heap.size, r, none⟩ = some (.slice (some ⟨wl.heap.size, 0, none⟩) Wd Wd) := (blk_cell HX.out.out r).trans (by rw [List.getElem?_toArray]; exact HX.out.hv)
          have C : Hid (∀ W', Calls Try.prog 32 #[.int .i64 (r : Nat), .int .i64 (c : Nat)] W' fun e w' => e = .returned (.int .i64 (-1)) ∧ w' = W') := Lib.hid (fun W' => minus_calls r c W')
          have z3 : wx.drew.frozen? ⟨wl.heap.size, c, none⟩ = false := blk_frozen (w := wx.drew) HX.out.row c
          obtain ⟨u3, c3⟩ : ∃ u, wx.drew.cell? ⟨wl.heap.size, c, none⟩ = some u := ⟨_, (blk_cell (w := wx.drew) HX.out.row c).trans (by rw [List.getElem?_toArray]; exact List.getElem?_eq_getElem (by have := HX.out.ll; omega))⟩
          have RS := Lib.hid (HX.out.step HC.out 1)
          clear hlc
          go_wp2_with fail
          go_region_held3 (fun w' => w'.cell? ⟨W0.heap.size, r, none⟩ = some (.slice (some ⟨wl.heap.size, 0, none⟩) Wd Wd))
            (first
              | exact x1
              | assumption
              | exact cell_apart x1 HX.out.go)
            (first
              | (refine (C.out _).mono ?_; rintro e w3 ⟨rfl, rfl⟩))
          go_wp2_with fail
          go_roundw
          case rel => exact ⟨c + 1, _, vs', _, rfl, HC.out, by push_cast; rfl, RS⟩
          case measure => simp [intOf]; have := HC.out; omega
        · obtain rfl : c = Wd := by omega
          go_wp2
          go_roundw
          case rel => exact ⟨r + 1, wx, _, vs', rfl, by have := HR.out; omega, by push_cast; rfl, HX.out.last⟩
          case measure => simp [intOf]; omega
    · obtain rfl : r = H := by omega
      go_wp2
      go_ret
      exact ⟨_, b, vs, rfl, HBL.out⟩
end Go.Proofs.Ytjbjpkphepfldaa.S

/- What spec's functions that make a plan of a plan tell. -/
import Derived.Test.YtpilppppkjenaaaLInB
import Derived.Test.YtpilppppkjenaaaMv2
import Derived.Test.YtpilppppkjenaaaQa6
import Derived.Test.YtpilppppkjenaaaQa7
namespace Go.Proofs.Ytpilppppkjenaaa.QaL
open Go.RowKit Go.Proofs.Ytpilppppkjenaaa.S Go.Proofs.Ytpilppppkjenaaa.Qa Go.Proofs.YtpilppppkjenaaaW.PrintWords Go.Proofs.YtpilppppkjenaaaW.PrintLast Go.Proofs.YtpilppppkjenaaaW.PrintMore
set_option linter.unusedVariables false
set_option linter.unusedSimpArgs false

/-- Texts of a grid of letters' numbers. -/
def part (g : Nat → Nat → Int) (r c : Nat) : List Int := (List.range c).map fun k => g r k
def txs (H W : Nat) (g : Nat → Nat → Int) : List ByteArray := (List.range H).map fun r => strOfNums (part g r W)
theorem part_succ (g : Nat → Nat → Int) (r c : Nat) : part g r (c + 1) = part g r c ++ [g r c] := by
  unfold part
  rw [List.range_succ, List.map_append]
  rfl
theorem part_len (g : Nat → Nat → Int) (r c : Nat) : (part g r c).length = c := by simp [part]
theorem txs_succ (W : Nat) (g : Nat → Nat → Int) (i : Nat) : txs (i + 1) W g = txs i W g ++ [strOfNums (part g i W)] := by
  unfold txs
  rw [List.range_succ, List.map_append]
  rfl
theorem txs_len (H W : Nat) (g : Nat → Nat → Int) : (txs H W g).length = H := by simp [txs]
theorem bnum_str {l : List Int} (h : ∀ k ∈ l, 0 ≤ k ∧ k < 256) : bnum (strOfNums l) = l := by
  unfold bnum strOfNums
  simp only [List.map_map]
  conv => rhs; rw [← List.map_id l]
  apply List.map_congr_left
  intro k hk
  have := h k hk
  simp only [Function.comp_apply, id]
  rw [UInt8.toNat_ofNat']
  omega
theorem part_all {g : Nat → Nat → Int} {P : Int → Prop} {r W : Nat} (h : ∀ c, c < W → P (g r c)) : ∀ k ∈ part g r W, P k := fun k hk => by
  simp only [part, List.mem_map, List.mem_range] at hk
  obtain ⟨c, hc, rfl⟩ := hk
  exact h c hc
theorem txs_nums {H W : Nat} {g : Nat → Nat → Int} (h : ∀ r c, r < H → c < W → 97 ≤ g r c ∧ g r c ≤ 122) : (txs H W g).map bnum = mk H W g := by
  unfold txs mk
  rw [List.map_map]
  apply List.map_congr_left
  intro r hr
  have hr := List.mem_range.1 hr
  simp only [Function.comp_apply]
  rw [bnum_str (part_all (fun c hc => by have := h r c hr hc; omega))]
  rfl
theorem txs_gr {H W : Nat} {g : Nat → Nat → Int} (h1 : 1 ≤ H) (h2 : H ≤ 6) (h3 : 1 ≤ W) (h4 : W ≤ 6) (h : ∀ r c, r < H → c < W → 97 ≤ g r c ∧ g r c ≤ 122) : Gr (txs H W g) H W where
  len := txs_len H W g
  h1 := h1
  h6 := h2
  w1 := h3
  w6 := h4
  row := fun i hi => by
    simp only [txs, List.getElem_map]
    rw [strOfNums_size, part_len]
  lets := by
    rw [List.all_eq_true]
    intro s hs
    simp only [txs, List.mem_map, List.mem_range] at hs
    obtain ⟨r, hr, rfl⟩ := hs
    unfold S.lets
    rw [bnum_str (part_all (fun c hc => by have := h r c hr hc; omega)), List.all_eq_true]
    exact fun x hx => part_all (P := fun x => letter x = true) (fun c hc => decide_eq_true (h r c hr hc)) x hx

/-- A plan's letters. -/
theorem letter_at {p : List ByteArray} (hf : ffine p = true) {r c : Nat} (hr : r < p.length) (hc : c < wid (p.map bnum)) : gat (p.map bnum) r c = 97 + vals (p.map bnum) (wid (p.map bnum)) r c := by
  have h : Nm p p.length (wid (p.map bnum)) := ⟨gr_of (lets_all (ffine_r hf).1), (ffine_r hf).2⟩
  have e2 := gat_anew (m := p.map bnum) (r := r) (c := c) (by rw [List.length_map]; exact hr) hc
  rw [← anew_texts h.toGr, h.same] at e2
  exact e2
theorem vals_25 {p : List ByteArray} (hf : ffine p = true) {r c : Nat} (hr : r < p.length) (hc : c < wid (p.map bnum)) : 0 ≤ vals (p.map bnum) (wid (p.map bnum)) r c ∧ vals (p.map bnum) (wid (p.map bnum)) r c ≤ 25 := by
  have h1 := vals_bound (m := p.map bnum) (by rw [List.length_map]; exact hr) hc
  have h2 := (rooms_ok (ffine_fine hf)).2
  omega
/-- A moved plan is the plan of the moved letters. -/
theorem moved_is {p : List ByteArray} {H W : Nat} {a b : Nat → Nat → Nat} {G : List (List Int) → List (List Int)} (hf : ffine p = true) (h1 : 1 ≤ H) (h2 : H ≤ 6) (h3 : 1 ≤ W) (h4 : W ≤ 6) (hab : ∀ r c, r < H → c < W → a r c < p.length ∧ b r c < wid (p.map bnum))
    (hG : G (numsOf (p.map bnum)) = mk H W fun r c => gat (numsOf (p.map bnum)) (a r c) (b r c)) (hm : ∀ g, fine (mk p.length (wid (p.map bnum)) g) = true → fine (mk H W fun r c => g (a r c) (b r c)) = true) :
    movedOk G p = true ∧ moved G p = rowTexts (txs H W fun r c => gat (p.map bnum) (a r c) (b r c)) ∧ Gr (txs H W fun r c => gat (p.map bnum) (a r c) (b r c)) H W := by
  have hl : (p.map bnum).length = p.length := List.length_map ..
  obtain ⟨f1, f2, f3, f4, f5, -⟩ := of_decide_eq_true (ffine_fine hf)
  have hb : ∀ r c, r < H → c < W → 97 ≤ gat (p.map bnum) (a r c) (b r c) ∧ gat (p.map bnum) (a r c) (b r c) ≤ 122 := fun r c hr hc => by
    obtain ⟨q1, q2⟩ := hab r c hr hc
    have := vals_25 hf q1 q2
    rw [letter_at hf q1 q2]
    omega
  have e1 : G (numsOf (p.map bnum)) = mk H W fun r c => vals (p.map bnum) (wid (p.map bnum)) (a r c) (b r c) := by
    rw [hG]
    refine mk_congr (fun r c hr hc => ?_)
    obtain ⟨q1, q2⟩ := hab r c hr hc
    exact gat_nums (by rw [hl]; exact q1) q2
  have hinj : ∀ x y : Int, 97 + x = 97 + y → x = y := fun x y e => by omega
  have hv : fine (mk p.length (wid (p.map bnum)) (vals (p.map bnum) (wid (p.map bnum)))) = true := by
    refine rel_fine (g' := gat (p.map bnum)) (f := fun x => 97 + x) hinj (fun r c hr hc => letter_at hf hr hc) ?_
    have := mk_of f5
    rw [hl] at this
    rw [← this]
    exact ffine_fine hf
  have hok : movedOk G p = true := by
    unfold movedOk
    rw [hf, e1, hm _ hv]
    rfl
  refine ⟨hok, ?_, txs_gr h1 h2 h3 h4 hb⟩
  unfold moved
  rw [if_pos hok, e1]
  unfold rowTexts
  rw [txs_nums hb, (rel_same (g' := fun r c => gat (p.map bnum) (a r c) (b r c)) (g := fun r c => vals (p.map bnum) (wid (p.map bnum)) (a r c) (b r c)) (f := fun x => 97 + x) h1 hinj (fun r c hr hc => by
    obtain ⟨q1, q2⟩ := hab r c hr hc
    exact letter_at hf q1 q2)).1]

/-! ### l1Flip, l1Trans, l1Turn -/
theorem flip_ends {p : List ByteArray} {H W : Nat} (h : Gr p H W) {g : Nat → Nat → Int} (hg : ∀ r c, r < H → c < W → g r c = gat (p.map bnum) r (W - 1 - c)) (hq : Gr (txs H W g) H W) : Ends (fun k => spec_l1Flip.f k p) (rowTexts (txs H W g)) := by
  have hl := h.len
  have hw6 := h.w6
  have hh6 := h.h6
  refine nest (H := H) (W := W) (fun i => Ends (fun k => spec_l1Flip.l0 k p (txs i W g) (i : Int)) (rowTexts (txs H W g)))
    (fun i c => Ends (fun k => spec_l1Flip.l1 k p (txs i W g) (i : Int) (part g i c) ((W : Int) - 1 - (c : Int))) (rowTexts (txs H W g))) ?_ ?_ ?_ ?_
  · refine Ends.back (G := fun k => (spec_l1Names.f k (txs H W g)).bind fun t => some t) (fun k => ?_) (Ends.bind hq.names (Ends.all (fun k => rfl)))
    simp only [spec_l1Flip.l0]
    rw [if_neg (by omega)]
  · intro i hi hn
    refine Ends.back (fun k => ?_) hn
    simp only [spec_l1Flip.l1]
    rw [if_neg (by omega), if_pos (by rw [txs_len]; omega), w64 _ (by omega), nat1, ← txs_succ]
  · intro i c hi hc hn
    obtain ⟨e1, e2⟩ := h.at hi (show W - 1 - c < W by omega)
    have e3 : (W : Int) - 1 - (c : Int) = ((W - 1 - c : Nat) : Int) := by omega
    have e4 : (W : Int) - 1 - ((c + 1 : Nat) : Int) = ((W - 1 - c : Nat) : Int) - 1 := by omega
    rw [e4, part_succ, hg i c hi hc] at hn
    refine Ends.back (fun k => ?_) hn
    simp only [spec_l1Flip.l1]
    rw [e3, if_pos (by omega), if_pos (by omega), if_pos (by omega), if_pos (by omega), e2, if_pos (by omega), if_pos (by rw [part_len]; omega), e1, w64 _ (by omega)]
  · intro i hi hn
    refine Ends.back (fun k => ?_) hn
    simp only [spec_l1Flip.l0]
    rw [if_pos (by omega), if_pos (by omega), h.size hi, w64 _ (by omega)]
    congr 1
    omega
theorem trans_ends {p : List ByteArray} {H W : Nat} (h : Gr p H W) {g : Nat → Nat → Int} (hg : ∀ r c, r < W → c < H → g r c = gat (p.map bnum) c r) : Ends (fun k => spec_l1Trans.f k p) (txs W H g) := by
  have hl := h.len
  have hw6 := h.w6
  have hh6 := h.h6
  have hh1 := h.h1
  have hs0 : ((rdOf ByteArray.empty p 0).size : Int) = W := h.size (i := 0) (by omega)
  refine nest (H := W) (W := H) (fun i => Ends (fun k => spec_l1Trans.l0 k p (txs i H g) (i : Int)) (txs W H g))
    (fun i c => Ends (fun k => spec_l1Trans.l1 k p (txs i H g) (i : Int) (part g i c) (c : Int)) (txs W H g)) ?_ ?_ ?_ ?_
  · refine Ends.now (fun k => ?_)
    simp only [spec_l1Trans.l0]
    rw [if_pos (by omega), hs0, if_neg (by omega)]
  · intro i hi hn
    refine Ends.back (fun k => ?_) hn
    simp only [spec_l1Trans.l1]
    rw [if_neg (by omega), if_pos (by rw [txs_len]; omega), w64 _ (by omega), nat1, ← txs_succ]
  · intro i c hi hc hn
    obtain ⟨e1, e2⟩ := h.at hc hi
    rw [part_succ, hg i c hi hc] at hn
    refine Ends.back (fun k => ?_) hn
    simp only [spec_l1Trans.l1]
    rw [if_pos (by omega), if_pos (by omega), if_pos (by omega), e2, if_pos (by omega), if_pos (by rw [part_len]; omega), e1, w64 _ (by omega), nat1]
  · intro i hi hn
    refine Ends.back (fun k => ?_) hn
    simp only [spec_l1Trans.l0]
    rw [if_pos (by omega), hs0, if_pos (by omega)]
    rfl
theorem turn_ends {p : List ByteArray} {H W : Nat} (h : Gr p H W) {g : Nat → Nat → Int} (hg : ∀ r c, r < W → c < H → g r c = gat (p.map bnum) (H - 1 - c) r) (hq : Gr (txs W H g) W H) : Ends (fun k => spec_l1Turn.f k p) (rowTexts (txs W H g)) := by
  have hl := h.len
  have hw6 := h.w6
  have hh6 := h.h6
  have hh1 := h.h1
  have hs0 : ((rdOf ByteArray.empty p 0).size : Int) = W := h.size (i := 0) (by omega)
  refine nest (H := W) (W := H) (fun i => Ends (fun k => spec_l1Turn.l0 k p (txs i H g) (i : Int)) (rowTexts (txs W H g)))
    (fun i c => Ends (fun k => spec_l1Turn.l1 k p (txs i H g) (i : Int) (part g i c) ((H : Int) - 1 - (c : Int))) (rowTexts (txs W H g))) ?_ ?_ ?_ ?_
  · refine Ends.back (G := fun k => (spec_l1Names.f k (txs W H g)).bind fun t => some t) (fun k => ?_) (Ends.bind hq.names (Ends.all (fun k => rfl)))
    simp only [spec_l1Turn.l0]
    rw [if_pos (by omega), hs0, if_neg (by omega)]
  · intro i hi hn
    refine Ends.back (fun k => ?_) hn
    simp only [spec_l1Turn.l1]
    rw [if_neg (by omega), if_pos (by rw [txs_len]; omega), w64 _ (by omega), nat1, ← txs_succ]
  · intro i c hi hc hn
    obtain ⟨e1, e2⟩ := h.at (show H - 1 - c < H by omega) hi
    have e3 : (H : Int) - 1 - (c : Int) = ((H - 1 - c : Nat) : Int) := by omega
    have e4 : (H : Int) - 1 - ((c + 1 : Nat) : Int) = ((H - 1 - c : Nat) : Int) - 1 := by omega
    rw [e4, part_succ, hg i c hi hc] at hn
    refine Ends.back (fun k => ?_) hn
    simp only [spec_l1Turn.l1]
    rw [e3, if_pos (by omega), if_pos (by omega), if_pos (by omega), if_pos (by omega), e2, if_pos (by omega), if_pos (by rw [part_len]; omega), e1, w64 _ (by omega)]
  · intro i hi hn
    refine Ends.back (fun k => ?_) hn
    simp only [spec_l1Turn.l0]
    rw [if_pos (by omega), hs0, if_pos (by omega), w64 _ (by omega), hl]
    congr 1
    omega

/-! ### what the reference tells -/
theorem gr_plan {p : List ByteArray} (hf : ffine p = true) : Gr p p.length (wid (p.map bnum)) := gr_of (lets_all (ffine_r hf).1)
theorem not_moved {p : List ByteArray} (hf : ¬ ffine p = true) (G : List (List Int) → List (List Int)) : movedOk G p = false ∧ moved G p = [] := by
  have h : movedOk G p = false := by
    unfold movedOk
    rw [Bool.eq_false_iff.2 hf]
    rfl
  refine ⟨h, ?_⟩
  unfold moved
  rw [h]
  rfl
theorem nums_wid {p : List ByteArray} (hf : ffine p = true) : (numsOf (p.map bnum)).length = p.length ∧ wid (numsOf (p.map bnum)) = wid (p.map bnum) := by
  have h := gr_plan hf
  have h1 := h.h1
  have hl : (p.map bnum).length = p.length := List.length_map ..
  refine ⟨by rw [numsOf_len, hl], ?_⟩
  have e : numsOf (p.map bnum) = mk (p.map bnum).length (wid (p.map bnum)) (vals (p.map bnum) (wid (p.map bnum))) := rfl
  rw [e, mk_wid (by omega)]
theorem specflip_ends (p : List ByteArray) (hb : p.length ≤ 4000000) (hs : ∀ s ∈ p, s.size ≤ 4000000) : Ends (fun k => spec_PlanFlip.f k p) (moved flipG p, movedOk flipG p) := by
  refine Ends.bind (planin_ends p hb hs) ?_
  by_cases hf : ffine p = true
  · have h := gr_plan hf
    obtain ⟨e1, e2⟩ := nums_wid hf
    obtain ⟨m1, m2, m3⟩ := moved_is (G := flipG) (a := fun r c => r) (b := fun r c => wid (p.map bnum) - 1 - c) hf h.h1 h.h6 h.w1 h.w6 (fun r c hr hc => ⟨hr, by omega⟩) (by unfold flipG; rw [e1, e2]) (fun g hg => fine_flip hg)
    rw [m1, m2]
    exact Ends.yes hf (Ends.bind (flip_ends h (fun r c _ _ => rfl) m3) (Ends.all (fun k => rfl)))
  · obtain ⟨m1, m2⟩ := not_moved hf flipG
    rw [m1, m2]
    exact Ends.no hf (Ends.all (fun k => rfl))
theorem spectrans_ends (p : List ByteArray) (hb : p.length ≤ 4000000) (hs : ∀ s ∈ p, s.size ≤ 4000000) : Ends (fun k => spec_PlanTrans.f k p) (moved crossG p, movedOk crossG p) := by
  refine Ends.bind (planin_ends p hb hs) ?_
  by_cases hf : ffine p = true
  · have h := gr_plan hf
    obtain ⟨e1, e2⟩ := nums_wid hf
    obtain ⟨m1, m2, m3⟩ := moved_is (G := crossG) (a := fun r c => c) (b := fun r c => r) hf h.w1 h.w6 h.h1 h.h6 (fun r c hr hc => ⟨hc, hr⟩) (by unfold crossG; rw [e1, e2]) (fun g hg => fine_cross hg)
    rw [m1, m2]
    exact Ends.yes hf (Ends.bind (trans_ends h (fun r c _ _ => rfl)) (Ends.bind m3.names (Ends.all (fun k => rfl))))
  · obtain ⟨m1, m2⟩ := not_moved hf crossG
    rw [m1, m2]
    exact Ends.no hf (Ends.all (fun k => rfl))
theorem specturn_ends (p : List ByteArray) (hb : p.length ≤ 4000000) (hs : ∀ s ∈ p, s.size ≤ 4000000) : Ends (fun k => spec_PlanTurn.f k p) (moved turnG p, movedOk turnG p) := by
  refine Ends.bind (planin_ends p hb hs) ?_
  by_cases hf : ffine p = true
  · have h := gr_plan hf
    obtain ⟨e1, e2⟩ := nums_wid hf
    obtain ⟨m1, m2, m3⟩ := moved_is (G := turnG) (a := fun r c => p.length - 1 - c) (b := fun r c => r) hf h.w1 h.w6 h.h1 h.h6 (fun r c hr hc => ⟨by omega, hr⟩) (by unfold turnG; rw [e1, e2]) (fun g hg => fine_turn hg)
    rw [m1, m2]
    exact Ends.yes hf (Ends.bind (turn_ends h (fun r c _ _ => rfl) m3) (Ends.all (fun k => rfl)))
  · obtain ⟨m1, m2⟩ := not_moved hf turnG
    rw [m1, m2]
    exact Ends.no hf (Ends.all (fun k => rfl))
theorem moved_small (G : List (List Int) → List (List Int)) (p : List ByteArray) : (moved G p).length ≤ 6 := by
  unfold moved
  split
  · rename_i h
    unfold movedOk at h
    rw [Bool.and_eq_true] at h
    have := (of_decide_eq_true h.2).2.1
    rw [List.length_map, numsOf_len]
    exact this
  · simp
end Go.Proofs.Ytpilppppkjenaaa.QaL

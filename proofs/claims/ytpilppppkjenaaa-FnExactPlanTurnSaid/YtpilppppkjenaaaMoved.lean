import Derived.Test.YtpilppppkjenaaaFiveB
/- Plans: cells moved (seen from behind, rows and columns exchanged, turned) stay a plan. -/
namespace Go.Proofs.Ytpilppppkjenaaa.S
set_option linter.unusedVariables false
set_option linter.unusedSimpArgs false

/-! ### grids told by a function -/
def mk (H W : Nat) (g : Nat → Nat → Int) : List (List Int) := (List.range H).map fun r => (List.range W).map fun c => g r c
theorem mk_len (H W : Nat) (g : Nat → Nat → Int) : (mk H W g).length = H := by simp [mk]
theorem mk_row {H W : Nat} {g : Nat → Nat → Int} : ∀ l ∈ mk H W g, l.length = W := fun l hl => by
  simp only [mk, List.mem_map, List.mem_range] at hl
  obtain ⟨r, hr, rfl⟩ := hl
  simp
theorem mk_wid {H W : Nat} {g : Nat → Nat → Int} (h : 0 < H) : wid (mk H W g) = W := by
  unfold wid mk
  rw [List.getD_eq_getElem?_getD, List.getElem?_map, List.getElem?_range h]
  simp
theorem mk_gat {H W : Nat} {g : Nat → Nat → Int} {r c : Nat} (hr : r < H) (hc : c < W) : gat (mk H W g) r c = g r c := by
  unfold gat mk
  rw [List.getD_eq_getElem?_getD (l := List.map _ _), List.getElem?_map, List.getElem?_range hr]
  simp only [Option.map_some, Option.getD_some]
  rw [List.getD_eq_getElem?_getD, List.getElem?_map, List.getElem?_range hc]
  rfl
theorem mk_congr {H W : Nat} {f g : Nat → Nat → Int} (h : ∀ r c, r < H → c < W → f r c = g r c) : mk H W f = mk H W g := by
  unfold mk
  apply List.map_congr_left
  intro r hr
  apply List.map_congr_left
  intro c hc
  exact h r c (List.mem_range.1 hr) (List.mem_range.1 hc)
theorem mk_of {m : List (List Int)} {W : Nat} (h : ∀ l ∈ m, l.length = W) : m = mk m.length W (gat m) := by
  apply List.ext_getElem?
  intro r
  by_cases hr : r < m.length
  · unfold mk
    rw [List.getElem?_map, List.getElem?_range hr, List.getElem?_eq_getElem hr]
    simp only [Option.map_some, Option.some.injEq]
    have hl := h _ (List.getElem_mem hr)
    apply List.ext_getElem?
    intro c
    by_cases hc : c < W
    · rw [List.getElem?_map, List.getElem?_range hc, List.getElem?_eq_getElem (by omega)]
      simp only [Option.map_some, Option.some.injEq]
      unfold gat
      rw [List.getD_eq_getElem?_getD (l := m), List.getElem?_eq_getElem hr]
      simp only [Option.getD_some]
      rw [List.getD_eq_getElem?_getD, List.getElem?_eq_getElem (by omega)]
      rfl
    · rw [List.getElem?_eq_none (by omega), List.getElem?_eq_none (by simp; omega)]
  · rw [List.getElem?_eq_none (by omega), List.getElem?_eq_none (by rw [mk_len]; omega)]

/-! ### numbers told by other numbers -/
theorem run_rel {m m' : List (List Int)} {W N : Nat} {f : Int → Int} (hf : ∀ a b, f a = f b → a = b) (h : ∀ j, j < N → gat m' (j / W) (j % W) = f (gat m (j / W) (j % W))) : ∀ j, j ≤ N → run m' W j = ((run m W j).1.map f, (run m W j).2)
  | 0, _ => rfl
  | j + 1, hj => by
    have ih := run_rel hf h j (by omega)
    show stp (run m' W j) (gat m' (j / W) (j % W)) (j / W) (j % W) = ((stp (run m W j) (gat m (j / W) (j % W)) (j / W) (j % W)).1.map f, (stp (run m W j) (gat m (j / W) (j % W)) (j / W) (j % W)).2)
    rw [ih, h j (by omega)]
    generalize gat m (j / W) (j % W) = x
    have hm : f x ∈ (run m W j).1.map f ↔ x ∈ (run m W j).1 := by
      rw [List.mem_map]
      exact ⟨fun ⟨y, hy, e⟩ => hf _ _ e ▸ hy, fun h => ⟨x, h, rfl⟩⟩
    have hp : pos (f x) ((run m W j).1.map f) = pos x (run m W j).1 := by
      generalize (run m W j).1 = l
      induction l with
      | nil => rfl
      | cons z l ih =>
        simp only [List.map_cons, pos]
        rw [ih]
        by_cases e : z = x
        · rw [if_pos e, if_pos (by rw [e])]
        · rw [if_neg e, if_neg (fun e2 => e (hf _ _ e2))]
    unfold stp
    by_cases hx : x ∈ (run m W j).1
    · rw [if_pos hx, if_pos (hm.2 hx)]
      simp only []
      rw [hp]
    · rw [if_neg hx, if_neg (fun y => hx (hm.1 y))]
      simp
theorem pos_rel {f : Int → Int} (hf : ∀ a b, f a = f b → a = b) (x : Int) : ∀ l : List Int, pos (f x) (l.map f) = pos x l
  | [] => rfl
  | z :: l => by
    simp only [List.map_cons, pos]
    rw [pos_rel hf x l]
    by_cases e : z = x
    · rw [if_pos e, if_pos (by rw [e])]
    · rw [if_neg e, if_neg (fun e2 => e (hf _ _ e2))]
/-- Two grids of which one tells the other's numbers by other numbers. -/
theorem rel_same {H W : Nat} {g g' : Nat → Nat → Int} {f : Int → Int} (hH : 0 < H) (hf : ∀ a b, f a = f b → a = b) (h : ∀ r c, r < H → c < W → g' r c = f (g r c)) : numsOf (mk H W g') = numsOf (mk H W g) ∧ roomsOf (mk H W g') = roomsOf (mk H W g) := by
  have hrun := run_rel (m := mk H W g) (m' := mk H W g') (W := W) (N := H * W) hf (fun j hj => by
    by_cases hW : 0 < W
    · have d1 : j / W < H := Nat.div_lt_of_lt_mul (by rw [Nat.mul_comm]; omega)
      have d2 : j % W < W := Nat.mod_lt _ hW
      rw [mk_gat d1 d2, mk_gat d1 d2, h _ _ d1 d2]
    · obtain rfl : W = 0 := by omega
      omega)
  constructor
  · unfold numsOf
    rw [mk_len, mk_len, mk_wid hH, mk_wid hH]
    apply List.map_congr_left
    intro r hr
    apply List.map_congr_left
    intro c hc
    have hr := List.mem_range.1 hr
    have hc := List.mem_range.1 hc
    unfold vals
    rw [hrun _ (by have := lin_lt hr hc; omega), mk_gat hr hc, mk_gat hr hc, h _ _ hr hc, pos_rel hf]
  · unfold roomsOf
    rw [mk_len, mk_len, mk_wid hH, mk_wid hH, hrun _ (Nat.le_refl _)]
theorem rel_fine {H W : Nat} {g g' : Nat → Nat → Int} {f : Int → Int} (hf : ∀ a b, f a = f b → a = b) (h : ∀ r c, r < H → c < W → g' r c = f (g r c)) (hg : fine (mk H W g') = true) : fine (mk H W g) = true := by
  obtain ⟨f1, f2, f3, f4, f5, f6, f7⟩ := of_decide_eq_true hg
  rw [mk_len] at f1 f2 f7
  have hH : 0 < H := f1
  rw [mk_wid hH] at f3 f4 f7
  rw [(rel_same hH hf h).2] at f6 f7
  unfold fine
  apply decide_eq_true
  rw [mk_len, mk_wid hH]
  exact ⟨f1, f2, f3, f4, mk_row, f6, f7⟩

/-! ### rooms are rectangles -/
/-- The cells of a number are a rectangle. -/
def RectAt (m : List (List Int)) (H W : Nat) (v : Int) : Prop := ∃ t h l w : Nat, t + h ≤ H ∧ l + w ≤ W ∧ ∀ r c, r < H → c < W → (gat m r c = v ↔ (t ≤ r ∧ r < t + h) ∧ (l ≤ c ∧ c < l + w))
theorem vat_fin {m : List (List Int)} {W N j : Nat} (hj : j < N) : vat m W j = pos (gat m (j / W) (j % W)) (run m W N).1 ∧ gat m (j / W) (j % W) ∈ (run m W N).1 := by
  obtain ⟨t, ht⟩ := run_pre m W (j + 1) (N - (j + 1))
  rw [show j + 1 + (N - (j + 1)) = N by omega] at ht
  have hm := run_has m W j
  rw [ht]
  exact ⟨(pos_app_old hm).symm, List.mem_append_left _ hm⟩
theorem vat_eq {m : List (List Int)} {W N i j : Nat} (hi : i < N) (hj : j < N) : vat m W i = vat m W j ↔ gat m (i / W) (i % W) = gat m (j / W) (j % W) := by
  obtain ⟨a1, a2⟩ := vat_fin (m := m) (W := W) hi
  obtain ⟨b1, b2⟩ := vat_fin (m := m) (W := W) hj
  rw [a1, b1]
  exact ⟨fun e => pos_inj a2 e, fun e => by rw [e]⟩
theorem cell_of {W : Nat} (hW : 0 < W) (H j : Nat) (hj : j < H * W) : j / W < H ∧ j % W < W := ⟨Nat.div_lt_of_lt_mul (by rw [Nat.mul_comm]; exact hj), Nat.mod_lt _ hW⟩
theorem cnt_one (V : Nat → Nat) (a j0 : Nat) (h : V j0 ≠ a) : ∀ n, cnt (fun j => if j = j0 then a else V j) a n = cnt V a n + (if j0 < n then 1 else 0)
  | 0 => rfl
  | n + 1 => by
    simp only [cnt]
    rw [cnt_one V a j0 h n]
    by_cases e : n = j0
    · subst e
      simp [h]
    · by_cases hl : j0 < n
      · have h2 : j0 < n + 1 := by omega
        simp [e, hl, h2]
        omega
      · have h2 : ¬ j0 < n + 1 := by omega
        simp [e, hl, h2]
theorem cnt_rect (V : Nat → Nat) (a H W t h l w : Nat) (hth : t + h ≤ H) (hlw : l + w ≤ W) (hb : ∀ i, i < H * W → (V i = a ↔ (t ≤ i / W ∧ i / W < t + h) ∧ (l ≤ i % W ∧ i % W < l + w))) : cnt V a (H * W) = h * w := by
  have key : ∀ r, r ≤ H → cnt V a (r * W) = min (r - t) h * w := by
    intro r
    induction r with
    | zero => intro _; simp [cnt]
    | succ r ih =>
      intro hr
      have ih := ih (by omega)
      have col : ∀ c, c ≤ W → cnt V a (r * W + c) = cnt V a (r * W) + (if t ≤ r ∧ r < t + h then min (c - l) w else 0) := by
        intro c
        induction c with
        | zero => intro _; simp
        | succ c ih2 =>
          intro hc
          have ih2 := ih2 (by omega)
          obtain ⟨e1, e2⟩ := at_div (W := W) (r := r) (c := c) (by omega)
          have hlt : r * W + c < H * W := by
            have : (r + 1) * W ≤ H * W := Nat.mul_le_mul_right _ hr
            rw [Nat.succ_mul] at this
            omega
          have hbi := hb _ hlt
          rw [e1, e2] at hbi
          show cnt V a (r * W + c) + (if V (r * W + c) = a then 1 else 0) = _
          by_cases hin : t ≤ r ∧ r < t + h
          · rw [if_pos hin] at ih2 ⊢
            by_cases hc2 : l ≤ c ∧ c < l + w
            · rw [if_pos (hbi.2 ⟨hin, hc2⟩)]
              omega
            · rw [if_neg (fun x => hc2 (hbi.1 x).2)]
              omega
          · rw [if_neg hin] at ih2 ⊢
            rw [if_neg (fun x => hin (hbi.1 x).1)]
            omega
      have hW := col W (Nat.le_refl _)
      rw [Nat.succ_mul, hW, ih]
      by_cases hin : t ≤ r ∧ r < t + h
      · rw [if_pos hin]
        have e : min (r + 1 - t) h = min (r - t) h + 1 := by omega
        rw [e, Nat.succ_mul]
        omega
      · rw [if_neg hin]
        have e : min (r + 1 - t) h = min (r - t) h := by omega
        rw [e]
        rfl
  rw [key H (Nat.le_refl _)]
  congr 1
  omega
theorem bxt_ge {V : Nat → Nat} {W H a : Nat} {t : Int} (h0 : t ≤ H) : ∀ j, (∀ i, i < j → V i = a → t ≤ ((i / W : Nat) : Int)) → t ≤ bxt V W H a j
  | 0, _ => h0
  | j + 1, h => by
    have ih := bxt_ge h0 j (fun i hi => h i (by omega))
    simp only [bxt]
    by_cases e : V j = a
    · rw [if_pos e]
      have := h j (by omega) e
      omega
    · rw [if_neg e]; exact ih
theorem bxl_ge {V : Nat → Nat} {W a : Nat} {t : Int} (h0 : t ≤ W) : ∀ j, (∀ i, i < j → V i = a → t ≤ ((i % W : Nat) : Int)) → t ≤ bxl V W a j
  | 0, _ => h0
  | j + 1, h => by
    have ih := bxl_ge h0 j (fun i hi => h i (by omega))
    simp only [bxl]
    by_cases e : V j = a
    · rw [if_pos e]
      have := h j (by omega) e
      omega
    · rw [if_neg e]; exact ih
theorem bxo_le {V : Nat → Nat} {W a : Nat} {t : Int} (h0 : -1 ≤ t) : ∀ j, (∀ i, i < j → V i = a → ((i / W : Nat) : Int) ≤ t) → bxo V W a j ≤ t
  | 0, _ => h0
  | j + 1, h => by
    have ih := bxo_le h0 j (fun i hi => h i (by omega))
    simp only [bxo]
    by_cases e : V j = a
    · rw [if_pos e]
      have := h j (by omega) e
      omega
    · rw [if_neg e]; exact ih
theorem bxr_le {V : Nat → Nat} {W a : Nat} {t : Int} (h0 : -1 ≤ t) : ∀ j, (∀ i, i < j → V i = a → ((i % W : Nat) : Int) ≤ t) → bxr V W a j ≤ t
  | 0, _ => h0
  | j + 1, h => by
    have ih := bxr_le h0 j (fun i hi => h i (by omega))
    simp only [bxr]
    by_cases e : V j = a
    · rw [if_pos e]
      have := h j (by omega) e
      omega
    · rw [if_neg e]; exact ih
/-- In a plan, each number's cells are a rectangle. -/
theorem rect_of_full {m : List (List Int)} {H W : Nat} (hW : 0 < W) (hA : area (run m W (H * W)).2 = (H * W : Nat)) {r0 c0 : Nat} (hr0 : r0 < H) (hc0 : c0 < W) : RectAt m H W (gat m r0 c0) := by
  have hC := cw m W
  have hl0 := lin_lt hr0 hc0
  obtain ⟨e1, e2⟩ := at_div (W := W) (r := r0) (c := c0) hc0
  have ha := V_lt hC hl0
  have hf := (full_iff hC hW).1 hA _ ha
  generalize hd : vat m W (r0 * W + c0) = a at *
  have hlen := hC.len (H * W)
  have hg : (run m W (H * W)).2[a]? = some ((run m W (H * W)).2.getD a ⟨0, 0, 0, 0⟩) := by rw [List.getD_eq_getElem?_getD, List.getElem?_eq_getElem (by omega)]; rfl
  obtain ⟨x1, x2, x3, x4, x5, x6⟩ := (box_is (H := H) hC hW a (H * W) (Nat.le_refl _)).1 _ hg
  obtain ⟨⟨b1, b2, b3, b4, b5, b6, b7, b8⟩, hlie⟩ := bx_lies (vat m W) W H a hW (H * W) (Nat.le_refl _)
  generalize (run m W (H * W)).2.getD a ⟨0, 0, 0, 0⟩ = y at *
  obtain ⟨r, c, hh, ww⟩ := y
  simp only at *
  obtain ⟨r, rfl⟩ := Int.eq_ofNat_of_zero_le (show 0 ≤ r by omega)
  obtain ⟨c, rfl⟩ := Int.eq_ofNat_of_zero_le (show 0 ≤ c by omega)
  obtain ⟨hh, rfl⟩ := Int.eq_ofNat_of_zero_le (show 0 ≤ hh by omega)
  obtain ⟨ww, rfl⟩ := Int.eq_ofNat_of_zero_le (show 0 ≤ ww by omega)
  have hin : ∀ i, i < H * W → vat m W i = a → r ≤ i / W ∧ i / W < r + hh ∧ c ≤ i % W ∧ i % W < c + ww := fun i hi hv => by
    have := hlie i hi hv
    generalize i / W = q2 at *
    generalize i % W = s2 at *
    omega
  have hfn : cnt (vat m W) a (H * W) = hh * ww := by
    have : ((hh * ww : Nat) : Int) = (hh : Int) * (ww : Int) := Int.natCast_mul _ _
    omega
  refine ⟨r, hh, c, ww, by omega, by omega, fun r1 c1 hr1 hc1 => ?_⟩
  have hl1 := lin_lt hr1 hc1
  obtain ⟨d1, d2⟩ := at_div (W := W) (r := r1) (c := c1) hc1
  have hq : vat m W (r1 * W + c1) = a ↔ gat m r1 c1 = gat m r0 c0 := by
    rw [← hd, vat_eq hl1 hl0, d1, d2, e1, e2]
  rw [← hq]
  constructor
  · intro hv
    have := hin _ hl1 hv
    rw [d1, d2] at this
    omega
  · intro hbx
    by_cases hv : vat m W (r1 * W + c1) = a
    · exact hv
    · exfalso
      have h1 := cnt_one (vat m W) a (r1 * W + c1) hv (H * W)
      rw [if_pos hl1] at h1
      have h2 := cnt_box (fun j => if j = r1 * W + c1 then a else vat m W j) a H W r hh c ww (by omega) (fun i hi hvi => by
        by_cases e : i = r1 * W + c1
        · subst e
          rw [d1, d2]
          omega
        · simp only [if_neg e] at hvi
          exact hin i hi hvi)
      omega
theorem room_cell (m : List (List Int)) (W a : Nat) : ∀ N, a < lat m W N → ∃ j, j < N ∧ vat m W j = a := by
  intro N
  induction N with
  | zero => intro h; exact absurd h (Nat.not_lt_zero _)
  | succ N ih =>
    intro h
    rcases (cw m W).step N with ⟨h1, h2, _⟩ | ⟨h1, h2, _⟩
    · obtain ⟨j, hj, hv⟩ := ih (by omega)
      exact ⟨j, by omega, hv⟩
    · by_cases e : a = lat m W N
      · exact ⟨N, by omega, by omega⟩
      · obtain ⟨j, hj, hv⟩ := ih (by omega)
        exact ⟨j, by omega, hv⟩
/-- A grid whose numbers' cells are rectangles is full. -/
theorem full_of_rect {m : List (List Int)} {H W : Nat} (hW : 0 < W) (h : ∀ r c, r < H → c < W → RectAt m H W (gat m r c)) : area (run m W (H * W)).2 = (H * W : Nat) := by
  have hC := cw m W
  refine (full_iff hC hW).2 (fun a ha => ?_)
  obtain ⟨j0, hj0, hv0⟩ := room_cell m W a _ ha
  obtain ⟨q1, q2⟩ := cell_of hW H j0 hj0
  obtain ⟨t, hh, l, ww, ht, hl, hin⟩ := h _ _ q1 q2
  have hV : ∀ i, i < H * W → (vat m W i = a ↔ (t ≤ i / W ∧ i / W < t + hh) ∧ (l ≤ i % W ∧ i % W < l + ww)) := fun i hi => by
    obtain ⟨p1, p2⟩ := cell_of hW H i hi
    rw [← hin _ _ p1 p2, ← hv0]
    exact vat_eq hi hj0
  have hn := cnt_rect (vat m W) a H W t hh l ww ht hl hV
  have hlen := hC.len (H * W)
  have hg : (run m W (H * W)).2[a]? = some ((run m W (H * W)).2.getD a ⟨0, 0, 0, 0⟩) := by rw [List.getD_eq_getElem?_getD, List.getElem?_eq_getElem (by omega)]; rfl
  obtain ⟨x1, x2, x3, x4, x5, x6⟩ := (box_is (H := H) hC hW a (H * W) (Nat.le_refl _)).1 _ hg
  obtain ⟨-, hlie⟩ := bx_lies (vat m W) W H a hW (H * W) (Nat.le_refl _)
  have hpos := (hV j0 hj0).1 hv0
  have hcell : ∀ r c, (t ≤ r ∧ r < t + hh) → (l ≤ c ∧ c < l + ww) → bxt (vat m W) W H a (H * W) ≤ (r : Int) ∧ (r : Int) ≤ bxo (vat m W) W a (H * W) ∧ bxl (vat m W) W a (H * W) ≤ (c : Int) ∧ (c : Int) ≤ bxr (vat m W) W a (H * W) := fun r c hr hc => by
    have hlt := lin_lt (r := r) (c := c) (H := H) (W := W) (by omega) (by omega)
    obtain ⟨d1, d2⟩ := at_div (W := W) (r := r) (c := c) (by omega)
    have := hlie _ hlt ((hV _ hlt).2 (by rw [d1, d2]; exact ⟨hr, hc⟩))
    rw [d1, d2] at this
    exact this
  have k1 := hcell t l (by omega) (by omega)
  have k2 := hcell (t + hh - 1) (l + ww - 1) (by omega) (by omega)
  have g1 : (t : Int) ≤ bxt (vat m W) W H a (H * W) := bxt_ge (by omega) _ (fun i hi hv => by have := (hV i hi).1 hv; omega)
  have g2 : (l : Int) ≤ bxl (vat m W) W a (H * W) := bxl_ge (by omega) _ (fun i hi hv => by have := (hV i hi).1 hv; omega)
  have g3 : bxo (vat m W) W a (H * W) ≤ (t : Int) + hh - 1 := bxo_le (by omega) _ (fun i hi hv => by have := (hV i hi).1 hv; omega)
  have g4 : bxr (vat m W) W a (H * W) ≤ (l : Int) + ww - 1 := bxr_le (by omega) _ (fun i hi hv => by have := (hV i hi).1 hv; omega)
  rw [hn]
  generalize (run m W (H * W)).2.getD a ⟨0, 0, 0, 0⟩ = y at *
  have y1 : y.h = hh := by omega
  have y2 : y.w = ww := by omega
  rw [y1, y2, Int.natCast_mul]

/-! ### as many rooms -/
theorem nodup_le : ∀ {l k : List Int}, l.Nodup → (∀ x ∈ l, x ∈ k) → l.length ≤ k.length
  | [], _, _, _ => Nat.zero_le _
  | a :: l, k, hn, hs => by
    obtain ⟨h1, h2⟩ := List.nodup_cons.1 hn
    have ha := hs a (List.mem_cons_self ..)
    have := nodup_le (l := l) (k := k.erase a) h2 (fun x hx => (List.mem_erase_of_ne (fun e => h1 (by rw [← e]; exact hx))).2 (hs x (List.mem_cons_of_mem _ hx)))
    rw [List.length_erase_of_mem ha] at this
    have hk : 0 < k.length := List.length_pos_of_mem ha
    simp only [List.length_cons]
    omega
theorem run_nodup (m : List (List Int)) (W : Nat) : ∀ j, (run m W j).1.Nodup
  | 0 => List.nodup_nil
  | j + 1 => by
    have := run_nodup m W j
    simp only [run, stp]
    split
    · exact this
    · rename_i h
      rw [List.nodup_append]
      refine ⟨this, by simp, fun a ha b hb e => ?_⟩
      rw [List.mem_singleton] at hb
      exact h (hb ▸ e ▸ ha)
theorem run_mem (m : List (List Int)) (W : Nat) : ∀ j, ∀ x ∈ (run m W j).1, ∃ i, i < j ∧ x = gat m (i / W) (i % W)
  | 0, x, h => absurd h (by simp [run])
  | j + 1, x, h => by
    simp only [run, stp] at h
    split at h
    · obtain ⟨i, hi, e⟩ := run_mem m W j x h
      exact ⟨i, by omega, e⟩
    · rcases List.mem_append.1 h with h | h
      · obtain ⟨i, hi, e⟩ := run_mem m W j x h
        exact ⟨i, by omega, e⟩
      · exact ⟨j, by omega, List.mem_singleton.1 h⟩

/-- A plan's cells, moved so that rectangles stay rectangles, are a plan. -/
theorem fine_moved {H W H' W' : Nat} {g g' : Nat → Nat → Int} (hg : fine (mk H W g) = true) (h1 : 1 ≤ H') (h2 : H' ≤ 6) (h3 : 1 ≤ W') (h4 : W' ≤ 6) (hm : ∀ r c, r < H' → c < W' → ∃ r1 c1, r1 < H ∧ c1 < W ∧ g' r c = g r1 c1)
    (hr : ∀ v, RectAt (mk H W g) H W v → RectAt (mk H' W' g') H' W' v) : fine (mk H' W' g') = true := by
  obtain ⟨f1, f2, f3, f4, f5, f6, f7⟩ := of_decide_eq_true hg
  rw [mk_len] at f1 f2 f7
  have hH : 0 < H := f1
  rw [mk_wid hH] at f3 f4 f7
  unfold roomsOf at f6 f7
  rw [mk_len, mk_wid hH] at f6 f7
  unfold fine
  apply decide_eq_true
  unfold roomsOf
  rw [mk_len, mk_wid (by omega)]
  refine ⟨h1, h2, h3, h4, mk_row, ?_, ?_⟩
  · refine Nat.le_trans ?_ f6
    rw [← run_two, ← run_two]
    refine nodup_le (run_nodup _ _ _) (fun x hx => ?_)
    obtain ⟨i, hi, rfl⟩ := run_mem _ _ _ x hx
    obtain ⟨p1, p2⟩ := cell_of (W := W') (by omega) H' i hi
    rw [mk_gat p1 p2]
    obtain ⟨r1, c1, q1, q2, e⟩ := hm _ _ p1 p2
    rw [e]
    have hl := lin_lt q1 q2
    obtain ⟨d1, d2⟩ := at_div (W := W) (r := r1) (c := c1) q2
    have := (vat_fin (m := mk H W g) (W := W) hl).2
    rw [d1, d2, mk_gat q1 q2] at this
    exact this
  · have hA : area (run (mk H W g) W (H * W)).2 = (H * W : Nat) := by rw [Int.natCast_mul]; exact f7
    have := full_of_rect (m := mk H' W' g') (H := H') (W := W') (by omega) (fun r c hr' hc' => by
      rw [mk_gat hr' hc']
      obtain ⟨r1, c1, q1, q2, e⟩ := hm r c hr' hc'
      rw [e]
      have h5 := rect_of_full (by omega) hA q1 q2
      rw [mk_gat q1 q2] at h5
      exact hr _ h5)
    rw [Int.natCast_mul] at this
    exact this
/-- As seen from behind. -/
theorem fine_flip {H W : Nat} {g : Nat → Nat → Int} (hg : fine (mk H W g) = true) : fine (mk H W fun r c => g r (W - 1 - c)) = true := by
  obtain ⟨f1, f2, f3, f4, -⟩ := of_decide_eq_true hg
  rw [mk_len] at f1 f2
  rw [mk_wid f1] at f3 f4
  refine fine_moved hg f1 f2 f3 f4 (fun r c hr hc => ⟨r, W - 1 - c, hr, by omega, rfl⟩) (fun v ⟨t, h, l, w, a, b, k⟩ => ⟨t, h, W - l - w, w, a, by omega, fun r c hr hc => ?_⟩)
  have := k r (W - 1 - c) hr (by omega)
  rw [mk_gat hr (by omega)] at this
  rw [mk_gat hr hc, this]
  omega
/-- Rows and columns exchanged. -/
theorem fine_cross {H W : Nat} {g : Nat → Nat → Int} (hg : fine (mk H W g) = true) : fine (mk W H fun r c => g c r) = true := by
  obtain ⟨f1, f2, f3, f4, -⟩ := of_decide_eq_true hg
  rw [mk_len] at f1 f2
  rw [mk_wid f1] at f3 f4
  refine fine_moved hg f3 f4 f1 f2 (fun r c hr hc => ⟨c, r, hc, hr, rfl⟩) (fun v ⟨t, h, l, w, a, b, k⟩ => ⟨l, w, t, h, b, a, fun r c hr hc => ?_⟩)
  have := k c r hc hr
  rw [mk_gat hc hr] at this
  rw [mk_gat hr hc, this]
  omega
/-- A quarter to the right. -/
theorem fine_turn {H W : Nat} {g : Nat → Nat → Int} (hg : fine (mk H W g) = true) : fine (mk W H fun r c => g (H - 1 - c) r) = true := fine_flip (fine_cross hg)
end Go.Proofs.Ytpilppppkjenaaa.S

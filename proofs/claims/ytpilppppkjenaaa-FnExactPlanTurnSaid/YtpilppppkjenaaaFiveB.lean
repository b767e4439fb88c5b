import Derived.Test.YtpilppppkjenaaaFourB
/- Plans: rooms, boxes and counts: plain laws. -/
namespace Go.Proofs.Ytpilppppkjenaaa.S
open Go.RowKit Go.Maps Go.Proofs.YtpilppppkjenaaaW.PrintWords Go.Proofs.YtpilppppkjenaaaW.PrintMore
set_option linter.unusedVariables false
set_option linter.unusedSimpArgs false

/-- What is told from cell to cell. -/
structure Cw (W : Nat) (V L : Nat → Nat) (Rm : Nat → List Rc) : Prop where
  l0 : L 0 = 0
  r0 : Rm 0 = []
  len : ∀ j, (Rm j).length = L j
  step : ∀ j, (V j < L j ∧ L (j + 1) = L j ∧ Rm (j + 1) = (Rm j).set (V j) (((Rm j).getD (V j) ⟨0, 0, 0, 0⟩).both ⟨(j / W : Nat), (j % W : Nat), 1, 1⟩)) ∨ (V j = L j ∧ L (j + 1) = L j + 1 ∧ Rm (j + 1) = Rm j ++ [Rc.both ⟨(j / W : Nat), (j % W : Nat), 1, 1⟩ ⟨(j / W : Nat), (j % W : Nat), 1, 1⟩])
def vat (m : List (List Int)) (W j : Nat) : Nat := pos (gat m (j / W) (j % W)) (run m W (j + 1)).1
def lat (m : List (List Int)) (W j : Nat) : Nat := (run m W j).1.length
theorem cw (m : List (List Int)) (W : Nat) : Cw W (vat m W) (lat m W) (fun j => (run m W j).2) where
  l0 := rfl
  r0 := rfl
  len := fun j => (run_two m W j).symm
  step := fun j => by
    by_cases h : gat m (j / W) (j % W) ∈ (run m W j).1
    · have e : run m W (j + 1) = ((run m W j).1, (run m W j).2.set (pos (gat m (j / W) (j % W)) (run m W j).1) (((run m W j).2.getD (pos (gat m (j / W) (j % W)) (run m W j).1) ⟨0, 0, 0, 0⟩).both ⟨(j / W : Nat), (j % W : Nat), 1, 1⟩)) := by
        show stp _ _ _ _ = _
        unfold stp
        rw [if_pos h]
      left
      unfold vat lat
      rw [e]
      exact ⟨pos_lt h, rfl, rfl⟩
    · have e : run m W (j + 1) = ((run m W j).1 ++ [gat m (j / W) (j % W)], (run m W j).2 ++ [Rc.both ⟨(j / W : Nat), (j % W : Nat), 1, 1⟩ ⟨(j / W : Nat), (j % W : Nat), 1, 1⟩]) := by
        show stp _ _ _ _ = _
        unfold stp
        rw [if_neg h]
      right
      unfold vat lat
      rw [e]
      exact ⟨pos_app_new h, by simp, rfl⟩

/-! ### counts -/
def cnt (V : Nat → Nat) (a : Nat) : Nat → Nat
  | 0 => 0
  | j + 1 => cnt V a j + (if V j = a then 1 else 0)
def sumTo (f : Nat → Nat) : Nat → Nat
  | 0 => 0
  | n + 1 => sumTo f n + f n
theorem sumTo_add (f g : Nat → Nat) : ∀ n, sumTo (fun a => f a + g a) n = sumTo f n + sumTo g n
  | 0 => rfl
  | n + 1 => by simp only [sumTo]; rw [sumTo_add f g n]; omega
theorem sumTo_one (v : Nat) : ∀ n, sumTo (fun a => if v = a then 1 else 0) n = if v < n then 1 else 0
  | 0 => rfl
  | n + 1 => by
    simp only [sumTo]
    rw [sumTo_one v n]
    by_cases h : v < n
    · rw [if_pos h, if_neg (by omega), if_pos (by omega)]
    · by_cases e : v = n
      · rw [if_neg h, if_pos e, if_pos (by omega)]
      · rw [if_neg h, if_neg e, if_neg (by omega)]
theorem sumTo_zero : ∀ n, sumTo (fun _ => 0) n = 0
  | 0 => rfl
  | n + 1 => by simp only [sumTo]; rw [sumTo_zero n]
theorem sum_cnt (V : Nat → Nat) (n : Nat) : ∀ J, (∀ j, j < J → V j < n) → sumTo (fun a => cnt V a J) n = J
  | 0, _ => sumTo_zero n
  | J + 1, h => by
    have ih := sum_cnt V n J (fun j hj => h j (by omega))
    show sumTo (fun a => cnt V a J + (if V J = a then 1 else 0)) n = J + 1
    rw [sumTo_add, ih, sumTo_one, if_pos (h J (by omega))]
theorem sums_le {f g : Nat → Nat} : ∀ n, (∀ a, a < n → f a ≤ g a) → sumTo f n ≤ sumTo g n
  | 0, _ => Nat.le_refl _
  | n + 1, h => by
    have := sums_le n (fun a ha => h a (by omega))
    have := h n (by omega)
    simp only [sumTo]
    omega
theorem sums_eq {f g : Nat → Nat} : ∀ n, (∀ a, a < n → f a ≤ g a) → (sumTo f n = sumTo g n ↔ ∀ a, a < n → f a = g a)
  | 0, _ => ⟨fun _ a ha => absurd ha (by omega), fun _ => rfl⟩
  | n + 1, h => by
    have ih := sums_eq (f := f) (g := g) n (fun a ha => h a (by omega))
    have h1 := sums_le n (fun a ha => h a (by omega))
    have h2 := h n (by omega)
    simp only [sumTo]
    refine ⟨fun e a ha => ?_, fun e => ?_⟩
    · by_cases c : a = n
      · subst c; omega
      · exact ih.1 (by omega) a (by omega)
    · rw [ih.2 (fun a ha => e a (by omega)), e n (by omega)]

theorem at_div {W r c : Nat} (hc : c < W) : (r * W + c) / W = r ∧ (r * W + c) % W = c :=
  ⟨by rw [Nat.mul_comm, Nat.mul_add_div (by omega), Nat.div_eq_of_lt hc, Nat.add_zero], by rw [Nat.mul_comm, Nat.mul_add_mod, Nat.mod_eq_of_lt hc]⟩

/-- In a box there are no more cells than it has. -/
theorem cnt_box (V : Nat → Nat) (a H W t h l w : Nat) (hlw : l + w ≤ W) (hb : ∀ i, i < H * W → V i = a → t ≤ i / W ∧ i / W < t + h ∧ l ≤ i % W ∧ i % W < l + w) : cnt V a (H * W) ≤ h * w := by
  have key : ∀ r, r ≤ H → cnt V a (r * W) ≤ min (r - t) h * w := by
    intro r
    induction r with
    | zero => intro _; rw [Nat.zero_mul]; exact Nat.zero_le _
    | succ r ih =>
      intro hr
      have ih := ih (by omega)
      have col : ∀ c, c ≤ W → cnt V a (r * W + c) ≤ cnt V a (r * W) + (if t ≤ r ∧ r < t + h then min (c - l) w else 0) := by
        intro c
        induction c with
        | zero => intro _; exact Nat.le_add_right _ _
        | succ c ih2 =>
          intro hc
          have ih2 := ih2 (by omega)
          obtain ⟨e1, e2⟩ := at_div (W := W) (r := r) (c := c) (by omega)
          show cnt V a (r * W + c) + (if V (r * W + c) = a then 1 else 0) ≤ _
          by_cases hv : V (r * W + c) = a
          · have hlt : r * W + c < H * W := by
              have : (r + 1) * W ≤ H * W := Nat.mul_le_mul_right _ hr
              rw [Nat.succ_mul] at this
              omega
            obtain ⟨b1, b2, b3, b4⟩ := hb _ hlt hv
            rw [e1] at b1 b2
            rw [e2] at b3 b4
            rw [if_pos ⟨b1, b2⟩] at ih2
            rw [if_pos hv, if_pos ⟨b1, b2⟩]
            omega
          · rw [if_neg hv]
            split at ih2 <;> split <;> omega
      have hW := col W (Nat.le_refl _)
      rw [Nat.succ_mul]
      by_cases hin : t ≤ r ∧ r < t + h
      · rw [if_pos hin] at hW
        have e : min (r + 1 - t) h = min (r - t) h + 1 := by omega
        rw [e, Nat.succ_mul]
        omega
      · rw [if_neg hin] at hW
        have : min (r - t) h * w ≤ min (r + 1 - t) h * w := Nat.mul_le_mul_right _ (by omega)
        omega
  have h1 := key H (Nat.le_refl _)
  exact Nat.le_trans h1 (Nat.mul_le_mul_right _ (by omega))

/-! ### boxes -/
def bxt (V : Nat → Nat) (W H a : Nat) : Nat → Int
  | 0 => (H : Nat)
  | j + 1 => if V j = a then min (bxt V W H a j) ((j / W : Nat) : Int) else bxt V W H a j
def bxl (V : Nat → Nat) (W a : Nat) : Nat → Int
  | 0 => (W : Nat)
  | j + 1 => if V j = a then min (bxl V W a j) ((j % W : Nat) : Int) else bxl V W a j
def bxo (V : Nat → Nat) (W a : Nat) : Nat → Int
  | 0 => -1
  | j + 1 => if V j = a then max (bxo V W a j) ((j / W : Nat) : Int) else bxo V W a j
def bxr (V : Nat → Nat) (W a : Nat) : Nat → Int
  | 0 => -1
  | j + 1 => if V j = a then max (bxr V W a j) ((j % W : Nat) : Int) else bxr V W a j
theorem bx_lies (V : Nat → Nat) (W H a : Nat) (hW : 0 < W) : ∀ j, j ≤ H * W → (0 ≤ bxt V W H a j ∧ bxt V W H a j ≤ H ∧ 0 ≤ bxl V W a j ∧ bxl V W a j ≤ W ∧ -1 ≤ bxo V W a j ∧ bxo V W a j < H ∧ -1 ≤ bxr V W a j ∧ bxr V W a j < W) ∧
    ∀ i, i < j → V i = a → bxt V W H a j ≤ ((i / W : Nat) : Int) ∧ ((i / W : Nat) : Int) ≤ bxo V W a j ∧ bxl V W a j ≤ ((i % W : Nat) : Int) ∧ ((i % W : Nat) : Int) ≤ bxr V W a j
  | 0, _ => ⟨by simp only [bxt, bxl, bxo, bxr]; omega, fun i hi => absurd hi (by omega)⟩
  | j + 1, hj => by
    obtain ⟨ih1, ih2⟩ := bx_lies V W H a hW j (by omega)
    have d1 : j / W < H := Nat.div_lt_of_lt_mul (by rw [Nat.mul_comm]; omega)
    have d2 : j % W < W := Nat.mod_lt _ hW
    simp only [bxt, bxl, bxo, bxr]
    generalize hq : j / W = q at *
    generalize hs : j % W = s at *
    by_cases h : V j = a
    · simp only [if_pos h]
      refine ⟨by omega, fun i hi hv => ?_⟩
      by_cases e : i = j
      · rw [e, hq, hs]; omega
      · have := ih2 i (by omega) hv
        generalize i / W = q2 at *
        generalize i % W = s2 at *
        omega
    · simp only [if_neg h]
      refine ⟨ih1, fun i hi hv => ?_⟩
      by_cases e : i = j
      · subst e; exact absurd hv h
      · exact ih2 i (by omega) hv
theorem box_is {W H : Nat} {V L : Nat → Nat} {Rm : Nat → List Rc} (h : Cw W V L Rm) (hW : 0 < W) (a : Nat) : ∀ j, j ≤ H * W →
    (∀ x, (Rm j)[a]? = some x → x.r = bxt V W H a j ∧ x.c = bxl V W a j ∧ x.r + x.h - 1 = bxo V W a j ∧ x.c + x.w - 1 = bxr V W a j ∧ 1 ≤ x.h ∧ 1 ≤ x.w) ∧
    (L j ≤ a → bxt V W H a j = H ∧ bxl V W a j = W ∧ bxo V W a j = -1 ∧ bxr V W a j = -1)
  | 0, _ => ⟨fun x hx => by rw [h.r0] at hx; simp at hx, fun _ => ⟨rfl, rfl, rfl, rfl⟩⟩
  | j + 1, hj => by
    obtain ⟨ih1, ih2⟩ := box_is (H := H) h hW a j (by omega)
    have d1 : j / W < H := Nat.div_lt_of_lt_mul (by rw [Nat.mul_comm]; omega)
    have d2 : j % W < W := Nat.mod_lt _ hW
    simp only [bxt, bxl, bxo, bxr]
    have hl := h.len j
    have hst := h.step j
    generalize j / W = q at *
    generalize j % W = s at *
    rcases hst with ⟨hv, hl2, hr⟩ | ⟨hv, hl2, hr⟩
    · by_cases e : V j = a
      · simp only [if_pos e]
        subst e
        refine ⟨fun x hx => ?_, fun hx => by omega⟩
        rw [hr, List.getElem?_set_self (by omega)] at hx
        obtain rfl := Option.some.inj hx
        have hg : (Rm j)[V j]? = some ((Rm j).getD (V j) ⟨0, 0, 0, 0⟩) := by rw [List.getD_eq_getElem?_getD, List.getElem?_eq_getElem (by omega)]; rfl
        have := ih1 _ hg
        generalize (Rm j).getD (V j) ⟨0, 0, 0, 0⟩ = y at *
        obtain ⟨r, c, hh, ww⟩ := y
        simp only [Rc.both] at *
        omega
      · simp only [if_neg e]
        refine ⟨fun x hx => ?_, fun hx => ih2 (by omega)⟩
        rw [hr, List.getElem?_set_ne e] at hx
        exact ih1 x hx
    · by_cases e : V j = a
      · simp only [if_pos e]
        subst e
        refine ⟨fun x hx => ?_, fun hx => by omega⟩
        rw [hr, List.getElem?_append_right (by omega)] at hx
        have e0 : V j - (Rm j).length = 0 := by omega
        rw [e0] at hx
        obtain rfl := Option.some.inj hx
        have := ih2 (by omega)
        simp only [Rc.both]
        omega
      · simp only [if_neg e]
        refine ⟨fun x hx => ?_, fun hx => ih2 (by omega)⟩
        rw [hr] at hx
        by_cases e2 : a < L j
        · rw [List.getElem?_append_left (by omega)] at hx
          exact ih1 x hx
        · rw [List.getElem?_eq_none (by rw [List.length_append, hl, List.length_singleton]; omega)] at hx
          cases hx
theorem L_le {W : Nat} {V L : Nat → Nat} {Rm : Nat → List Rc} (h : Cw W V L Rm) (i : Nat) : ∀ d, L i ≤ L (i + d)
  | 0 => Nat.le_refl _
  | d + 1 => by
    have := L_le h i d
    rcases h.step (i + d) with ⟨_, e, _⟩ | ⟨_, e, _⟩ <;> (rw [show i + (d + 1) = i + d + 1 from rfl, e]; omega)
theorem V_lt {W : Nat} {V L : Nat → Nat} {Rm : Nat → List Rc} (h : Cw W V L Rm) {i j : Nat} (hij : i < j) : V i < L j := by
  have h1 : V i < L (i + 1) := by rcases h.step i with ⟨a, e, _⟩ | ⟨a, e, _⟩ <;> omega
  have h2 := L_le h (i + 1) (j - (i + 1))
  rw [show i + 1 + (j - (i + 1)) = j by omega] at h2
  omega
theorem area_sum : ∀ (l : List Rc), (∀ x ∈ l, 0 ≤ x.h ∧ 0 ≤ x.w) → ∀ n, n ≤ l.length → area (l.take n) = (sumTo (fun a => ((l.getD a ⟨0, 0, 0, 0⟩).h * (l.getD a ⟨0, 0, 0, 0⟩).w).toNat) n : Nat)
  | l, _, 0, _ => by simp [area, sumTo]
  | l, hp, n + 1, hn => by
    have hg : l[n]? = some (l.getD n ⟨0, 0, 0, 0⟩) := by rw [List.getD_eq_getElem?_getD, List.getElem?_eq_getElem (by omega)]; rfl
    have hm := hp _ (List.mem_of_getElem? hg)
    rw [area_take l n _ hg, area_sum l hp n (by omega)]
    simp only [sumTo]
    have : 0 ≤ (l.getD n ⟨0, 0, 0, 0⟩).h * (l.getD n ⟨0, 0, 0, 0⟩).w := Int.mul_nonneg hm.1 hm.2
    omega

/-- All rooms are full if and only if their areas' sum is the whole. -/
theorem full_iff {W H : Nat} {V L : Nat → Nat} {Rm : Nat → List Rc} (h : Cw W V L Rm) (hW : 0 < W) : area (Rm (H * W)) = (H * W : Nat) ↔ ∀ a, a < L (H * W) → (cnt V a (H * W) : Int) = ((Rm (H * W)).getD a ⟨0, 0, 0, 0⟩).h * ((Rm (H * W)).getD a ⟨0, 0, 0, 0⟩).w := by
  have hl := h.len (H * W)
  have hsides : ∀ x ∈ Rm (H * W), 0 ≤ x.h ∧ 0 ≤ x.w := fun x hx => by
    obtain ⟨a, ha⟩ := List.mem_iff_getElem?.1 hx
    have := ((box_is (H := H) h hW a (H * W) (Nat.le_refl _)).1 x ha)
    omega
  have hs := area_sum (Rm (H * W)) hsides (L (H * W)) (by omega)
  rw [List.take_of_length_le (by omega)] at hs
  have hc := sum_cnt V (L (H * W)) (H * W) (fun j hj => V_lt h hj)
  have hle : ∀ a, a < L (H * W) → cnt V a (H * W) ≤ (((Rm (H * W)).getD a ⟨0, 0, 0, 0⟩).h * ((Rm (H * W)).getD a ⟨0, 0, 0, 0⟩).w).toNat := fun a ha => by
    have hg : (Rm (H * W))[a]? = some ((Rm (H * W)).getD a ⟨0, 0, 0, 0⟩) := by rw [List.getD_eq_getElem?_getD, List.getElem?_eq_getElem (by omega)]; rfl
    obtain ⟨x1, x2, x3, x4, x5, x6⟩ := (box_is (H := H) h hW a (H * W) (Nat.le_refl _)).1 _ hg
    obtain ⟨⟨b1, b2, b3, b4, b5, b6, b7, b8⟩, hlie⟩ := bx_lies V W H a hW (H * W) (Nat.le_refl _)
    generalize (Rm (H * W)).getD a ⟨0, 0, 0, 0⟩ = y at *
    obtain ⟨r, c, hh, ww⟩ := y
    simp only at *
    have := cnt_box V a H W r.toNat hh.toNat c.toNat ww.toNat (by omega) (fun i hi hv => by
      have := hlie i hi hv
      generalize i / W = q2 at *
      generalize i % W = s2 at *
      omega)
    rw [Int.toNat_mul (by omega) (by omega)]
    exact this
  have hse := sums_eq (L (H * W)) hle
  rw [hs]
  constructor
  · intro e a ha
    have e2 := hse.1 (by rw [hc]; omega) a ha
    have hg : (Rm (H * W))[a]? = some ((Rm (H * W)).getD a ⟨0, 0, 0, 0⟩) := by rw [List.getD_eq_getElem?_getD, List.getElem?_eq_getElem (by omega)]; rfl
    have hp := hsides _ (List.mem_of_getElem? hg)
    have := Int.mul_nonneg hp.1 hp.2
    omega
  · intro e
    have := hse.2 (fun a ha => by have := e a ha; omega)
    rw [hc] at this
    omega
end Go.Proofs.Ytpilppppkjenaaa.S
/- A plan whose letters are given anew has the same rooms. -/
namespace Go.Proofs.Ytpilppppkjenaaa.S
open Go.RowKit Go.Maps Go.Proofs.YtpilppppkjenaaaW.PrintWords Go.Proofs.YtpilppppkjenaaaW.PrintMore
set_option linter.unusedVariables false
set_option linter.unusedSimpArgs false

theorem pos_inj {x y : Int} : ∀ {l : List Int}, x ∈ l → pos x l = pos y l → x = y
  | [], h, _ => absurd h (by simp)
  | z :: l, h, e => by
    simp only [pos] at e
    by_cases h1 : z = x
    · rw [if_pos h1] at e
      by_cases h2 : z = y
      · exact h1.symm.trans h2
      · rw [if_neg h2] at e
        omega
    · rw [if_neg h1] at e
      by_cases h2 : z = y
      · rw [if_pos h2] at e
        omega
      · rw [if_neg h2] at e
        rcases List.mem_cons.1 h with h | h
        · exact absurd h.symm h1
        · exact pos_inj h (by omega)
theorem pos_map {O : List Int} {f : Int → Int} (hf : ∀ a ∈ O, ∀ b ∈ O, f a = f b → a = b) {x : Int} (hx : x ∈ O) : ∀ {l : List Int}, (∀ y ∈ l, y ∈ O) → pos (f x) (l.map f) = pos x l
  | [], _ => rfl
  | z :: l, h => by
    simp only [List.map_cons, pos]
    have ih := pos_map hf hx (l := l) (fun y hy => h y (List.mem_cons_of_mem _ hy))
    by_cases e : z = x
    · rw [if_pos e, if_pos (by rw [e])]
    · rw [if_neg e, if_neg (fun e2 => e (hf _ (h z (List.mem_cons_self ..)) _ hx e2)), ih]
theorem mem_map_inj {O : List Int} {f : Int → Int} (hf : ∀ a ∈ O, ∀ b ∈ O, f a = f b → a = b) {x : Int} (hx : x ∈ O) {l : List Int} (h : ∀ y ∈ l, y ∈ O) : f x ∈ l.map f ↔ x ∈ l := by
  rw [List.mem_map]
  refine ⟨fun ⟨y, hy, e⟩ => ?_, fun h => ⟨x, h, rfl⟩⟩
  rw [← hf _ (h y hy) _ hx e]
  exact hy
theorem run_pre (m : List (List Int)) (W j : Nat) : ∀ d, ∃ t, (run m W (j + d)).1 = (run m W j).1 ++ t
  | 0 => ⟨[], by simp⟩
  | d + 1 => by
    obtain ⟨t, ht⟩ := run_pre m W j d
    rw [show j + (d + 1) = (j + d) + 1 from rfl]
    simp only [run, stp]
    split
    · exact ⟨t, ht⟩
    · exact ⟨t ++ [gat m ((j + d) / W) ((j + d) % W)], by simp only []; rw [ht, List.append_assoc]⟩
theorem gat_nums {m : List (List Int)} {r c : Nat} (hr : r < m.length) (hc : c < wid m) : gat (numsOf m) r c = vals m (wid m) r c := by
  unfold gat numsOf
  rw [List.getD_eq_getElem?_getD (l := List.map _ _), List.getElem?_map, List.getElem?_range hr]
  simp only [Option.map_some, Option.getD_some]
  rw [List.getD_eq_getElem?_getD, List.getElem?_map, List.getElem?_range hc]
  rfl
/-- The letters anew, as numbers of letters. -/
def anew (m : List (List Int)) : List (List Int) := (numsOf m).map fun l => l.map fun k => 97 + k
theorem gat_anew {m : List (List Int)} {r c : Nat} (hr : r < m.length) (hc : c < wid m) : gat (anew m) r c = 97 + vals m (wid m) r c := by
  unfold gat anew numsOf
  rw [List.getD_eq_getElem?_getD (l := List.map _ _), List.getElem?_map, List.getElem?_map, List.getElem?_range hr]
  simp only [Option.map_some, Option.getD_some]
  rw [List.getD_eq_getElem?_getD, List.getElem?_map, List.getElem?_map, List.getElem?_range hc]
  rfl
theorem anew_len (m : List (List Int)) : (anew m).length = m.length := by simp [anew, numsOf]
theorem anew_wid {m : List (List Int)} (h : 0 < m.length) : wid (anew m) = wid m := by
  unfold wid anew numsOf
  rw [List.getD_eq_getElem?_getD (l := List.map _ _), List.getElem?_map, List.getElem?_map, List.getElem?_range h]
  simp [wid]
/-- A number's letter anew. -/
def letterOf (m : List (List Int)) (x : Int) : Int := 97 + (pos x (run m (wid m) (m.length * wid m)).1 : Nat)
theorem lin_lt {r c H W : Nat} (hr : r < H) (hc : c < W) : r * W + c < H * W := by
  have : (r + 1) * W ≤ H * W := Nat.mul_le_mul_right _ hr
  rw [Nat.succ_mul] at this
  omega
theorem in_all {m : List (List Int)} {j : Nat} (hj : j ≤ m.length * wid m) : ∀ y ∈ (run m (wid m) j).1, y ∈ (run m (wid m) (m.length * wid m)).1 := fun y hy => by
  obtain ⟨t, ht⟩ := run_pre m (wid m) j (m.length * wid m - j)
  rw [show j + (m.length * wid m - j) = m.length * wid m by omega] at ht
  rw [ht]
  exact List.mem_append_left _ hy
theorem gat_letter {m : List (List Int)} {r c : Nat} (hr : r < m.length) (hc : c < wid m) : gat (anew m) r c = letterOf m (gat m r c) ∧ gat m r c ∈ (run m (wid m) (m.length * wid m)).1 := by
  have hl := lin_lt hr hc
  obtain ⟨e1, e2⟩ := at_div (W := wid m) (r := r) (c := c) hc
  have hm := run_has m (wid m) (r * wid m + c)
  rw [e1, e2] at hm
  refine ⟨?_, in_all (by omega) _ hm⟩
  rw [gat_anew hr hc]
  unfold letterOf vals
  obtain ⟨t, ht⟩ := run_pre m (wid m) (r * wid m + c + 1) (m.length * wid m - (r * wid m + c + 1))
  rw [show r * wid m + c + 1 + (m.length * wid m - (r * wid m + c + 1)) = m.length * wid m by omega] at ht
  rw [ht, pos_app_old hm]
theorem letterOf_inj (m : List (List Int)) : ∀ a ∈ (run m (wid m) (m.length * wid m)).1, ∀ b ∈ (run m (wid m) (m.length * wid m)).1, letterOf m a = letterOf m b → a = b := fun a ha b hb e => by
  unfold letterOf at e
  exact pos_inj ha (by omega)
theorem run_anew (m : List (List Int)) (hW : 0 < wid m) : ∀ j, j ≤ m.length * wid m → run (anew m) (wid m) j = ((run m (wid m) j).1.map (letterOf m), (run m (wid m) j).2)
  | 0, _ => rfl
  | j + 1, hj => by
    have ih := run_anew m hW j (by omega)
    have d1 : j / wid m < m.length := Nat.div_lt_of_lt_mul (by rw [Nat.mul_comm]; omega)
    have d2 : j % wid m < wid m := Nat.mod_lt _ hW
    obtain ⟨g1, g2⟩ := gat_letter d1 d2
    have ho := in_all (m := m) (j := j) (by omega)
    show stp (run (anew m) (wid m) j) (gat (anew m) (j / wid m) (j % wid m)) (j / wid m) (j % wid m) = ((stp (run m (wid m) j) (gat m (j / wid m) (j % wid m)) (j / wid m) (j % wid m)).1.map (letterOf m), (stp (run m (wid m) j) (gat m (j / wid m) (j % wid m)) (j / wid m) (j % wid m)).2)
    rw [ih, g1]
    unfold stp
    by_cases h : gat m (j / wid m) (j % wid m) ∈ (run m (wid m) j).1
    · rw [if_pos h, if_pos ((mem_map_inj (letterOf_inj m) g2 ho).2 h)]
      simp only []
      rw [pos_map (letterOf_inj m) g2 ho]
    · rw [if_neg h, if_neg (fun x => h ((mem_map_inj (letterOf_inj m) g2 ho).1 x))]
      simp
theorem rooms_anew {m : List (List Int)} (hH : 0 < m.length) (hW : 0 < wid m) : roomsOf (anew m) = roomsOf m := by
  unfold roomsOf
  rw [anew_len, anew_wid hH, run_anew m hW _ (Nat.le_refl _)]
theorem vals_anew {m : List (List Int)} {r c : Nat} (hr : r < m.length) (hc : c < wid m) : vals (anew m) (wid m) r c = vals m (wid m) r c := by
  have hl := lin_lt hr hc
  obtain ⟨g1, g2⟩ := gat_letter hr hc
  unfold vals
  rw [g1, run_anew m (by omega) _ (by omega), pos_map (letterOf_inj m) g2 (in_all (by omega))]
theorem nums_anew {m : List (List Int)} (hH : 0 < m.length) : numsOf (anew m) = numsOf m := by
  unfold numsOf
  rw [anew_len, anew_wid hH]
  apply List.map_congr_left
  intro r hr
  apply List.map_congr_left
  intro c hc
  exact vals_anew (List.mem_range.1 hr) (List.mem_range.1 hc)
theorem fine_anew {m : List (List Int)} (h1 : 1 ≤ m.length) (h2 : m.length ≤ 6) (h3 : 1 ≤ wid m) (h4 : wid m ≤ 6) (h5 : ∀ l ∈ m, l.length = wid m) : fine (anew m) = fine m := by
  unfold fine
  rw [rooms_anew h1 h3, anew_len, anew_wid h1]
  apply decide_eq_decide.2
  constructor
  · intro h
    exact ⟨h1, h2, h3, h4, h5, h.2.2.2.2.2.1, h.2.2.2.2.2.2⟩
  · intro h
    refine ⟨h1, h2, h3, h4, fun l hl => ?_, h.2.2.2.2.2.1, h.2.2.2.2.2.2⟩
    simp only [anew, numsOf, List.map_map, List.mem_map, List.mem_range] at hl
    obtain ⟨r, hr, rfl⟩ := hl
    simp
end Go.Proofs.Ytpilppppkjenaaa.S

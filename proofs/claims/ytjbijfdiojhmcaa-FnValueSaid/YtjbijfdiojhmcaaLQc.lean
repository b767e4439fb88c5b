/- Lemmas on what the printed functions of the sheets' values tell. -/
import Derived.Test.YtjbijfdiojhmcaaQc5
import Derived.Test.YtjbijfdiojhmcaaSMath
import Derived.Test.YtjbijfdiojhmcaaSVal2
namespace Go.Proofs.Ytjbijfdiojhmcaa.QcL
open Go.RowKit Go.Proofs.Ytjbijfdiojhmcaa.Qc Go.Proofs.YtjbijfdiojhmcaaW.PrintWords Go.Proofs.YtjbijfdiojhmcaaW.PrintLast Go.Proofs.YtjbijfdiojhmcaaW.PrintMore
set_option linter.unusedVariables false
set_option linter.unusedSimpArgs false

theorem w64 (x : Int) (h : -9223372036854775808 ≤ x ∧ x ≤ 9223372036854775807) : wrap64 x = x := by unfold wrap64; omega

theorem rd_getD (l : List Int) (i : Nat) : rd l (i : Int) = l.getD i 0 := by simp [rd]


def inS (x : Int) : Bool := decide (1 ≤ x) && decide (x ≤ 12)

theorem inS_iff (x : Int) : inS x = true ↔ 1 ≤ x ∧ x ≤ 12 := by unfold inS; simp

theorem l6In_eq (a b c : Int) : spec_l6In.f a b c = some (decide (b ≤ a) && decide (a ≤ c)) := by
  unfold spec_l6In.f
  by_cases h : b ≤ a
  · rw [if_pos h]; simp [h]
  · rw [if_neg h]; simp [h]

theorem l9Sheet_eq (a b : Int) : spec_l9Sheet.f a b = some (inS a && inS b) := by
  unfold spec_l9Sheet.f inS
  rw [l6In_eq, l6In_eq]
  simp only [Option.bind_some]
  cases h : (decide (1 ≤ a) && decide (a ≤ 12)) <;> simp

/-- With enough rounds more, one tells what the other tells. -/
def Runs {α : Type} (F G : Nat → Option α) : Prop := ∃ n, ∀ k, F (n + k) = G k
theorem Runs.step {α : Type} {F G : Nat → Option α} (h : ∀ k, F (k + 1) = G k) : Runs F G := ⟨1, fun k => by rw [Nat.add_comm]; exact h k⟩
theorem Runs.refl {α : Type} {F : Nat → Option α} : Runs F F := ⟨0, fun k => by rw [Nat.zero_add]⟩
theorem Runs.trans {α : Type} {F G H : Nat → Option α} (h1 : Runs F G) (h2 : Runs G H) : Runs F H := by
  obtain ⟨n, a⟩ := h1
  obtain ⟨m, b⟩ := h2
  exact ⟨n + m, fun k => by rw [Nat.add_assoc, a, b]⟩
theorem Runs.first {α : Type} {F G H : Nat → Option α} (h : ∀ k, F (k + 1) = G k) (h2 : Runs G H) : Runs F H := (Runs.step h).trans h2
theorem Runs.ends {α : Type} {F : Nat → Option α} {r : α} (h : Runs F (fun _ => some r)) : ∃ n, ∀ k, n ≤ k → F k = some r := by
  obtain ⟨n, a⟩ := h
  exact ⟨n, fun k hk => by have := a (k - n); rwa [show n + (k - n) = k by omega] at this⟩

open Go.Proofs.Ytjbijfdiojhmcaa.S (Vz Vt cutW cutH cutB maxI minI Vz_fills Vz_bound Vz_eq cutW_half cutH_half cutW_le cutH_le)

theorem mx_max (a b : Int) : mx a b = maxI a b := rfl

def row (V : Nat → Nat → Int) (x n : Nat) : List Int := (List.range n).map (fun j => V x j)
def rows (V : Nat → Nat → Int) (n : Nat) : List (List Int) := (List.range n).map (fun i => row V i 13)
theorem row_len (V : Nat → Nat → Int) (x n : Nat) : (row V x n).length = n := by simp [row]
theorem rows_len (V : Nat → Nat → Int) (n : Nat) : (rows V n).length = n := by simp [rows]
theorem row_at (V : Nat → Nat → Int) (x n j : Nat) (h : j < n) : rd (row V x n) (j : Int) = V x j := by
  rw [rd_getD, List.getD_eq_getElem?_getD]; simp [row, h]
theorem rows_at (V : Nat → Nat → Int) (n i : Nat) (h : i < n) : rd_L1 (rows V n) (i : Int) = row V i 13 := by
  unfold rd_L1; rw [List.getD_eq_getElem?_getD]; simp [rows, h]
theorem row_more (V : Nat → Nat → Int) (x n : Nat) : row V x n ++ [V x n] = row V x (n + 1) := by simp [row, List.range_succ]
theorem rows_more (V : Nat → Nat → Int) (n : Nat) : rows V n ++ [row V n 13] = rows V (n + 1) := by simp [rows, List.range_succ]

section
variable (T : List (List Int)) (V : Nat → Nat → Int) (hV : ∀ x y, x ≤ 12 → y ≤ 12 → -100000000 ≤ V x y ∧ V x y ≤ 100000000)
include hV

theorem tab_l3 (x3 : List (List Int)) (x y : Nat) (hy : y ≤ 12) (hx : x ≤ 12) (o : Int) (n : Nat) : ∀ j, 1 ≤ j → y / 2 + 1 - j = n → j ≤ y / 2 + 1 →
    Runs (fun k => spec_l9Table.l3 k T x3 x (row V x y) y (cutH maxI V x y o (j - 1)) j)
      (fun k => spec_l9Table.l1 k T x3 x (row V x y ++ [cutH maxI V x y o (y / 2)]) ((y + 1 : Nat) : Int)) := by
  induction n with
  | zero =>
    intro j hj hn hj2
    obtain rfl : j = y / 2 + 1 := by omega
    refine Runs.step (fun k => ?_)
    simp only [spec_l9Table.l3]
    rw [w64 _ (by omega), if_neg (by omega), if_pos (by rw [row_len]; omega), w64 _ (by omega)]
    rfl
  | succ n ih =>
    intro j hj hn hj2
    refine Runs.first (fun k => ?_) (ih (j + 1) (by omega) (by omega) (by omega))
    have b1 := hV x j hx (by omega)
    have b2 := hV x (y - j) hx (by omega)
    have e1 : ((y : Int) - (j : Int)) = ((y - j : Nat) : Int) := by omega
    simp only [spec_l9Table.l3]
    rw [w64 (2 * (j : Int)) (by omega), if_pos (by omega), if_pos (by omega), if_pos (by rw [row_len]; omega), w64 ((y : Int) - (j : Int)) (by omega), e1, if_pos (by omega), if_pos (by rw [row_len]; omega),
      row_at V x y j (by omega), row_at V x y (y - j) (by omega), w64 _ (by omega), w64 _ (by omega), mx_max]
    congr 1
    obtain ⟨m, rfl⟩ : ∃ m, j = m + 1 := ⟨j - 1, by omega⟩
    rfl

theorem tab_l2 (x y : Nat) (hy : y ≤ 12) (hx : x ≤ 12) (o : Int) (n : Nat) : ∀ j, 1 ≤ j → x / 2 + 1 - j = n → j ≤ x / 2 + 1 →
    Runs (fun k => spec_l9Table.l2 k T (rows V x) x (row V x y) y (cutW maxI V x y o (j - 1)) j)
      (fun k => spec_l9Table.l3 k T (rows V x) x (row V x y) y (cutW maxI V x y o (x / 2)) 1) := by
  induction n with
  | zero =>
    intro j hj hn hj2
    obtain rfl : j = x / 2 + 1 := by omega
    refine Runs.step (fun k => ?_)
    simp only [spec_l9Table.l2]
    rw [w64 _ (by omega), if_neg (by omega)]
    rfl
  | succ n ih =>
    intro j hj hn hj2
    refine Runs.first (fun k => ?_) (ih (j + 1) (by omega) (by omega) (by omega))
    have b1 := hV j y (by omega) hy
    have b2 := hV (x - j) y (by omega) hy
    have e1 : ((x : Int) - (j : Int)) = ((x - j : Nat) : Int) := by omega
    simp only [spec_l9Table.l2]
    rw [w64 (2 * (j : Int)) (by omega), if_pos (by omega), if_pos (by omega), if_pos (by rw [rows_len]; omega), if_pos (by omega), rows_at V x j (by omega), if_pos (by rw [row_len]; omega),
      w64 ((x : Int) - (j : Int)) (by omega), e1, if_pos (by omega), if_pos (by rw [rows_len]; omega), rows_at V x (x - j) (by omega), if_pos (by rw [row_len]; omega),
      row_at V j 13 y (by omega), row_at V (x - j) 13 y (by omega), w64 _ (by omega), w64 _ (by omega), mx_max]
    congr 1
    obtain ⟨m, rfl⟩ : ∃ m, j = m + 1 := ⟨j - 1, by omega⟩
    rfl

variable (al : Nat → Nat → Int) (hT : T = rows al 13) (hF : ∀ x y, x ≤ 12 → y ≤ 12 → V x y = cutB maxI V x y (al x y))
include hT hF

theorem tab_l1 (x : Nat) (hx : x ≤ 12) (n : Nat) : ∀ y, 13 - y = n → y ≤ 13 →
    Runs (fun k => spec_l9Table.l1 k T (rows V x) x (row V x y) y) (fun k => spec_l9Table.l0 k T (rows V (x + 1)) ((x + 1 : Nat) : Int)) := by
  induction n with
  | zero =>
    intro y hn hy
    obtain rfl : y = 13 := by omega
    refine Runs.step (fun k => ?_)
    simp only [spec_l9Table.l1]
    rw [if_neg (by omega), if_pos (by rw [rows_len]; omega), w64 _ (by omega), rows_more]
    rfl
  | succ n ih =>
    intro y hn hy
    have h3 := tab_l3 T V hV (rows V x) x y (by omega) hx (cutW maxI V x y (al x y) (x / 2)) (y / 2) 1 (by omega) (by omega) (by omega)
    have h2 := tab_l2 T V hV x y (by omega) hx (al x y) (x / 2) 1 (by omega) (by omega) (by omega)
    have e : cutH maxI V x y (cutW maxI V x y (al x y) (x / 2)) (y / 2) = V x y := by
      rw [cutW_half, cutH_half]; exact (hF x y hx (by omega)).symm
    rw [e, row_more] at h3
    refine Runs.first (fun k => ?_) (h2.trans (h3.trans (ih (y + 1) (by omega) (by omega))))
    simp only [spec_l9Table.l1]
    rw [if_pos (by omega), if_pos (by omega), if_pos (by rw [hT, rows_len]; omega), if_pos (by omega), hT, rows_at al 13 x (by omega), if_pos (by rw [row_len]; omega), row_at al x 13 y (by omega)]
    rfl

theorem tab_l0 (n : Nat) : ∀ x, 13 - x = n → x ≤ 13 → Runs (fun k => spec_l9Table.l0 k T (rows V x) x) (fun _ => some (rows V 13)) := by
  induction n with
  | zero =>
    intro x hn hx
    obtain rfl : x = 13 := by omega
    refine Runs.step (fun k => ?_)
    simp only [spec_l9Table.l0]
    rw [if_neg (by omega)]
  | succ n ih =>
    intro x hn hx
    refine Runs.first (fun k => ?_) ((tab_l1 T V hV al hT hF x (by omega) 13 0 (by omega) (by omega)).trans (ih (x + 1) (by omega) (by omega)))
    simp only [spec_l9Table.l0]
    rw [if_pos (by omega)]
    rfl
end

theorem table_eq (al : Int → Int → Int) (hb : ∀ x y : Nat, x ≤ 12 → y ≤ 12 → -100000 ≤ al x y ∧ al x y ≤ 99) :
    ∃ n, ∀ k, n ≤ k → spec_l9Table.f k (rows (fun x y => al x y) 13) = some (rows (Vz al maxI) 13) := by
  have hB := Vz_bound al (-100000) 99 (by omega) hb 24
  have hm : ∀ x y : Nat, x ≤ 12 → y ≤ 12 → ((Go.Proofs.Ytjbijfdiojhmcaa.S.m1 x * Go.Proofs.Ytjbijfdiojhmcaa.S.m1 y : Nat) : Int) ≤ 144 := by
    intro x y hx hy
    have : Go.Proofs.Ytjbijfdiojhmcaa.S.m1 x * Go.Proofs.Ytjbijfdiojhmcaa.S.m1 y ≤ 12 * 12 := Nat.mul_le_mul (by unfold Go.Proofs.Ytjbijfdiojhmcaa.S.m1; split <;> omega) (by unfold Go.Proofs.Ytjbijfdiojhmcaa.S.m1; split <;> omega)
    omega
  have hV : ∀ x y, x ≤ 12 → y ≤ 12 → -100000000 ≤ Vz al maxI x y ∧ Vz al maxI x y ≤ 100000000 := by
    intro x y hx hy
    have h1 := hB x y (by omega) hx hy
    have h2 := hm x y hx hy
    omega
  exact Runs.ends (tab_l0 _ (Vz al maxI) hV (fun x y => al x y) rfl (fun x y _ _ => Vz_fills al maxI x y) 13 0 (by omega) (by omega))

open Go.Proofs.Ytjbijfdiojhmcaa.S (impl_SheetMost.f impl_SheetValue.f alMost fitB valTo alValue okV okV_iff valueOk valTo_bound Vt_max_bound Vt_turn_max Vt_addW Vt_addH Vt_alone Vt_inv)

theorem inS_same : Go.Proofs.Ytjbijfdiojhmcaa.QaL.inS = inS := rfl

theorem Runs.ends' {α : Type} {F G : Nat → Option α} {r : α} (h : Runs F G) (h2 : ∃ n, ∀ k, n ≤ k → G k = some r) : ∃ n, ∀ k, n ≤ k → F k = some r := by
  obtain ⟨n, a⟩ := h
  obtain ⟨m, b⟩ := h2
  refine ⟨n + m, fun k hk => ?_⟩
  have := a (k - n)
  rw [show n + (k - n) = k by omega] at this
  rw [this]
  exact b _ (by omega)

theorem row_set (V : Nat → Nat → Int) (x n j : Nat) (v : Int) : (row V x n).set j v = row (fun a b => if a = x ∧ b = j then v else V a b) x n := by
  refine List.ext_getElem (by simp [row]) (fun i h1 h2 => ?_)
  simp only [row, List.getElem_set, List.getElem_map, List.getElem_range]
  by_cases e : j = i
  · subst e; simp
  · rw [if_neg e, if_neg (fun q => e q.2.symm)]
theorem rows_set (V V' : Nat → Nat → Int) (n i : Nat) (h : ∀ x y, x ≠ i → V' x y = V x y) : (rows V n).set i (row V' i 13) = rows V' n := by
  refine List.ext_getElem (by simp [rows]) (fun k h1 h2 => ?_)
  simp only [rows, List.getElem_set, List.getElem_map, List.getElem_range]
  by_cases e : i = k
  · subst e; simp
  · rw [if_neg e]
    unfold row
    refine List.map_congr_left (fun y _ => ?_)
    rw [h k y (fun q => e q.symm)]

theorem row_zero (x n : Nat) : List.replicate n (0 : Int) = row (fun _ _ => 0) x n := by
  refine List.ext_getElem (by simp [row]) (fun i h1 h2 => ?_)
  simp [row]

theorem worth_l0 (n : Nat) : ∀ x, 13 - x = n → x ≤ 13 → Runs (fun k => spec_l9Worth.l0 k (rows (fun _ _ => 0) x) (x : Int)) (fun _ => some (rows (fun _ _ => 0) 13)) := by
  induction n with
  | zero =>
    intro x hn hx
    obtain rfl : x = 13 := by omega
    refine Runs.step (fun k => ?_)
    simp only [spec_l9Worth.l0]
    rw [if_neg (by omega)]
  | succ n ih =>
    intro x hn hx
    refine Runs.first (fun k => ?_) (ih (x + 1) (by omega) (by omega))
    simp only [spec_l9Worth.l0]
    rw [if_pos (by omega), if_pos (by omega), if_pos (by rw [rows_len]; omega), w64 _ (by omega), row_zero x 13, rows_more]
    rfl

theorem worth_eq : ∃ n, ∀ k, n ≤ k → spec_l9Worth.f k = some (rows (fun _ _ => 0) 13) := Runs.ends (worth_l0 13 0 (by omega) (by omega))

/-- The table behind the first K kinds. -/
def tabN (ws hs vs : List Int) (K x y : Nat) : Int := valTo ws hs vs x y K

def kindOk (ws hs vs : List Int) (i : Nat) : Prop := inS (ws.getD i 0) = true ∧ inS (hs.getD i 0) = true ∧ okV (vs.getD i 0) = true

theorem maxI_same (a v : Int) : maxI (maxI a v) v = maxI a v := by
  unfold maxI
  by_cases h : a < v
  · rw [if_pos h, if_neg (by omega)]
  · rw [if_neg h, if_neg h]

section
set_option linter.unusedSectionVars false
variable (a b : Int) (ws hs vs : List Int) (hb : vs.length ≤ 4) (hw : ws.length = vs.length) (hh : hs.length = vs.length)
include hb hw hh

theorem val_step (k : Nat) (j : Nat) (hj : j < vs.length) (ho : kindOk ws hs vs j) :
    spec_SheetValue.l0 (k + 1) a b ws hs vs vs.length (rows (tabN ws hs vs j) 13) j = spec_SheetValue.l0 k a b ws hs vs vs.length (rows (tabN ws hs vs (j + 1)) 13) ((j + 1 : Nat) : Int) := by
  obtain ⟨h1, h2, h3⟩ := ho
  have i1 := (inS_iff _).1 h1
  have i2 := (inS_iff _).1 h2
  have i3 := (okV_iff _).1 h3
  simp only [spec_SheetValue.l0]
  rw [if_pos (by omega), if_pos (by omega), if_pos (by omega), if_pos (by omega), l9Sheet_eq, rd_getD, rd_getD, rd_getD, h1, h2]
  have hs1 : ∀ x y : Nat, tabN ws hs vs (j + 1) x y = if fitB x y (ws.getD j 0) (hs.getD j 0) = true then maxI (tabN ws hs vs j x y) (vs.getD j 0) else tabN ws hs vs j x y := fun _ _ => rfl
  generalize tabN ws hs vs j = T at *
  generalize tabN ws hs vs (j + 1) = T2 at *
  generalize hp : ws.getD j 0 = p at *
  generalize hq : hs.getD j 0 = q at *
  generalize vs.getD j 0 = v at *
  obtain ⟨p, rfl⟩ := Int.eq_ofNat_of_zero_le (show 0 ≤ p by omega)
  obtain ⟨q, rfl⟩ := Int.eq_ofNat_of_zero_le (show 0 ≤ q by omega)
  have l6 : spec_l6In.f v 0 99 = some true := by rw [l6In_eq]; simp; omega
  simp only [Option.bind_some, Bool.and_self, Int.toNat_natCast]
  rw [if_pos trivial, if_pos (by omega), l6]
  simp only [Option.bind_some]
  have e1 : ((row T p 13).set q (mx (T p q) v)) = row (fun x y => if x = p ∧ y = q then maxI (T p q) v else T x y) p 13 := row_set _ p 13 q _
  have e2 : (rows T 13).set p (row (fun x y => if x = p ∧ y = q then maxI (T p q) v else T x y) p 13) = rows (fun x y => if x = p ∧ y = q then maxI (T p q) v else T x y) 13 :=
    rows_set _ _ 13 p (fun x y h => by rw [if_neg (fun z => h z.1)])
  rw [if_pos trivial, if_pos (by omega), if_pos (by rw [rows_len]; omega), if_pos (by omega), rows_at _ 13 p (by omega), if_pos (by rw [row_len]; omega), row_at _ p 13 q (by omega), e1, e2]
  rw [if_pos (by rw [rows_len]; omega), rows_at _ 13 q (by omega), if_pos (by rw [row_len]; omega), row_at _ q 13 p (by omega), row_set, w64 _ (by omega)]
  rw [rows_set _ (fun x y => if x = q ∧ y = p then mx (if q = p ∧ p = q then maxI (T p q) v else T q p) v else if x = p ∧ y = q then maxI (T p q) v else T x y) 13 q (fun x y h => by rw [if_neg (fun z => h z.1)])]
  have e3 : (fun x y => if x = q ∧ y = p then mx (if q = p ∧ p = q then maxI (T p q) v else T q p) v else if x = p ∧ y = q then maxI (T p q) v else T x y) = T2 := by
    funext x y
    rw [hs1 x y]
    by_cases c1 : x = q ∧ y = p
    · obtain ⟨rfl, rfl⟩ := c1
      have hf : fitB (x : Int) (y : Int) (y : Int) (x : Int) = true := by simp [fitB]
      rw [if_pos hf, if_pos ⟨rfl, rfl⟩]
      by_cases c2 : x = y
      · subst c2
        rw [if_pos ⟨rfl, rfl⟩]
        exact maxI_same _ _
      · rw [if_neg (fun z => c2 z.1)]
        rfl
    · rw [if_neg c1]
      by_cases c2 : x = p ∧ y = q
      · obtain ⟨rfl, rfl⟩ := c2
        have hf : fitB (x : Int) (y : Int) (x : Int) (y : Int) = true := by simp [fitB]
        rw [if_pos hf, if_pos ⟨rfl, rfl⟩]
      · have hf : ¬ fitB (x : Int) (y : Int) (p : Int) (q : Int) = true := by simp [fitB]; omega
        rw [if_neg hf, if_neg c2]
  rw [e3]
  rfl

theorem val_bad (k : Nat) (T : List (List Int)) (j : Nat) (hj : j < vs.length) (ho : ¬ kindOk ws hs vs j) : spec_SheetValue.l0 (k + 1) a b ws hs vs vs.length T j = some (0, false) := by
  simp only [spec_SheetValue.l0]
  rw [if_pos (by omega), if_pos (by omega), if_pos (by omega), if_pos (by omega), l9Sheet_eq, rd_getD, rd_getD, rd_getD]
  simp only [Option.bind_some]
  by_cases c : (inS (ws.getD j 0) && inS (hs.getD j 0)) = true
  · rw [if_pos c, if_pos (by omega), l6In_eq]
    simp only [Option.bind_some]
    have : ¬ (okV (vs.getD j 0)) = true := fun z => ho ⟨by simp only [Bool.and_eq_true] at c; exact c.1, by simp only [Bool.and_eq_true] at c; exact c.2, z⟩
    have e : (decide (0 ≤ vs.getD j 0) && decide (vs.getD j 0 ≤ 99)) = okV (vs.getD j 0) := rfl
    rw [e, if_neg this]
  · rw [if_neg c]

theorem val_good (n : Nat) : ∀ j, vs.length - j = n → j ≤ vs.length → (∀ i, j ≤ i → i < vs.length → kindOk ws hs vs i) →
    Runs (fun k => spec_SheetValue.l0 k a b ws hs vs vs.length (rows (tabN ws hs vs j) 13) j) (fun k => spec_SheetValue.l0 k a b ws hs vs vs.length (rows (tabN ws hs vs vs.length) 13) vs.length) := by
  induction n with
  | zero =>
    intro j hn hj _
    obtain rfl : j = vs.length := by omega
    exact Runs.refl
  | succ n ih =>
    intro j hn hj ho
    exact Runs.first (fun k => val_step a b ws hs vs hb hw hh k j (by omega) (ho j (Nat.le_refl _) (by omega))) (ih (j + 1) (by omega) (by omega) (fun i h1 h2 => ho i (by omega) h2))

theorem val_falls (n : Nat) : ∀ j, vs.length - j = n → j ≤ vs.length → (∃ i, j ≤ i ∧ i < vs.length ∧ ¬ kindOk ws hs vs i) →
    Runs (fun k => spec_SheetValue.l0 k a b ws hs vs vs.length (rows (tabN ws hs vs j) 13) j) (fun _ => some (0, false)) := by
  induction n with
  | zero =>
    intro j hn hj ⟨i, h1, h2, _⟩
    omega
  | succ n ih =>
    intro j hn hj ⟨i, h1, h2, h3⟩
    by_cases c : kindOk ws hs vs j
    · exact Runs.first (fun k => val_step a b ws hs vs hb hw hh k j (by omega) c) (ih (j + 1) (by omega) (by omega) ⟨i, by
        by_cases e : i = j
        · exact absurd (e ▸ c) h3
        · omega, h2, h3⟩)
    · exact Runs.step (fun k => val_bad a b ws hs vs hb hw hh k _ j (by omega) c)
end

theorem all_getD (l : List Int) (p : Int → Bool) : l.all p = true ↔ ∀ i, i < l.length → p (l.getD i 0) = true := by
  rw [List.all_eq_true]
  constructor
  · intro h i hi
    rw [List.getD_eq_getElem?_getD, List.getElem?_eq_getElem hi]
    exact h _ (List.getElem_mem _)
  · intro h z hz
    obtain ⟨j, hj, rfl⟩ := List.getElem_of_mem hz
    have := h j hj
    rwa [List.getD_eq_getElem?_getD, List.getElem?_eq_getElem hj] at this

theorem valueOk_iff (a b : Int) (ws hs vs : List Int) : valueOk a b ws hs vs = true ↔ (inS a && inS b) = true ∧ 1 ≤ vs.length ∧ vs.length ≤ 4 ∧ ws.length = vs.length ∧ hs.length = vs.length ∧ ∀ i, i < vs.length → kindOk ws hs vs i := by
  unfold valueOk
  rw [inS_same]
  simp only [Bool.and_eq_true, decide_eq_true_eq, beq_iff_eq, all_getD]
  constructor
  · rintro ⟨⟨⟨⟨⟨⟨⟨⟨h0, h1⟩, h2⟩, h3⟩, h4⟩, h5⟩, h6⟩, h7⟩, h8⟩
    exact ⟨⟨h0, h1⟩, h2, h3, h4, h5, fun i hi => ⟨h6 i (by omega), h7 i (by omega), h8 i hi⟩⟩
  · rintro ⟨⟨h0, h1⟩, h2, h3, h4, h5, h6⟩
    exact ⟨⟨⟨⟨⟨⟨⟨⟨h0, h1⟩, h2⟩, h3⟩, h4⟩, h5⟩, fun i hi => (h6 i (by omega)).1⟩, fun i hi => (h6 i (by omega)).2.1⟩, fun i hi => (h6 i hi).2.2⟩

def valueV (a b : Int) (ws hs vs : List Int) : Int := Vt (alValue ws hs vs) maxI a.toNat b.toNat
theorem impl_value_eq (a b : Int) (ws hs vs : List Int) : impl_SheetValue.f a b ws hs vs = some (if valueOk a b ws hs vs = true then (valueV a b ws hs vs, true) else (0, false)) := rfl

theorem getD_bound (vs : List Int) (h : ∀ i, i < vs.length → okV (vs.getD i 0) = true) (j : Nat) : 0 ≤ vs.getD j 0 ∧ vs.getD j 0 ≤ 99 := by
  by_cases hj : j < vs.length
  · exact (okV_iff _).1 (h j hj)
  · rw [List.getD_eq_getElem?_getD, List.getElem?_eq_none (by omega)]; simp

theorem spec_value_eq (a b : Int) (ws hs vs : List Int) (hl : vs.length ≤ 1048576) : ∃ n, ∀ k, n ≤ k → spec_SheetValue.f k a b ws hs vs = impl_SheetValue.f a b ws hs vs := by
  have bad : valueOk a b ws hs vs ≠ true → (∃ n, ∀ k, n ≤ k → spec_SheetValue.f k a b ws hs vs = some (0, false)) → ∃ n, ∀ k, n ≤ k → spec_SheetValue.f k a b ws hs vs = impl_SheetValue.f a b ws hs vs := by
    intro h ⟨n, hn⟩
    exact ⟨n, fun k hk => by rw [hn k hk, impl_value_eq, if_neg h]⟩
  have jt : ∀ k, 1 ≤ k → spec_SheetValue.j0 k a b ws hs vs vs.length true = some (0, false) := by
    intro k hk
    obtain ⟨m, rfl⟩ : ∃ m, k = m + 1 := ⟨k - 1, by omega⟩
    simp [spec_SheetValue.j0]
  unfold spec_SheetValue.f at *
  rw [l9Sheet_eq, l6In_eq] at *
  simp only [Option.bind_some] at *
  by_cases h1 : (inS a && inS b) = true
  case neg => exact bad (fun z => h1 ((valueOk_iff _ _ _ _ _).1 z).1) ⟨1, fun k hk => by rw [if_neg h1]; exact jt k hk⟩
  by_cases h2 : (decide (1 ≤ (vs.length : Int)) && decide ((vs.length : Int) ≤ 4)) = true
  case neg => exact bad (fun z => h2 (by have := (valueOk_iff _ _ _ _ _).1 z; simp; omega)) ⟨1, fun k hk => by rw [if_pos h1, if_neg h2]; exact jt k hk⟩
  by_cases h3 : (ws.length : Int) = (vs.length : Int)
  case neg => exact bad (fun z => h3 (by have := (valueOk_iff _ _ _ _ _).1 z; omega)) ⟨1, fun k hk => by rw [if_pos h1, if_pos h2, if_neg h3]; exact jt k hk⟩
  by_cases h4 : (hs.length : Int) = (vs.length : Int)
  case neg =>
    have q : ((hs.length : Int) != (vs.length : Int)) = true := bne_iff_ne.2 h4
    exact bad (fun z => h4 (by have := (valueOk_iff _ _ _ _ _).1 z; omega)) ⟨1, fun k hk => by rw [if_pos h1, if_pos h2, if_pos h3, q]; exact jt k hk⟩
  have q : ((hs.length : Int) != (vs.length : Int)) = false := bne_eq_false_iff_eq.2 h4
  simp only [Bool.and_eq_true, decide_eq_true_eq] at h2
  have hb : vs.length ≤ 4 := by omega
  have hw : ws.length = vs.length := by omega
  have hh : hs.length = vs.length := by omega
  obtain ⟨nw, hnw⟩ := worth_eq
  have e0 : rows (fun _ _ => (0 : Int)) 13 = rows (tabN ws hs vs 0) 13 := rfl
  have start : ∀ R, (∃ n, ∀ k, n ≤ k → spec_SheetValue.l0 k a b ws hs vs vs.length (rows (tabN ws hs vs 0) 13) 0 = R) →
      ∃ n, ∀ k, n ≤ k → (if (inS a && inS b) = true then (if (decide (1 ≤ (vs.length : Int)) && decide ((vs.length : Int) ≤ 4)) = true then (if (ws.length : Int) = (vs.length : Int) then (spec_SheetValue.j0 k a b ws hs vs (vs.length : Int) ((hs.length : Int) != (vs.length : Int))) else (spec_SheetValue.j0 k a b ws hs vs (vs.length : Int) true)) else (spec_SheetValue.j0 k a b ws hs vs (vs.length : Int) true)) else (spec_SheetValue.j0 k a b ws hs vs (vs.length : Int) true)) = R := by
    intro R ⟨n, hn⟩
    refine ⟨n + nw + 1, fun k hk => ?_⟩
    obtain ⟨m, rfl⟩ : ∃ m, k = m + 1 := ⟨k - 1, by omega⟩
    rw [if_pos h1, if_pos (by simp; omega), if_pos h3, q]
    simp only [spec_SheetValue.j0]
    rw [if_neg (by simp), hnw m (by omega), Option.bind_some, e0]
    exact hn m (by omega)
  by_cases hok : ∀ i, i < vs.length → kindOk ws hs vs i
  · have hv : valueOk a b ws hs vs = true := (valueOk_iff _ _ _ _ _).2 ⟨h1, by omega, hb, hw, hh, hok⟩
    rw [impl_value_eq, if_pos hv]
    refine start _ ?_
    simp only [Bool.and_eq_true, inS_iff] at h1
    obtain ⟨ha, hb'⟩ := h1
    obtain ⟨x, rfl⟩ := Int.eq_ofNat_of_zero_le (show 0 ≤ a by omega)
    obtain ⟨y, rfl⟩ := Int.eq_ofNat_of_zero_le (show 0 ≤ b by omega)
    obtain ⟨m, hm⟩ := table_eq (alValue ws hs vs) (fun x y _ _ => by have := valTo_bound ws hs vs (getD_bound vs (fun i hi => (hok i hi).2.2)) x y vs.length; unfold alValue; omega)
    refine Runs.ends' (val_good x y ws hs vs hb hw hh vs.length 0 (by omega) (by omega) (fun i _ h => hok i h)) ⟨m + 1, fun k hk => ?_⟩
    obtain ⟨k, rfl⟩ : ∃ m, k = m + 1 := ⟨k - 1, by omega⟩
    have et := hm k (by omega)
    have et' : spec_l9Table.f k (rows (tabN ws hs vs vs.length) 13) = some (rows (Vz (alValue ws hs vs) maxI) 13) := et
    simp only [spec_SheetValue.l0]
    rw [if_neg (by omega), et', Option.bind_some, if_pos (by omega), if_pos (by rw [rows_len]; omega), if_pos (by omega), rows_at _ 13 x (by omega), if_pos (by rw [row_len]; omega), row_at _ x 13 y (by omega),
      Vz_eq _ maxI x y (by omega) (by omega)]
    rfl
  · have hbad : ∃ i, 0 ≤ i ∧ i < vs.length ∧ ¬ kindOk ws hs vs i := by
      refine Classical.byContradiction (fun z => hok (fun i hi => Classical.byContradiction (fun y => z ⟨i, Nat.zero_le _, hi, y⟩)))
    exact bad (fun z => hok ((valueOk_iff _ _ _ _ _).1 z).2.2.2.2.2) (start _ (Runs.ends (val_falls a b ws hs vs hb hw hh vs.length 0 (by omega) (by omega) hbad)))

theorem xor_pos (a b : Int) (ha : 0 ≤ a) (hb : 0 ≤ b) (ha2 : a < 9223372036854775808) (hb2 : b < 9223372036854775808) : 0 ≤ Go.bits .xor .i64 a b := by
  obtain ⟨a, rfl⟩ := Int.eq_ofNat_of_zero_le ha
  obtain ⟨b, rfl⟩ := Int.eq_ofNat_of_zero_le hb
  have hx : a ^^^ b < 2 ^ 63 := Nat.xor_lt_two_pow (by omega) (by omega)
  have h1 : (BitVec.ofInt 64 (a : Int)).toNat = a := by
    rw [BitVec.ofInt_natCast, BitVec.toNat_ofNat]; exact Nat.mod_eq_of_lt (by omega)
  have h2 : (BitVec.ofInt 64 (b : Int)).toNat = b := by
    rw [BitVec.ofInt_natCast, BitVec.toNat_ofNat]; exact Nat.mod_eq_of_lt (by omega)
  show 0 ≤ IntKind.i64.wrap ((BitVec.ofInt 64 (a : Int) ^^^ BitVec.ofInt 64 (b : Int)).toNat : Int)
  rw [BitVec.toNat_xor, h1, h2]
  simp [IntKind.wrap, IntKind.bits, IntKind.signed]
  omega

def Bytes (l : List Int) : Prop := ∀ x ∈ l, 0 ≤ x ∧ x ≤ 255

theorem bytes_rd {l : List Int} (h : Bytes l) (i : Int) : 0 ≤ rd l i ∧ rd l i ≤ 255 := by
  unfold rd
  by_cases hi : i.toNat < l.length
  · rw [List.getD_eq_getElem?_getD, List.getElem?_eq_getElem hi]
    exact h _ (List.getElem_mem hi)
  · rw [List.getD_eq_getElem?_getD, List.getElem?_eq_none (by omega)]
    simp

theorem tmod_range (a n : Int) (ha : 0 ≤ a) (hn : 1 ≤ n) : 0 ≤ a.tmod n ∧ a.tmod n < n := by
  rw [Int.tmod_eq_emod_of_nonneg ha]
  exact ⟨Int.emod_nonneg _ (by omega), Int.emod_lt_of_pos _ (by omega)⟩

theorem pick_gives (l : List Int) (hl : Bytes l) (hll : l.length ≤ 2000) (p n : Int) (k : Nat) (hp : 0 ≤ p) (hp2 : p ≤ 1000000) (hn : 1 ≤ n) (hn2 : n ≤ 1000000) (hk : 1 ≤ k) :
    ∃ r, spec_l6Rd_pick.f k l p n = some (r, p + 1) ∧ 0 ≤ r ∧ r < n := by
  obtain ⟨k, rfl⟩ : ∃ m, k = m + 1 := ⟨k - 1, by omega⟩
  unfold spec_l6Rd_pick.f
  rw [if_neg (by omega)]
  have ew : wrap64 (p + 1) = p + 1 := by unfold wrap64; omega
  have ew1 : wrap64 (p + 1 - 1) = p := by unfold wrap64; omega
  rw [ew]
  simp only [spec_l6Rd_pick.j0]
  rw [ew1]
  by_cases h0 : ((l.length : Int) == 0) = true
  · rw [if_pos h0]
    exact ⟨0, rfl, by omega, by omega⟩
  · rw [if_neg h0]
    have hne : ¬ (l.length : Int) = 0 := by simpa using h0
    have hr0 := bytes_rd hl
    have ewr : ∀ i, wrap64 (rd l i) = rd l i := fun i => by have := hr0 i; unfold wrap64; omega
    by_cases h1 : p < (l.length : Int)
    · rw [if_pos h1, if_pos hp, if_neg (by omega), ewr]
      exact ⟨_, rfl, tmod_range _ _ (hr0 _).1 hn⟩
    · rw [if_neg h1, if_neg hne]
      have e7 : wrap64 (wrap64 (p * 7) + 3) = p * 7 + 3 := by unfold wrap64; omega
      rw [e7]
      have q1 := tmod_range p (l.length : Int) hp (by omega)
      have q2 := tmod_range (p * 7 + 3) (l.length : Int) (by omega) (by omega)
      rw [if_pos q1.1, if_pos q1.2, if_pos q2.1, if_pos q2.2, if_neg (by omega)]
      refine ⟨_, rfl, ?_⟩
      have d1 : 0 ≤ p.tdiv (l.length : Int) ∧ p.tdiv (l.length : Int) ≤ p := by
        rw [Int.tdiv_eq_ediv_of_nonneg hp]
        exact ⟨Int.ediv_nonneg hp (by omega), Int.ediv_le_self _ hp⟩
      have b1 := hr0 (p.tmod (l.length : Int))
      have b2 := hr0 ((p * 7 + 3).tmod (l.length : Int))
      rw [ewr, ewr]
      generalize rd l (p.tmod (l.length : Int)) = u at *
      generalize rd l ((p * 7 + 3).tmod (l.length : Int)) = v at *
      generalize p.tdiv (l.length : Int) = q at *
      clear ew ew1 e7
      have eX : ∃ X, wrap64 (wrap64 (wrap64 (wrap64 (u * 131) + wrap64 (v * 1117)) + wrap64 (p * 29)) + wrap64 (wrap64 q * 53)) = X ∧ 0 ≤ X ∧ X < 9223372036854775808 := by
        rw [w64 (u * 131) (by omega), w64 (v * 1117) (by omega), w64 (p * 29) (by omega), w64 q (by omega), w64 (q * 53) (by omega), w64 (u * 131 + v * 1117) (by omega),
          w64 (u * 131 + v * 1117 + p * 29) (by omega), w64 (u * 131 + v * 1117 + p * 29 + q * 53) (by omega)]
        exact ⟨_, rfl, by omega, by omega⟩
      obtain ⟨X, eX, x0, x1⟩ := eX
      rw [eX]
      have eY : ∃ Y, wrap64 (X.tdiv 64) = Y ∧ 0 ≤ Y ∧ Y < 9223372036854775808 := by
        rw [Int.tdiv_eq_ediv_of_nonneg x0, w64 (X / 64) (by omega)]
        exact ⟨_, rfl, by omega, by omega⟩
      obtain ⟨Y, eY, y0, y1⟩ := eY
      rw [eY]
      exact tmod_range _ _ (xor_pos X Y x0 y0 x1 y1) hn

theorem open_gives (l : List Int) (hl : Bytes l) : ∃ b, spec_l6Open.f l = some (b, 0) ∧ Bytes b ∧ b.length ≤ 2000 := by
  unfold spec_l6Open.f
  by_cases h : (l.length : Int) > 2000
  · rw [if_pos h, if_pos (by omega)]
    exact ⟨_, rfl, fun x hx => hl x (List.mem_of_mem_take hx), by simp; omega⟩
  · rw [if_neg h]
    exact ⟨_, rfl, hl, by omega⟩

theorem bytes_of_wf {l : List Int} (h : ∀ x ∈ l, (Lit.int .u8 x).wf = true) : Bytes l := by
  intro x hx
  have := h x hx
  have hmin : IntKind.u8.min = 0 := rfl
  have hmax : IntKind.u8.max = 255 := rfl
  simp only [Lit.wf, Bool.and_eq_true, decide_eq_true_eq] at this
  omega

theorem draw_value_l0 (x8 x9 n : Int) (hn : n ≤ 10) (b : List Int) (hb : Bytes b) (hbl : b.length ≤ 2000) (m : Nat) : ∀ (j : Nat) (p : Int) (x11 x12 x13 : List Int) (k : Nat), 10 - j = m → j ≤ 10 → 0 ≤ p → p ≤ 1000 + 4 * j →
    x11.length = j → x12.length = j → x13.length = j → m + 2 ≤ k → ∃ r, spec_DrawSheetValue.l0 k x8 x9 n x11 x12 x13 j b p = some r ∧ r.2.2.2.2.length ≤ 10 := by
  induction m with
  | zero =>
    intro j p x11 x12 x13 k hm hj hp hp2 h1 h2 h3 hk
    obtain ⟨k, rfl⟩ : ∃ m, k = m + 1 := ⟨k - 1, by omega⟩
    simp only [spec_DrawSheetValue.l0]
    rw [if_neg (by omega)]
    exact ⟨_, rfl, by simp only; omega⟩
  | succ m ih =>
    intro j p x11 x12 x13 k hm hj hp hp2 h1 h2 h3 hk
    obtain ⟨k, rfl⟩ : ∃ m, k = m + 1 := ⟨k - 1, by omega⟩
    simp only [spec_DrawSheetValue.l0]
    by_cases c : (j : Int) < n
    · rw [if_pos c]
      obtain ⟨r1, q1, _, _⟩ := pick_gives b hb hbl p 5 k (by omega) (by omega) (by omega) (by omega) (by omega)
      rw [q1]; simp only [Option.bind_some]
      rw [if_pos (by omega)]
      obtain ⟨r2, q2, _, _⟩ := pick_gives b hb hbl (p + 1) 5 k (by omega) (by omega) (by omega) (by omega) (by omega)
      rw [q2]; simp only [Option.bind_some]
      rw [if_pos (by omega)]
      obtain ⟨r3, q3, _, _⟩ := pick_gives b hb hbl (p + 1 + 1) 30 k (by omega) (by omega) (by omega) (by omega) (by omega)
      rw [q3]; simp only [Option.bind_some]
      obtain ⟨r4, q4, _, _⟩ := pick_gives b hb hbl (p + 1 + 1 + 1) 60 k (by omega) (by omega) (by omega) (by omega) (by omega)
      rw [q4]; simp only [Option.bind_some]
      rw [if_pos (by omega), w64 ((j : Int) + 1) (by omega)]
      exact ih (j + 1) (p + 1 + 1 + 1 + 1) _ _ _ k (by omega) (by omega) (by omega) (by omega) (by simp [h1]) (by simp [h2]) (by simp [h3]) (by omega)
    · rw [if_neg c]
      exact ⟨_, rfl, by simp only; omega⟩

theorem draw_value (l : List Int) (hl : Bytes l) : ∃ r, spec_DrawSheetValue.f 20 l = some r ∧ r.2.2.2.2.length ≤ 10 := by
  obtain ⟨b, hb, hbb, hbl⟩ := open_gives l hl
  unfold spec_DrawSheetValue.f
  rw [hb]
  simp only [Option.bind_some]
  obtain ⟨r1, h1, _, _⟩ := pick_gives b hbb hbl 0 12 20 (by omega) (by omega) (by omega) (by omega) (by omega)
  rw [h1]; simp only [Option.bind_some]
  obtain ⟨r2, h2, _, _⟩ := pick_gives b hbb hbl (0 + 1) 12 20 (by omega) (by omega) (by omega) (by omega) (by omega)
  rw [h2]; simp only [Option.bind_some]
  obtain ⟨r3, h3, p3, q3⟩ := pick_gives b hbb hbl (0 + 1 + 1) 3 20 (by omega) (by omega) (by omega) (by omega) (by omega)
  rw [h3]; simp only [Option.bind_some]
  obtain ⟨r4, h4, p4, q4⟩ := pick_gives b hbb hbl (0 + 1 + 1 + 1) 24 20 (by omega) (by omega) (by omega) (by omega) (by omega)
  rw [h4]; simp only [Option.bind_some]
  have e : r4.tdiv 23 = r4 / 23 := Int.tdiv_eq_ediv_of_nonneg (by omega)
  rw [e, w64 (1 + r3) (by omega), w64 (r4 / 23) (by omega), w64 (r4 / 23 * 2) (by omega), w64 (1 + r3 + r4 / 23 * 2) (by omega)]
  exact draw_value_l0 _ _ _ (by omega) b hbb hbl 10 0 (0 + 1 + 1 + 1 + 1) [] [] [] 20 (by omega) (by omega) (by omega) (by omega) rfl rfl rfl (by omega)

theorem draw_value_all (l : List Int) (hl : Bytes l) : ∃ r, ∀ k, 20 ≤ k → spec_DrawSheetValue.f k l = some r := by
  obtain ⟨r, hr, _⟩ := draw_value l hl
  refine ⟨r, fun k hk => ?_⟩
  obtain ⟨m, rfl⟩ : ∃ m, k = 20 + m := ⟨k - 20, by omega⟩
  clear hk
  induction m with
  | zero => exact hr
  | succ m ih => exact spec_DrawSheetValue.mono l (20 + m) r ih

theorem draw_value_short (l : List Int) (hl : Bytes l) (r : Int × Int × List Int × List Int × List Int) (hr : spec_DrawSheetValue.f 20 l = some r) : r.2.2.2.2.length ≤ 10 := by
  obtain ⟨r', h1, h2⟩ := draw_value l hl
  rw [h1] at hr
  obtain rfl := Option.some.inj hr
  exact h2

/-! ### copying a list -/
theorem toInt_l0 (l : List Int) (hb : l.length ≤ 1048576) (d : Nat) : ∀ (k i : Nat) (out : List Int), i ≤ l.length → l.length - i = d → d < k → out.length = l.length →
    laws_toIntS.l0 k l out (i : Int) = some (out.take i ++ l.drop i) := by
  induction d with
  | zero =>
    intro k i out hi hd hk ho
    obtain ⟨k, rfl⟩ : ∃ m, k = m + 1 := ⟨k - 1, by omega⟩
    obtain rfl : i = l.length := by omega
    simp only [laws_toIntS.l0]
    rw [if_neg (by omega), ← ho, List.take_length, ho, List.drop_length, List.append_nil]
  | succ d ih =>
    intro k i out hi hd hk ho
    obtain ⟨k, rfl⟩ : ∃ m, k = m + 1 := ⟨k - 1, by omega⟩
    have hlt : i < l.length := by omega
    simp only [laws_toIntS.l0]
    rw [if_pos (by omega), if_pos (by omega), if_pos (by omega), w64 _ (by omega), rd_getD]
    have e : ((i : Int) + 1) = ((i + 1 : Nat) : Int) := by omega
    rw [e, ih k (i + 1) _ (by omega) (by omega) (by omega) (by simpa using ho)]
    congr 1
    have e1 : ((i : Int)).toNat = i := by omega
    rw [e1, List.drop_eq_getElem_cons hlt, List.getD_eq_getElem?_getD, List.getElem?_eq_getElem hlt, Option.getD_some]
    have e2 : (out.set i l[i]).take (i + 1) = out.take i ++ [l[i]] := by
      rw [List.take_succ_eq_append_getElem (by simpa [ho] using hlt), List.getElem_set_self, List.take_set_of_le (Nat.le_refl i)]
    rw [e2, List.append_assoc]
    rfl

theorem toInt_eq (l : List Int) (hb : l.length ≤ 1048576) (k : Nat) (hk : l.length < k) : laws_toIntS.f k l = some l := by
  unfold laws_toIntS.f
  have e : ((l.length : Int)).toNat = l.length := by omega
  rw [if_pos (by omega), e, if_pos (by omega)]
  have := toInt_l0 l hb l.length k 0 (List.replicate l.length 0) (by omega) (by omega) hk (by simp)
  simpa using this

/-! ### comparing lists -/
theorem eqInt_l0 (a b : List Int) (hab : a.length = b.length) (hb : a.length ≤ 1048576) (d : Nat) : ∀ (k i : Nat), i ≤ a.length → a.length - i = d → d < k →
    laws_eqIntS.l0 k a b (i : Int) = some (decide (a.drop i = b.drop i)) := by
  induction d with
  | zero =>
    intro k i hi hd hk
    obtain ⟨k, rfl⟩ : ∃ m, k = m + 1 := ⟨k - 1, by omega⟩
    obtain rfl : i = a.length := by omega
    simp only [laws_eqIntS.l0]
    rw [if_neg (by omega), List.drop_length, hab, List.drop_length]
    simp
  | succ d ih =>
    intro k i hi hd hk
    obtain ⟨k, rfl⟩ : ∃ m, k = m + 1 := ⟨k - 1, by omega⟩
    have hlt : i < a.length := by omega
    have hlt2 : i < b.length := by omega
    simp only [laws_eqIntS.l0]
    rw [if_pos (by omega), if_pos (by omega), if_pos (by omega), w64 _ (by omega), rd_getD, rd_getD]
    have e : ((i : Int) + 1) = ((i + 1 : Nat) : Int) := by omega
    have ea : a.drop i = a.getD i 0 :: a.drop (i + 1) := by
      rw [List.drop_eq_getElem_cons hlt, List.getD_eq_getElem?_getD, List.getElem?_eq_getElem hlt]; rfl
    have eb : b.drop i = b.getD i 0 :: b.drop (i + 1) := by
      rw [List.drop_eq_getElem_cons hlt2, List.getD_eq_getElem?_getD, List.getElem?_eq_getElem hlt2]; rfl
    rw [e, ea, eb]
    by_cases h : a.getD i 0 = b.getD i 0
    · rw [if_pos h, ih k (i + 1) (by omega) (by omega) (by omega), h]
      simp only [List.cons.injEq, true_and]
    · rw [if_neg h]
      simp only [List.cons.injEq, h, false_and, decide_false]

theorem eqInt_eq (a b : List Int) (hb : a.length ≤ 1048576) (k : Nat) (hk : a.length < k) : laws_eqIntS.f k a b = some (decide (a = b)) := by
  unfold laws_eqIntS.f
  by_cases h : (a.length : Int) = (b.length : Int)
  · rw [if_pos h]
    have := eqInt_l0 a b (by omega) hb a.length k 0 (by omega) (by omega) hk
    simpa using this
  · rw [if_neg h]
    have : ¬ a = b := fun e => h (by rw [e])
    simp [this]

theorem eqInt_self (a : List Int) (hb : a.length ≤ 1048576) (k : Nat) (hk : a.length < k) : laws_eqIntS.f k a a = some true := by
  rw [eqInt_eq a a hb k hk]; simp

end Go.Proofs.Ytjbijfdiojhmcaa.QcL

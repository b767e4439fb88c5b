/- Lemmas on what the printed functions of the sheets tell. -/
import Derived.Test.YtjbijfdiojhmcaaQb5
import Derived.Test.YtjbijfdiojhmcaaSMath
namespace Go.Proofs.Ytjbijfdiojhmcaa.QbL
open Go.RowKit Go.Proofs.Ytjbijfdiojhmcaa.Qb Go.Proofs.YtjbijfdiojhmcaaW.PrintWords Go.Proofs.YtjbijfdiojhmcaaW.PrintLast Go.Proofs.YtjbijfdiojhmcaaW.PrintMore
set_option linter.unusedVariables false
set_option linter.unusedSimpArgs false

theorem w64 (x : Int) (h : -9223372036854775808 ≤ x ∧ x ≤ 9223372036854775807) : wrap64 x = x := by unfold wrap64; omega

theorem rd_getD (l : List Int) (i : Nat) : rd l (i : Int) = l.getD i 0 := by simp [rd]


def inS (x : Int) : Bool := decide (1 ≤ x) && decide (x ≤ 12)

theorem inS_iff (x : Int) : inS x = true ↔ 1 ≤ x ∧ x ≤ 12 := by unfold inS; simp

theorem l6In_eq (a b c : Int) : spec_l6In.f a b c = some (decide (b ≤ a) && decide (a ≤ c)) := by
  unfold spec_l6In.f
  by_cases h : b ≤ a
  · rw [if_pos h]; simp [h]
  · rw [if_neg h]; simp [h]

theorem l9Sheet_eq (a b : Int) : spec_l9Sheet.f a b = some (inS a && inS b) := by
  unfold spec_l9Sheet.f inS
  rw [l6In_eq, l6In_eq]
  simp only [Option.bind_some]
  cases h : (decide (1 ≤ a) && decide (a ≤ 12)) <;> simp

/-- With enough rounds more, one tells what the other tells. -/
def Runs {α : Type} (F G : Nat → Option α) : Prop := ∃ n, ∀ k, F (n + k) = G k
theorem Runs.step {α : Type} {F G : Nat → Option α} (h : ∀ k, F (k + 1) = G k) : Runs F G := ⟨1, fun k => by rw [Nat.add_comm]; exact h k⟩
theorem Runs.refl {α : Type} {F : Nat → Option α} : Runs F F := ⟨0, fun k => by rw [Nat.zero_add]⟩
theorem Runs.trans {α : Type} {F G H : Nat → Option α} (h1 : Runs F G) (h2 : Runs G H) : Runs F H := by
  obtain ⟨n, a⟩ := h1
  obtain ⟨m, b⟩ := h2
  exact ⟨n + m, fun k => by rw [Nat.add_assoc, a, b]⟩
theorem Runs.first {α : Type} {F G H : Nat → Option α} (h : ∀ k, F (k + 1) = G k) (h2 : Runs G H) : Runs F H := (Runs.step h).trans h2
theorem Runs.ends {α : Type} {F : Nat → Option α} {r : α} (h : Runs F (fun _ => some r)) : ∃ n, ∀ k, n ≤ k → F k = some r := by
  obtain ⟨n, a⟩ := h
  exact ⟨n, fun k hk => by have := a (k - n); rwa [show n + (k - n) = k by omega] at this⟩

open Go.Proofs.Ytjbijfdiojhmcaa.S (Vz Vt cutW cutH cutB maxI minI Vz_fills Vz_bound Vz_eq cutW_half cutH_half cutW_le cutH_le)

theorem mx_max (a b : Int) : mx a b = maxI a b := rfl

def row (V : Nat → Nat → Int) (x n : Nat) : List Int := (List.range n).map (fun j => V x j)
def rows (V : Nat → Nat → Int) (n : Nat) : List (List Int) := (List.range n).map (fun i => row V i 13)
theorem row_len (V : Nat → Nat → Int) (x n : Nat) : (row V x n).length = n := by simp [row]
theorem rows_len (V : Nat → Nat → Int) (n : Nat) : (rows V n).length = n := by simp [rows]
theorem row_at (V : Nat → Nat → Int) (x n j : Nat) (h : j < n) : rd (row V x n) (j : Int) = V x j := by
  rw [rd_getD, List.getD_eq_getElem?_getD]; simp [row, h]
theorem rows_at (V : Nat → Nat → Int) (n i : Nat) (h : i < n) : rd_L1 (rows V n) (i : Int) = row V i 13 := by
  unfold rd_L1; rw [List.getD_eq_getElem?_getD]; simp [rows, h]
theorem row_more (V : Nat → Nat → Int) (x n : Nat) : row V x n ++ [V x n] = row V x (n + 1) := by simp [row, List.range_succ]
theorem rows_more (V : Nat → Nat → Int) (n : Nat) : rows V n ++ [row V n 13] = rows V (n + 1) := by simp [rows, List.range_succ]

section
variable (T : List (List Int)) (V : Nat → Nat → Int) (hV : ∀ x y, x ≤ 12 → y ≤ 12 → -100000000 ≤ V x y ∧ V x y ≤ 100000000)
include hV

theorem tab_l3 (x3 : List (List Int)) (x y : Nat) (hy : y ≤ 12) (hx : x ≤ 12) (o : Int) (n : Nat) : ∀ j, 1 ≤ j → y / 2 + 1 - j = n → j ≤ y / 2 + 1 →
    Runs (fun k => spec_l9Table.l3 k T x3 x (row V x y) y (cutH maxI V x y o (j - 1)) j)
      (fun k => spec_l9Table.l1 k T x3 x (row V x y ++ [cutH maxI V x y o (y / 2)]) ((y + 1 : Nat) : Int)) := by
  induction n with
  | zero =>
    intro j hj hn hj2
    obtain rfl : j = y / 2 + 1 := by omega
    refine Runs.step (fun k => ?_)
    simp only [spec_l9Table.l3]
    rw [w64 _ (by omega), if_neg (by omega), if_pos (by rw [row_len]; omega), w64 _ (by omega)]
    rfl
  | succ n ih =>
    intro j hj hn hj2
    refine Runs.first (fun k => ?_) (ih (j + 1) (by omega) (by omega) (by omega))
    have b1 := hV x j hx (by omega)
    have b2 := hV x (y - j) hx (by omega)
    have e1 : ((y : Int) - (j : Int)) = ((y - j : Nat) : Int) := by omega
    simp only [spec_l9Table.l3]
    rw [w64 (2 * (j : Int)) (by omega), if_pos (by omega), if_pos (by omega), if_pos (by rw [row_len]; omega), w64 ((y : Int) - (j : Int)) (by omega), e1, if_pos (by omega), if_pos (by rw [row_len]; omega),
      row_at V x y j (by omega), row_at V x y (y - j) (by omega), w64 _ (by omega), w64 _ (by omega), mx_max]
    congr 1
    obtain ⟨m, rfl⟩ : ∃ m, j = m + 1 := ⟨j - 1, by omega⟩
    rfl

theorem tab_l2 (x y : Nat) (hy : y ≤ 12) (hx : x ≤ 12) (o : Int) (n : Nat) : ∀ j, 1 ≤ j → x / 2 + 1 - j = n → j ≤ x / 2 + 1 →
    Runs (fun k => spec_l9Table.l2 k T (rows V x) x (row V x y) y (cutW maxI V x y o (j - 1)) j)
      (fun k => spec_l9Table.l3 k T (rows V x) x (row V x y) y (cutW maxI V x y o (x / 2)) 1) := by
  induction n with
  | zero =>
    intro j hj hn hj2
    obtain rfl : j = x / 2 + 1 := by omega
    refine Runs.step (fun k => ?_)
    simp only [spec_l9Table.l2]
    rw [w64 _ (by omega), if_neg (by omega)]
    rfl
  | succ n ih =>
    intro j hj hn hj2
    refine Runs.first (fun k => ?_) (ih (j + 1) (by omega) (by omega) (by omega))
    have b1 := hV j y (by omega) hy
    have b2 := hV (x - j) y (by omega) hy
    have e1 : ((x : Int) - (j : Int)) = ((x - j : Nat) : Int) := by omega
    simp only [spec_l9Table.l2]
    rw [w64 (2 * (j : Int)) (by omega), if_pos (by omega), if_pos (by omega), if_pos (by rw [rows_len]; omega), if_pos (by omega), rows_at V x j (by omega), if_pos (by rw [row_len]; omega),
      w64 ((x : Int) - (j : Int)) (by omega), e1, if_pos (by omega), if_pos (by rw [rows_len]; omega), rows_at V x (x - j) (by omega), if_pos (by rw [row_len]; omega),
      row_at V j 13 y (by omega), row_at V (x - j) 13 y (by omega), w64 _ (by omega), w64 _ (by omega), mx_max]
    congr 1
    obtain ⟨m, rfl⟩ : ∃ m, j = m + 1 := ⟨j - 1, by omega⟩
    rfl

variable (al : Nat → Nat → Int) (hT : T = rows al 13) (hF : ∀ x y, x ≤ 12 → y ≤ 12 → V x y = cutB maxI V x y (al x y))
include hT hF

theorem tab_l1 (x : Nat) (hx : x ≤ 12) (n : Nat) : ∀ y, 13 - y = n → y ≤ 13 →
    Runs (fun k => spec_l9Table.l1 k T (rows V x) x (row V x y) y) (fun k => spec_l9Table.l0 k T (rows V (x + 1)) ((x + 1 : Nat) : Int)) := by
  induction n with
  | zero =>
    intro y hn hy
    obtain rfl : y = 13 := by omega
    refine Runs.step (fun k => ?_)
    simp only [spec_l9Table.l1]
    rw [if_neg (by omega), if_pos (by rw [rows_len]; omega), w64 _ (by omega), rows_more]
    rfl
  | succ n ih =>
    intro y hn hy
    have h3 := tab_l3 T V hV (rows V x) x y (by omega) hx (cutW maxI V x y (al x y) (x / 2)) (y / 2) 1 (by omega) (by omega) (by omega)
    have h2 := tab_l2 T V hV x y (by omega) hx (al x y) (x / 2) 1 (by omega) (by omega) (by omega)
    have e : cutH maxI V x y (cutW maxI V x y (al x y) (x / 2)) (y / 2) = V x y := by
      rw [cutW_half, cutH_half]; exact (hF x y hx (by omega)).symm
    rw [e, row_more] at h3
    refine Runs.first (fun k => ?_) (h2.trans (h3.trans (ih (y + 1) (by omega) (by omega))))
    simp only [spec_l9Table.l1]
    rw [if_pos (by omega), if_pos (by omega), if_pos (by rw [hT, rows_len]; omega), if_pos (by omega), hT, rows_at al 13 x (by omega), if_pos (by rw [row_len]; omega), row_at al x 13 y (by omega)]
    rfl

theorem tab_l0 (n : Nat) : ∀ x, 13 - x = n → x ≤ 13 → Runs (fun k => spec_l9Table.l0 k T (rows V x) x) (fun _ => some (rows V 13)) := by
  induction n with
  | zero =>
    intro x hn hx
    obtain rfl : x = 13 := by omega
    refine Runs.step (fun k => ?_)
    simp only [spec_l9Table.l0]
    rw [if_neg (by omega)]
  | succ n ih =>
    intro x hn hx
    refine Runs.first (fun k => ?_) ((tab_l1 T V hV al hT hF x (by omega) 13 0 (by omega) (by omega)).trans (ih (x + 1) (by omega) (by omega)))
    simp only [spec_l9Table.l0]
    rw [if_pos (by omega)]
    rfl
end

theorem table_eq (al : Int → Int → Int) (hb : ∀ x y : Nat, x ≤ 12 → y ≤ 12 → -100000 ≤ al x y ∧ al x y ≤ 99) :
    ∃ n, ∀ k, n ≤ k → spec_l9Table.f k (rows (fun x y => al x y) 13) = some (rows (Vz al maxI) 13) := by
  have hB := Vz_bound al (-100000) 99 (by omega) hb 24
  have hm : ∀ x y : Nat, x ≤ 12 → y ≤ 12 → ((Go.Proofs.Ytjbijfdiojhmcaa.S.m1 x * Go.Proofs.Ytjbijfdiojhmcaa.S.m1 y : Nat) : Int) ≤ 144 := by
    intro x y hx hy
    have : Go.Proofs.Ytjbijfdiojhmcaa.S.m1 x * Go.Proofs.Ytjbijfdiojhmcaa.S.m1 y ≤ 12 * 12 := Nat.mul_le_mul (by unfold Go.Proofs.Ytjbijfdiojhmcaa.S.m1; split <;> omega) (by unfold Go.Proofs.Ytjbijfdiojhmcaa.S.m1; split <;> omega)
    omega
  have hV : ∀ x y, x ≤ 12 → y ≤ 12 → -100000000 ≤ Vz al maxI x y ∧ Vz al maxI x y ≤ 100000000 := by
    intro x y hx hy
    have h1 := hB x y (by omega) hx hy
    have h2 := hm x y hx hy
    omega
  exact Runs.ends (tab_l0 _ (Vz al maxI) hV (fun x y => al x y) rfl (fun x y _ _ => Vz_fills al maxI x y) 13 0 (by omega) (by omega))

open Go.Proofs.Ytjbijfdiojhmcaa.S (alSquare aSq sq_neg Vt_square_bound impl_SheetMost.f impl_SheetSquares.f alMost fitB)

theorem inS_same : Go.Proofs.Ytjbijfdiojhmcaa.QaL.inS = inS := rfl

theorem Runs.ends' {α : Type} {F G : Nat → Option α} {r : α} (h : Runs F G) (h2 : ∃ n, ∀ k, n ≤ k → G k = some r) : ∃ n, ∀ k, n ≤ k → F k = some r := by
  obtain ⟨n, a⟩ := h
  obtain ⟨m, b⟩ := h2
  refine ⟨n + m, fun k hk => ?_⟩
  have := a (k - n)
  rw [show n + (k - n) = k by omega] at this
  rw [this]
  exact b _ (by omega)

def aSqN (x y : Nat) : Int := aSq x y

theorem sq_l1 (a b : Int) (x6 : List (List Int)) (hx6 : x6.length ≤ 13) (x : Nat) (hx : x ≤ 12) (n : Nat) : ∀ y, 13 - y = n → y ≤ 13 →
    Runs (fun k => spec_SheetSquares.l1 k a b x6 x (row aSqN x y) y) (fun k => spec_SheetSquares.l0 k a b (x6 ++ [row aSqN x 13]) ((x + 1 : Nat) : Int)) := by
  induction n with
  | zero =>
    intro y hn hy
    obtain rfl : y = 13 := by omega
    refine Runs.step (fun k => ?_)
    simp only [spec_SheetSquares.l1]
    rw [if_neg (by omega), if_pos (by omega), w64 _ (by omega)]
    rfl
  | succ n ih =>
    intro y hn hy
    refine Runs.first (fun k => ?_) (ih (y + 1) (by omega) (by omega))
    simp only [spec_SheetSquares.l1]
    rw [if_pos (by omega), ← row_more]
    by_cases e : (x : Int) = (y : Int)
    · rw [if_pos e, if_pos (by rw [row_len]; omega), w64 _ (by omega)]
      have : aSqN x y = -1 := if_pos e
      rw [this]; rfl
    · rw [if_neg e, if_pos (by rw [row_len]; omega), w64 _ (by omega)]
      have : aSqN x y = -100000 := if_neg e
      rw [this]; rfl

theorem sq_l0 (a b : Int) (n : Nat) : ∀ x, 13 - x = n → x ≤ 13 →
    Runs (fun k => spec_SheetSquares.l0 k a b (rows aSqN x) x) (fun k => spec_SheetSquares.l0 k a b (rows aSqN 13) ((13 : Nat) : Int)) := by
  induction n with
  | zero =>
    intro x hn hx
    obtain rfl : x = 13 := by omega
    exact Runs.refl
  | succ n ih =>
    intro x hn hx
    refine Runs.first (fun k => ?_) ((sq_l1 a b (rows aSqN x) (by rw [rows_len]; omega) x (by omega) 13 0 (by omega) (by omega)).trans (by rw [rows_more]; exact ih (x + 1) (by omega) (by omega)))
    simp only [spec_SheetSquares.l0]
    rw [if_pos (by omega)]
    rfl

theorem spec_squares_eq (a b : Int) : ∃ n, ∀ k, n ≤ k → spec_SheetSquares.f k a b = impl_SheetSquares.f a b := by
  unfold spec_SheetSquares.f impl_SheetSquares.f
  rw [inS_same, l9Sheet_eq]
  simp only [Option.bind_some]
  by_cases hh : (inS a && inS b) = true
  · rw [if_pos hh]
    simp only [if_pos hh]
    simp only [Bool.and_eq_true, inS_iff] at hh
    obtain ⟨ha, hb⟩ := hh
    obtain ⟨x, rfl⟩ := Int.eq_ofNat_of_zero_le (show 0 ≤ a by omega)
    obtain ⟨y, rfl⟩ := Int.eq_ofNat_of_zero_le (show 0 ≤ b by omega)
    obtain ⟨n, hn⟩ := table_eq aSq (fun x y _ _ => by unfold aSq; split <;> omega)
    refine Runs.ends' ((sq_l0 x y 13 0 (by omega) (by omega)).trans (Runs.step (G := fun k => (spec_l9Table.f k (rows aSqN 13)).bind fun t127 => (if 0 ≤ (x : Int) then (if (x : Int) < (t127.length : Int) then (if 0 ≤ (y : Int) then (if (y : Int) < ((rd_L1 t127 x).length : Int) then (some (wrap64 (-(rd (rd_L1 t127 x) y)), true)) else (none)) else (none)) else (none)) else (none))) (fun k => ?_))) ⟨n, fun k hk => ?_⟩
    · simp only [spec_SheetSquares.l0]
      rw [if_neg (by omega)]
    · have e := hn k hk
      have e' : spec_l9Table.f k (rows aSqN 13) = some (rows (Vz aSq maxI) 13) := e
      have hq := Vt_square_bound x y (by omega) (by omega) (by omega) (by omega)
      rw [e', Option.bind_some, if_pos (by omega), if_pos (by rw [rows_len]; omega), if_pos (by omega), rows_at _ 13 x (by omega), if_pos (by rw [row_len]; omega), row_at _ x 13 y (by omega),
        Vz_eq aSq maxI x y (by omega) (by omega), sq_neg x y (by omega) (by omega) (by omega) (by omega), Int.neg_neg, w64 _ (by omega)]
      rfl
  · rw [if_neg hh]
    simp only [if_neg hh]
    exact ⟨0, fun _ _ => by first | rfl | trivial⟩

theorem row_set (V : Nat → Nat → Int) (x n j : Nat) (v : Int) : (row V x n).set j v = row (fun a b => if a = x ∧ b = j then v else V a b) x n := by
  refine List.ext_getElem (by simp [row]) (fun i h1 h2 => ?_)
  simp only [row, List.getElem_set, List.getElem_map, List.getElem_range]
  by_cases e : j = i
  · subst e; simp
  · rw [if_neg e, if_neg (fun q => e q.2.symm)]
theorem rows_set (V V' : Nat → Nat → Int) (n i : Nat) (h : ∀ x y, x ≠ i → V' x y = V x y) : (rows V n).set i (row V' i 13) = rows V' n := by
  refine List.ext_getElem (by simp [rows]) (fun k h1 h2 => ?_)
  simp only [rows, List.getElem_set, List.getElem_map, List.getElem_range]
  by_cases e : i = k
  · subst e; simp
  · rw [if_neg e]
    unfold row
    refine List.map_congr_left (fun y _ => ?_)
    rw [h k y (fun q => e q.symm)]

theorem row_zero (x n : Nat) : List.replicate n (0 : Int) = row (fun _ _ => 0) x n := by
  refine List.ext_getElem (by simp [row]) (fun i h1 h2 => ?_)
  simp [row]

theorem worth_l0 (n : Nat) : ∀ x, 13 - x = n → x ≤ 13 → Runs (fun k => spec_l9Worth.l0 k (rows (fun _ _ => 0) x) (x : Int)) (fun _ => some (rows (fun _ _ => 0) 13)) := by
  induction n with
  | zero =>
    intro x hn hx
    obtain rfl : x = 13 := by omega
    refine Runs.step (fun k => ?_)
    simp only [spec_l9Worth.l0]
    rw [if_neg (by omega)]
  | succ n ih =>
    intro x hn hx
    refine Runs.first (fun k => ?_) (ih (x + 1) (by omega) (by omega))
    simp only [spec_l9Worth.l0]
    rw [if_pos (by omega), if_pos (by omega), if_pos (by rw [rows_len]; omega), w64 _ (by omega), row_zero x 13, rows_more]
    rfl

theorem worth_eq : ∃ n, ∀ k, n ≤ k → spec_l9Worth.f k = some (rows (fun _ _ => 0) 13) := Runs.ends (worth_l0 13 0 (by omega) (by omega))

def aMostN (p q : Nat) (x y : Nat) : Int := if x = q ∧ y = p then 1 else if x = p ∧ y = q then 1 else 0
theorem aMost_same (p q x y : Nat) : aMostN p q x y = alMost p q x y := by
  unfold aMostN alMost fitB
  by_cases h1 : x = q ∧ y = p
  · rw [if_pos h1, if_pos (by simp [h1.1, h1.2])]
  · rw [if_neg h1]
    by_cases h2 : x = p ∧ y = q
    · rw [if_pos h2, if_pos (by simp [h2.1, h2.2])]
    · rw [if_neg h2, if_neg (by simp; omega)]

theorem spec_l9Most_eq (x y p q : Nat) (hx : 1 ≤ x ∧ x ≤ 12) (hy : 1 ≤ y ∧ y ≤ 12) (hp : 1 ≤ p ∧ p ≤ 12) (hq : 1 ≤ q ∧ q ≤ 12) :
    ∃ n, ∀ k, n ≤ k → spec_l9Most.f k x y p q = some (Vt (alMost p q) maxI x y) := by
  obtain ⟨n, hn⟩ := worth_eq
  obtain ⟨m, hm⟩ := table_eq (alMost p q) (fun x y _ _ => by unfold alMost; split <;> omega)
  refine ⟨n + m, fun k hk => ?_⟩
  unfold spec_l9Most.f
  have e1 : ((row (fun _ _ => 0) p 13).set q 1) = row (fun a b => if a = p ∧ b = q then 1 else 0) p 13 := row_set _ p 13 q 1
  have e2 : (rows (fun _ _ => 0) 13).set p (row (fun a b => if a = p ∧ b = q then 1 else 0) p 13) = rows (fun a b => if a = p ∧ b = q then 1 else 0) 13 :=
    rows_set _ _ 13 p (fun x y h => by rw [if_neg (fun q => h q.1)])
  have e3 : ((row (fun a b => if a = p ∧ b = q then (1 : Int) else 0) q 13).set p 1) = row (aMostN p q) q 13 := row_set _ q 13 p 1
  have e4 : (rows (fun a b => if a = p ∧ b = q then (1 : Int) else 0) 13).set q (row (aMostN p q) q 13) = rows (aMostN p q) 13 :=
    rows_set _ _ 13 q (fun x y h => by unfold aMostN; rw [if_neg (fun z => h z.1)])
  have e5 : rows (aMostN p q) 13 = rows (fun x y => alMost p q x y) 13 := by
    have : aMostN p q = fun x y : Nat => alMost p q x y := by funext x y; exact aMost_same p q x y
    rw [this]
  rw [hn k (by omega)]
  simp only [Option.bind_some, Int.toNat_natCast]
  rw [if_pos (by omega), if_pos (by rw [rows_len]; omega), if_pos (by omega), rows_at _ 13 p (by omega), if_pos (by rw [row_len]; omega), e1, e2, if_pos (by rw [rows_len]; omega), rows_at _ 13 q (by omega),
    if_pos (by rw [row_len]; omega), e3, e4, e5, hm k (by omega)]
  rw [Option.bind_some, if_pos (by omega), if_pos (by rw [rows_len]; omega), if_pos (by omega), rows_at _ 13 x (by omega), if_pos (by rw [row_len]; omega), row_at _ x 13 y (by omega),
    Vz_eq _ maxI x y (by omega) (by omega)]

def mostV (a0 a1 a2 a3 : Int) : Int := Vt (alMost a2 a3) maxI a0.toNat a1.toNat

theorem impl_most_eq (a0 a1 a2 a3 : Int) : impl_SheetMost.f a0 a1 a2 a3 = some (if (inS a0 && inS a1 && inS a2 && inS a3) = true then (mostV a0 a1 a2 a3, true) else (0, false)) := rfl

theorem l9Most_int (a0 a1 a2 a3 : Int) (h0 : 1 ≤ a0 ∧ a0 ≤ 12) (h1 : 1 ≤ a1 ∧ a1 ≤ 12) (h2 : 1 ≤ a2 ∧ a2 ≤ 12) (h3 : 1 ≤ a3 ∧ a3 ≤ 12) :
    ∃ n, ∀ k, n ≤ k → spec_l9Most.f k a0 a1 a2 a3 = some (mostV a0 a1 a2 a3) := by
  obtain ⟨x, rfl⟩ := Int.eq_ofNat_of_zero_le (show 0 ≤ a0 by omega)
  obtain ⟨y, rfl⟩ := Int.eq_ofNat_of_zero_le (show 0 ≤ a1 by omega)
  obtain ⟨p, rfl⟩ := Int.eq_ofNat_of_zero_le (show 0 ≤ a2 by omega)
  obtain ⟨q, rfl⟩ := Int.eq_ofNat_of_zero_le (show 0 ≤ a3 by omega)
  exact spec_l9Most_eq x y p q (by omega) (by omega) (by omega) (by omega)

theorem spec_most_eq (a0 a1 a2 a3 : Int) : ∃ n, ∀ k, n ≤ k → spec_SheetMost.f k a0 a1 a2 a3 = impl_SheetMost.f a0 a1 a2 a3 := by
  unfold spec_SheetMost.f
  rw [impl_most_eq, l9Sheet_eq, l9Sheet_eq]
  simp only [Option.bind_some]
  by_cases h1 : (inS a0 && inS a1) = true
  · simp only [if_pos h1]
    by_cases h2 : (inS a2 && inS a3) = true
    · have hh : (inS a0 && inS a1 && inS a2 && inS a3) = true := by rw [h1, Bool.true_and]; exact h2
      simp only [if_pos h2, if_pos hh]
      simp only [Bool.and_eq_true, inS_iff] at hh
      obtain ⟨n, hn⟩ := l9Most_int a0 a1 a2 a3 hh.1.1.1 hh.1.1.2 hh.1.2 hh.2
      exact ⟨n, fun k hk => by rw [hn k hk]; rfl⟩
    · have h3 : ¬ (inS a0 && inS a1 && inS a2 && inS a3) = true := by rw [h1, Bool.true_and]; exact h2
      simp only [if_neg h2, if_neg h3]
      exact ⟨0, fun _ _ => by first | rfl | trivial⟩
  · have h3 : ¬ (inS a0 && inS a1 && inS a2 && inS a3) = true := by simp only [Bool.and_eq_true] at h1 ⊢; intro hh; exact h1 ⟨hh.1.1.1, hh.1.1.2⟩
    simp only [if_neg h1, if_neg h3]
    exact ⟨0, fun _ _ => by first | rfl | trivial⟩

open Go.Proofs.Ytjbijfdiojhmcaa.S (Vt_max_bound Vt_turn_max Vt_addW Vt_rows Vt_alone Vt_inv)

theorem alMost_unit (p q : Int) : ∀ x y : Nat, 1 ≤ x → x ≤ 12 → 1 ≤ y → y ≤ 12 → 0 ≤ alMost p q x y ∧ alMost p q x y ≤ 1 := fun x y _ _ _ _ => by unfold alMost; split <;> omega
theorem most_zero (p q : Int) : ∀ x y : Nat, 1 ≤ x → x ≤ 12 → 1 ≤ y → y ≤ 12 → 0 ≤ Vt (alMost p q) maxI x y := fun x y a b c d => (Vt_max_bound (alMost p q) 1 (by omega) (alMost_unit p q) x y a b c d).1
theorem alMost_turn (p q x y : Int) : alMost p q x y = alMost p q y x := by
  unfold alMost fitB
  have : ((decide (x = p) && decide (y = q)) || (decide (x = q) && decide (y = p))) = ((decide (y = p) && decide (x = q)) || (decide (y = q) && decide (x = p))) := by
    rw [Bool.or_comm, Bool.and_comm (decide (x = q)), Bool.and_comm (decide (x = p))]
  rw [this]
theorem alMost_swap (p q : Int) : alMost p q = alMost q p := by
  funext x y
  unfold alMost fitB
  rw [Bool.or_comm]

/-- The pieces' area is no more than the sheet's. -/
theorem most_area (p q : Nat) (x y : Nat) (a : 1 ≤ x) (b : x ≤ 12) (c : 1 ≤ y) (d : y ≤ 12) (hp : 1 ≤ p) (hq : 1 ≤ q) :
    Vt (alMost p q) maxI x y * ((p * q : Nat) : Int) ≤ ((x * y : Nat) : Int) := by
  refine Vt_inv (alMost p q) maxI (fun x y v => v * ((p * q : Nat) : Int) ≤ ((x * y : Nat) : Int)) ?_ ?_ ?_ (x + y) x y (Nat.le_refl _) a b c d
  · intro x y a b c d
    unfold alMost fitB
    split
    · rename_i h
      rw [Int.one_mul]
      simp only [Bool.or_eq_true, Bool.and_eq_true, decide_eq_true_eq] at h
      rcases h with ⟨h1, h2⟩ | ⟨h1, h2⟩
      · obtain rfl : x = p := by omega
        obtain rfl : y = q := by omega
        exact Int.le_refl _
      · obtain rfl : x = q := by omega
        obtain rfl : y = p := by omega
        rw [Nat.mul_comm]; exact Int.le_refl _
    · rw [Int.zero_mul]; omega
  · intro x y k a b c h1 h2 h3 h4 h5 ha hb hc
    have e : ((k * y : Nat) : Int) + (((x - k) * y : Nat) : Int) = ((x * y : Nat) : Int) := by
      rw [← Int.natCast_add, ← Nat.add_mul, show k + (x - k) = x by omega]
    have e2 : (b + c) * ((p * q : Nat) : Int) = b * ((p * q : Nat) : Int) + c * ((p * q : Nat) : Int) := Int.add_mul _ _ _
    show maxI a (b + c) * _ ≤ _
    unfold maxI
    split
    · omega
    · exact ha
  · intro x y k a b c h1 h2 h3 h4 h5 ha hb hc
    have e : ((x * k : Nat) : Int) + ((x * (y - k) : Nat) : Int) = ((x * y : Nat) : Int) := by
      rw [← Int.natCast_add, ← Nat.mul_add, show k + (y - k) = y by omega]
    have e2 : (b + c) * ((p * q : Nat) : Int) = b * ((p * q : Nat) : Int) + c * ((p * q : Nat) : Int) := Int.add_mul _ _ _
    show maxI a (b + c) * _ ≤ _
    unfold maxI
    split
    · omega
    · exact ha

/-- All of mostV's laws, on whole numbers. -/
theorem mostV_facts (w h a b : Int) (hw : 1 ≤ w ∧ w ≤ 12) (hh : 1 ≤ h ∧ h ≤ 12) (ha : 1 ≤ a ∧ a ≤ 12) (hb : 1 ≤ b ∧ b ≤ 12) :
    0 ≤ mostV w h a b ∧ mostV w h a b ≤ 144 ∧ mostV h w a b = mostV w h a b ∧ mostV w h b a = mostV w h a b ∧ mostV w h a b * (a * b) ≤ w * h ∧ w / a * (h / b) ≤ mostV w h a b ∧ w / b * (h / a) ≤ mostV w h a b ∧
    (w ≤ 11 → mostV w h a b ≤ mostV (w + 1) h a b) ∧ a * b ≤ 144 ∧ 0 ≤ a * b ∧ w * h ≤ 144 ∧ 0 ≤ w * h := by
  obtain ⟨x, rfl⟩ := Int.eq_ofNat_of_zero_le (show 0 ≤ w by omega)
  obtain ⟨y, rfl⟩ := Int.eq_ofNat_of_zero_le (show 0 ≤ h by omega)
  obtain ⟨p, rfl⟩ := Int.eq_ofNat_of_zero_le (show 0 ≤ a by omega)
  obtain ⟨q, rfl⟩ := Int.eq_ofNat_of_zero_le (show 0 ≤ b by omega)
  have hB := Vt_max_bound (alMost p q) 1 (by omega) (alMost_unit p q) x y (by omega) (by omega) (by omega) (by omega)
  have hp2 : x * y ≤ 12 * 12 := Nat.mul_le_mul (by omega) (by omega)
  have hp3 : p * q ≤ 12 * 12 := Nat.mul_le_mul (by omega) (by omega)
  have hone : ∀ p q : Nat, 1 ≤ p → 1 ≤ q → p ≤ 12 → q ≤ 12 → 1 ≤ Vt (alMost p q) maxI p q := by
    intro p q h1 h2 h3 h4
    have := Vt_alone (alMost p q) p q h1 h3 h2 h4
    have e : alMost p q p q = 1 := by unfold alMost fitB; simp
    omega
  have r1 := Vt_rows (most_zero p q) x y p q 1 (by omega) (by omega) (by omega) (by omega) (by omega) (by omega) (by omega) (fun h1 h2 => hone p q (by omega) (by omega) h1 h2)
  have r2 := Vt_rows (most_zero q p) x y q p 1 (by omega) (by omega) (by omega) (by omega) (by omega) (by omega) (by omega) (fun h1 h2 => hone q p (by omega) (by omega) h1 h2)
  rw [alMost_swap q p] at r2
  rw [Int.mul_one, Int.natCast_mul, Int.natCast_ediv, Int.natCast_ediv] at r1 r2
  have ar := most_area p q x y (by omega) (by omega) (by omega) (by omega) (by omega) (by omega)
  have tn := Vt_turn_max (alMost p q) (alMost_turn p q) x y (by omega) (by omega) (by omega) (by omega)
  rw [Int.natCast_mul] at ar
  rw [Int.natCast_mul] at ar
  refine ⟨hB.1, by have := hB.2; show Vt (alMost p q) maxI x y ≤ 144; omega, tn, ?_, ar, r1, r2, fun h1 => ?_, by rw [← Int.natCast_mul]; omega, by rw [← Int.natCast_mul]; omega, by rw [← Int.natCast_mul]; omega, by rw [← Int.natCast_mul]; omega⟩
  · show Vt (alMost q p) maxI x y = _
    rw [alMost_swap q p]; rfl
  · have h2 := Vt_addW (alMost p q) (x + 1) x y (by omega) (by omega) (by omega) (by omega) (by omega)
    have h3 := most_zero p q (x + 1 - x) y (by omega) (by omega) (by omega) (by omega)
    have e : mostV ((x : Int) + 1) y p q = Vt (alMost p q) maxI (x + 1) y := rfl
    rw [e]
    show Vt (alMost p q) maxI x y ≤ _
    omega

def lossV (w h a b : Int) : Int := w * h - mostV w h a b * (a * b)

theorem impl_loss_eq (w h a b : Int) : impl_SheetLoss.f w h a b = some (if (inS w && inS h && inS a && inS b) = true then (lossV w h a b, true) else (0, false)) := by
  unfold impl_SheetLoss.f
  rw [impl_most_eq]
  simp only [Option.bind_some]
  by_cases hh : (inS w && inS h && inS a && inS b) = true
  · simp only [if_pos hh]
    simp only [Bool.and_eq_true, inS_iff] at hh
    obtain ⟨⟨⟨hw, hh⟩, ha⟩, hb⟩ := hh
    have f := mostV_facts w h a b hw hh ha hb
    have e : mostV w h a b * a * b = mostV w h a b * (a * b) := Int.mul_assoc _ _ _
    have g1 : 0 ≤ mostV w h a b * (a * b) := Int.mul_nonneg f.1 (by omega)
    have g2 : 0 ≤ mostV w h a b * a := Int.mul_nonneg f.1 (by omega)
    have g3 : mostV w h a b * a ≤ 144 * 12 := Int.mul_le_mul f.2.1 (by omega) (by omega) (by omega)
    rw [if_pos trivial, w64 (w * h) (by omega), w64 (mostV w h a b * a) (by omega), e, w64 (mostV w h a b * (a * b)) (by omega), w64 _ (by omega)]
    rfl
  · simp only [if_neg hh]
    rw [if_neg (by simp)]

theorem spec_loss_eq (w h a b : Int) : ∃ n, ∀ k, n ≤ k → spec_SheetLoss.f k w h a b = impl_SheetLoss.f w h a b := by
  unfold spec_SheetLoss.f
  rw [impl_loss_eq, l9Sheet_eq, l9Sheet_eq]
  simp only [Option.bind_some]
  by_cases h1 : (inS w && inS h) = true
  · simp only [if_pos h1]
    by_cases h2 : (inS a && inS b) = true
    · have hh : (inS w && inS h && inS a && inS b) = true := by rw [h1, Bool.true_and]; exact h2
      simp only [if_pos h2, if_pos hh]
      simp only [Bool.and_eq_true, inS_iff] at hh
      obtain ⟨⟨⟨hw, hh⟩, ha⟩, hb⟩ := hh
      obtain ⟨n, hn⟩ := l9Most_int w h a b hw hh ha hb
      refine ⟨n, fun k hk => ?_⟩
      have f := mostV_facts w h a b hw hh ha hb
      have g1 : 0 ≤ mostV w h a b * (a * b) := Int.mul_nonneg f.1 (by omega)
      rw [hn k hk, Option.bind_some, w64 (w * h) (by omega), w64 (a * b) (by omega), Int.mul_comm (a * b), w64 (mostV w h a b * (a * b)) (by omega), w64 _ (by omega)]
      rfl
    · have h3 : ¬ (inS w && inS h && inS a && inS b) = true := by rw [h1, Bool.true_and]; exact h2
      simp only [if_neg h2, if_neg h3]
      exact ⟨0, fun _ _ => by first | rfl | trivial⟩
  · have h3 : ¬ (inS w && inS h && inS a && inS b) = true := by simp only [Bool.and_eq_true] at h1 ⊢; intro hh; exact h1 ⟨hh.1.1.1, hh.1.1.2⟩
    simp only [if_neg h1, if_neg h3]
    exact ⟨0, fun _ _ => by first | rfl | trivial⟩

theorem sized_step (k : Nat) (l : List Int) (i : Nat) (h : i < l.length) (hb : l.length ≤ 140737488351232) :
    impl_sized.l0 (k + 1) l l.length i = if inS (l.getD i 0) = true then impl_sized.l0 k l l.length ((i + 1 : Nat) : Int) else some false := by
  simp only [impl_sized.l0]
  rw [if_pos (by omega), if_pos (by omega), if_pos (by omega)]
  have e : rd l (i : Int) = l.getD i 0 := by simp [rd]
  have ew : wrap64 ((i : Int) + 1) = ((i + 1 : Nat) : Int) := by unfold wrap64; omega
  rw [e, ew]
  generalize l.getD i 0 = x
  by_cases h1 : x < 1
  · rw [if_pos h1, if_neg (by rw [inS_iff]; omega)]
  · rw [if_neg h1]
    by_cases h2 : x > 12
    · rw [if_pos h2, if_neg (by rw [inS_iff]; omega)]
    · rw [if_neg h2, if_pos (by rw [inS_iff]; omega)]

theorem sized_from (l : List Int) (hb : l.length ≤ 140737488351232) (d : Nat) : ∀ (k i : Nat), i ≤ l.length → l.length - i = d → d < k →
    impl_sized.l0 k l l.length (i : Int) = some ((l.drop i).all inS) := by
  induction d with
  | zero =>
    intro k i hi hd hk
    obtain ⟨k, rfl⟩ : ∃ m, k = m + 1 := ⟨k - 1, by omega⟩
    obtain rfl : i = l.length := by omega
    simp only [impl_sized.l0]
    rw [if_neg (by omega)]
    simp
  | succ d ih =>
    intro k i hi hd hk
    obtain ⟨k, rfl⟩ : ∃ m, k = m + 1 := ⟨k - 1, by omega⟩
    have hlt : i < l.length := by omega
    rw [sized_step k l i hlt hb]
    have e : l.drop i = l.getD i 0 :: l.drop (i + 1) := by
      rw [List.drop_eq_getElem_cons hlt, List.getD_eq_getElem?_getD, List.getElem?_eq_getElem hlt]; rfl
    rw [e, List.all_cons]
    cases inS (l.getD i 0)
    · simp
    · simp only [if_true, Bool.true_and]
      exact ih k (i + 1) (by omega) (by omega) (by omega)

theorem sized_eq (l : List Int) (hb : l.length ≤ 140737488351232) (k : Nat) (hk : l.length < k) : impl_sized.f k l = some (l.all inS) := by
  unfold impl_sized.f
  have := sized_from l hb l.length k 0 (by omega) (by omega) hk
  simpa using this

theorem xor_pos (a b : Int) (ha : 0 ≤ a) (hb : 0 ≤ b) (ha2 : a < 9223372036854775808) (hb2 : b < 9223372036854775808) : 0 ≤ Go.bits .xor .i64 a b := by
  obtain ⟨a, rfl⟩ := Int.eq_ofNat_of_zero_le ha
  obtain ⟨b, rfl⟩ := Int.eq_ofNat_of_zero_le hb
  have hx : a ^^^ b < 2 ^ 63 := Nat.xor_lt_two_pow (by omega) (by omega)
  have h1 : (BitVec.ofInt 64 (a : Int)).toNat = a := by
    rw [BitVec.ofInt_natCast, BitVec.toNat_ofNat]; exact Nat.mod_eq_of_lt (by omega)
  have h2 : (BitVec.ofInt 64 (b : Int)).toNat = b := by
    rw [BitVec.ofInt_natCast, BitVec.toNat_ofNat]; exact Nat.mod_eq_of_lt (by omega)
  show 0 ≤ IntKind.i64.wrap ((BitVec.ofInt 64 (a : Int) ^^^ BitVec.ofInt 64 (b : Int)).toNat : Int)
  rw [BitVec.toNat_xor, h1, h2]
  simp [IntKind.wrap, IntKind.bits, IntKind.signed]
  omega

def Bytes (l : List Int) : Prop := ∀ x ∈ l, 0 ≤ x ∧ x ≤ 255

theorem bytes_rd {l : List Int} (h : Bytes l) (i : Int) : 0 ≤ rd l i ∧ rd l i ≤ 255 := by
  unfold rd
  by_cases hi : i.toNat < l.length
  · rw [List.getD_eq_getElem?_getD, List.getElem?_eq_getElem hi]
    exact h _ (List.getElem_mem hi)
  · rw [List.getD_eq_getElem?_getD, List.getElem?_eq_none (by omega)]
    simp

theorem tmod_range (a n : Int) (ha : 0 ≤ a) (hn : 1 ≤ n) : 0 ≤ a.tmod n ∧ a.tmod n < n := by
  rw [Int.tmod_eq_emod_of_nonneg ha]
  exact ⟨Int.emod_nonneg _ (by omega), Int.emod_lt_of_pos _ (by omega)⟩

theorem pick_gives (l : List Int) (hl : Bytes l) (hll : l.length ≤ 2000) (p n : Int) (k : Nat) (hp : 0 ≤ p) (hp2 : p ≤ 1000000) (hn : 1 ≤ n) (hn2 : n ≤ 1000000) (hk : 1 ≤ k) :
    ∃ r, spec_l6Rd_pick.f k l p n = some (r, p + 1) ∧ 0 ≤ r ∧ r < n := by
  obtain ⟨k, rfl⟩ : ∃ m, k = m + 1 := ⟨k - 1, by omega⟩
  unfold spec_l6Rd_pick.f
  rw [if_neg (by omega)]
  have ew : wrap64 (p + 1) = p + 1 := by unfold wrap64; omega
  have ew1 : wrap64 (p + 1 - 1) = p := by unfold wrap64; omega
  rw [ew]
  simp only [spec_l6Rd_pick.j0]
  rw [ew1]
  by_cases h0 : ((l.length : Int) == 0) = true
  · rw [if_pos h0]
    exact ⟨0, rfl, by omega, by omega⟩
  · rw [if_neg h0]
    have hne : ¬ (l.length : Int) = 0 := by simpa using h0
    have hr0 := bytes_rd hl
    have ewr : ∀ i, wrap64 (rd l i) = rd l i := fun i => by have := hr0 i; unfold wrap64; omega
    by_cases h1 : p < (l.length : Int)
    · rw [if_pos h1, if_pos hp, if_neg (by omega), ewr]
      exact ⟨_, rfl, tmod_range _ _ (hr0 _).1 hn⟩
    · rw [if_neg h1, if_neg hne]
      have e7 : wrap64 (wrap64 (p * 7) + 3) = p * 7 + 3 := by unfold wrap64; omega
      rw [e7]
      have q1 := tmod_range p (l.length : Int) hp (by omega)
      have q2 := tmod_range (p * 7 + 3) (l.length : Int) (by omega) (by omega)
      rw [if_pos q1.1, if_pos q1.2, if_pos q2.1, if_pos q2.2, if_neg (by omega)]
      refine ⟨_, rfl, ?_⟩
      have d1 : 0 ≤ p.tdiv (l.length : Int) ∧ p.tdiv (l.length : Int) ≤ p := by
        rw [Int.tdiv_eq_ediv_of_nonneg hp]
        exact ⟨Int.ediv_nonneg hp (by omega), Int.ediv_le_self _ hp⟩
      have b1 := hr0 (p.tmod (l.length : Int))
      have b2 := hr0 ((p * 7 + 3).tmod (l.length : Int))
      rw [ewr, ewr]
      generalize rd l (p.tmod (l.length : Int)) = u at *
      generalize rd l ((p * 7 + 3).tmod (l.length : Int)) = v at *
      generalize p.tdiv (l.length : Int) = q at *
      clear ew ew1 e7
      have eX : ∃ X, wrap64 (wrap64 (wrap64 (wrap64 (u * 131) + wrap64 (v * 1117)) + wrap64 (p * 29)) + wrap64 (wrap64 q * 53)) = X ∧ 0 ≤ X ∧ X < 9223372036854775808 := by
        rw [w64 (u * 131) (by omega), w64 (v * 1117) (by omega), w64 (p * 29) (by omega), w64 q (by omega), w64 (q * 53) (by omega), w64 (u * 131 + v * 1117) (by omega),
          w64 (u * 131 + v * 1117 + p * 29) (by omega), w64 (u * 131 + v * 1117 + p * 29 + q * 53) (by omega)]
        exact ⟨_, rfl, by omega, by omega⟩
      obtain ⟨X, eX, x0, x1⟩ := eX
      rw [eX]
      have eY : ∃ Y, wrap64 (X.tdiv 64) = Y ∧ 0 ≤ Y ∧ Y < 9223372036854775808 := by
        rw [Int.tdiv_eq_ediv_of_nonneg x0, w64 (X / 64) (by omega)]
        exact ⟨_, rfl, by omega, by omega⟩
      obtain ⟨Y, eY, y0, y1⟩ := eY
      rw [eY]
      exact tmod_range _ _ (xor_pos X Y x0 y0 x1 y1) hn

theorem open_gives (l : List Int) (hl : Bytes l) : ∃ b, spec_l6Open.f l = some (b, 0) ∧ Bytes b ∧ b.length ≤ 2000 := by
  unfold spec_l6Open.f
  by_cases h : (l.length : Int) > 2000
  · rw [if_pos h, if_pos (by omega)]
    exact ⟨_, rfl, fun x hx => hl x (List.mem_of_mem_take hx), by simp; omega⟩
  · rw [if_neg h]
    exact ⟨_, rfl, hl, by omega⟩

theorem bytes_of_wf {l : List Int} (h : ∀ x ∈ l, (Lit.int .u8 x).wf = true) : Bytes l := by
  intro x hx
  have := h x hx
  have hmin : IntKind.u8.min = 0 := rfl
  have hmax : IntKind.u8.max = 255 := rfl
  simp only [Lit.wf, Bool.and_eq_true, decide_eq_true_eq] at this
  omega

def sRows (w h a b : Int) : Int := mx (wrap64 ((wrap64 (Int.tdiv w a)) * (wrap64 (Int.tdiv h b)))) (wrap64 ((wrap64 (Int.tdiv w b)) * (wrap64 (Int.tdiv h a))))

theorem impl_rows_eq (k : Nat) (hk : 5 ≤ k) (w h a b : Int) :
    impl_SheetRows.f k w h a b = if (inS w && inS h && inS a && inS b) = true then some (sRows w h a b, true) else some (0, false) := by
  unfold impl_SheetRows.f
  rw [sized_eq _ (by simp) k (by simp; omega)]
  simp only [Option.bind_some, List.all_cons, List.all_nil, Bool.and_true]
  have e : (inS w && (inS h && (inS a && inS b))) = (inS w && inS h && inS a && inS b) := by simp only [Bool.and_assoc]
  rw [e]
  by_cases hh : (inS w && inS h && inS a && inS b) = true
  · rw [if_pos hh, if_pos hh]
    simp only [Bool.and_eq_true, inS_iff] at hh
    rw [if_neg (by omega), if_neg (by omega)]
    rfl
  · rw [if_neg hh, if_neg hh]


theorem tdiv_small (w a : Int) (hw : 1 ≤ w ∧ w ≤ 12) (ha : 1 ≤ a ∧ a ≤ 12) : wrap64 (w.tdiv a) = w / a ∧ 0 ≤ w / a ∧ w / a ≤ 12 := by
  have e : w.tdiv a = w / a := Int.tdiv_eq_ediv_of_nonneg (by omega)
  have h0 : 0 ≤ w / a := Int.ediv_nonneg (by omega) (by omega)
  have h1 : w / a ≤ w := Int.ediv_le_self _ (by omega)
  rw [e]
  exact ⟨by unfold wrap64; omega, h0, by omega⟩

theorem prod_small (x y : Int) (hx : 0 ≤ x ∧ x ≤ 12) (hy : 0 ≤ y ∧ y ≤ 12) : wrap64 (x * y) = x * y ∧ 0 ≤ x * y := by
  have h0 : 0 ≤ x * y := Int.mul_nonneg hx.1 hy.1
  have h1 : x * y ≤ 12 * 12 := Int.mul_le_mul hx.2 hy.2 hy.1 (by omega)
  exact ⟨by unfold wrap64; omega, h0⟩

theorem sRows_eq (w h a b : Int) (hw : 1 ≤ w ∧ w ≤ 12) (hh : 1 ≤ h ∧ h ≤ 12) (ha : 1 ≤ a ∧ a ≤ 12) (hb : 1 ≤ b ∧ b ≤ 12) :
    sRows w h a b = mx ((w / a) * (h / b)) ((w / b) * (h / a)) := by
  unfold sRows
  have t1 := tdiv_small w a hw ha
  have t2 := tdiv_small h b hh hb
  have t3 := tdiv_small w b hw hb
  have t4 := tdiv_small h a hh ha
  rw [t1.1, t2.1, t3.1, t4.1, (prod_small _ _ t1.2 t2.2).1, (prod_small _ _ t3.2 t4.2).1]

theorem div_zero_iff (w a : Int) (hw : 0 ≤ w) (ha : 1 ≤ a) : w / a = 0 ↔ w < a := by
  constructor
  · intro h
    have := Int.lt_ediv_add_one_mul_self w (show 0 < a by omega)
    rw [h] at this
    omega
  · intro h
    exact Int.ediv_eq_zero_of_lt hw h

theorem mx_zero (x y : Int) (hx : 0 ≤ x) (hy : 0 ≤ y) : mx x y = 0 ↔ x = 0 ∧ y = 0 := by unfold mx; split <;> omega

theorem sRows_zero (w h a b : Int) (hw : 1 ≤ w ∧ w ≤ 12) (hh : 1 ≤ h ∧ h ≤ 12) (ha : 1 ≤ a ∧ a ≤ 12) (hb : 1 ≤ b ∧ b ≤ 12) :
    sRows w h a b = 0 ↔ ((a > w ∨ b > h) ∧ (a > h ∨ b > w)) := by
  rw [sRows_eq w h a b hw hh ha hb]
  have t1 := tdiv_small w a hw ha
  have t2 := tdiv_small h b hh hb
  have t3 := tdiv_small w b hw hb
  have t4 := tdiv_small h a hh ha
  rw [mx_zero _ _ (prod_small _ _ t1.2 t2.2).2 (prod_small _ _ t3.2 t4.2).2, Int.mul_eq_zero, Int.mul_eq_zero,
    div_zero_iff _ _ (by omega) ha.1, div_zero_iff _ _ (by omega) hb.1, div_zero_iff _ _ (by omega) ha.1, div_zero_iff _ _ (by omega) hb.1]
  omega

theorem sRows_turn (w h a b : Int) (hw : 1 ≤ w ∧ w ≤ 12) (hh : 1 ≤ h ∧ h ≤ 12) (ha : 1 ≤ a ∧ a ≤ 12) (hb : 1 ≤ b ∧ b ≤ 12) :
    sRows h w a b = sRows w h a b := by
  rw [sRows_eq w h a b hw hh ha hb, sRows_eq h w a b hh hw ha hb, Int.mul_comm (h / a), Int.mul_comm (h / b)]
  unfold mx
  split <;> split <;> omega

theorem draw_sheet (l : List Int) (hl : Bytes l) (k : Nat) (hk : 1 ≤ k) : ∃ r, spec_l92Sheet.f k l = some r := by
  obtain ⟨b, hb, hbb, hbl⟩ := open_gives l hl
  unfold spec_l92Sheet.f
  rw [hb]
  simp only [Option.bind_some]
  obtain ⟨r1, h1, _, _⟩ := pick_gives b hbb hbl 0 12 k (by omega) (by omega) (by omega) (by omega) hk
  rw [h1]; simp only [Option.bind_some]
  obtain ⟨r2, h2, _, _⟩ := pick_gives b hbb hbl (0 + 1) 40 k (by omega) (by omega) (by omega) (by omega) hk
  rw [h2]; simp only [Option.bind_some]
  obtain ⟨r3, h3, _, _⟩ := pick_gives b hbb hbl (0 + 1 + 1) 12 k (by omega) (by omega) (by omega) (by omega) hk
  rw [h3]; simp only [Option.bind_some]
  obtain ⟨r4, h4, _, _⟩ := pick_gives b hbb hbl (0 + 1 + 1 + 1) 5 k (by omega) (by omega) (by omega) (by omega) hk
  rw [h4]; simp only [Option.bind_some]
  obtain ⟨r5, h5, _, _⟩ := pick_gives b hbb hbl (0 + 1 + 1 + 1 + 1) 6 k (by omega) (by omega) (by omega) (by omega) hk
  rw [h5]; simp only [Option.bind_some]
  obtain ⟨r6, h6, _, _⟩ := pick_gives b hbb hbl (0 + 1 + 1 + 1 + 1 + 1) 40 k (by omega) (by omega) (by omega) (by omega) hk
  rw [h6]; simp only [Option.bind_some]
  exact ⟨_, rfl⟩

theorem draw_sheet_all (l : List Int) (hl : Bytes l) : ∃ r, ∀ k, 1 ≤ k → spec_l92Sheet.f k l = some r := by
  obtain ⟨r, hr⟩ := draw_sheet l hl 1 (by omega)
  refine ⟨r, fun k hk => ?_⟩
  obtain ⟨m, rfl⟩ : ∃ m, k = 1 + m := ⟨k - 1, by omega⟩
  clear hk
  induction m with
  | zero => exact hr
  | succ m ih => exact spec_l92Sheet.mono l (1 + m) r ih

def gr : Nat → Int → Int → Int
  | 0, _, _ => 0
  | d + 1, w, h => if 0 < w ∧ 0 < h then (if w < h then h / w + gr d (h % w) w else w / h + gr d (w % h) h) else 0

theorem ediv_small (w h : Int) (hw : 0 ≤ w ∧ w ≤ 12) (hh : 0 < h ∧ h ≤ 12) : w.tdiv h = w / h ∧ w.tmod h = w % h ∧ 0 ≤ w / h ∧ w / h ≤ 12 ∧ 0 ≤ w % h ∧ w % h < h := by
  have h1 : w / h ≤ w := Int.ediv_le_self _ hw.1
  exact ⟨Int.tdiv_eq_ediv_of_nonneg hw.1, Int.tmod_eq_emod_of_nonneg hw.1, Int.ediv_nonneg hw.1 (by omega), by omega, Int.emod_nonneg _ (by omega), Int.emod_lt_of_pos _ hh.1⟩

theorem impl_greedy_l0 (d : Nat) : ∀ (w h n : Int) (k : Nat), 0 ≤ w ∧ w ≤ 12 → 0 ≤ h ∧ h ≤ 12 → w + h ≤ d → d ≤ 24 → 0 ≤ n → n ≤ 1000 - 20 * d → 2 * d + 2 ≤ k →
    impl_SheetGreedy.l0 k w h n = some (n + gr d w h, true) := by
  induction d with
  | zero =>
    intro w h n k hw hh hd _ hn hn2 hk
    obtain ⟨k, rfl⟩ : ∃ m, k = m + 1 + 1 := ⟨k - 2, by omega⟩
    simp only [impl_SheetGreedy.l0, gr]
    rw [if_neg (by omega)]
    simp [impl_SheetGreedy.j1]
  | succ d ih =>
    intro w h n k hw hh hd hd2 hn hn2 hk
    obtain ⟨k, rfl⟩ : ∃ m, k = m + 1 + 1 := ⟨k - 2, by omega⟩
    simp only [impl_SheetGreedy.l0, gr]
    by_cases c1 : 0 < w
    · rw [if_pos c1]
      by_cases c2 : 0 < h
      · rw [if_pos (show 0 < w ∧ 0 < h from ⟨c1, c2⟩)]
        simp only [impl_SheetGreedy.j1]
        rw [if_pos (decide_eq_true c2)]
        by_cases c3 : w < h
        · obtain ⟨e1, e2, q1, q2, q3, q4⟩ := ediv_small h w hh ⟨c1, hw.2⟩
          rw [if_pos c3, if_pos c3, if_neg (by omega), e1, e2]
          have ew : wrap64 (n + wrap64 (h / w)) = n + h / w := by unfold wrap64; omega
          rw [ew, ih (h % w) w (n + h / w) k ⟨q3, by omega⟩ hw (by omega) (by omega) (by omega) (by omega) (by omega)]
          rw [Int.add_assoc]
        · obtain ⟨e1, e2, q1, q2, q3, q4⟩ := ediv_small w h hw ⟨c2, hh.2⟩
          rw [if_neg c3, if_neg c3, if_neg (by omega), e1, e2]
          have ew : wrap64 (n + wrap64 (w / h)) = n + w / h := by unfold wrap64; omega
          rw [ew, ih (w % h) h (n + w / h) k ⟨q3, by omega⟩ hh (by omega) (by omega) (by omega) (by omega) (by omega)]
          rw [Int.add_assoc]
      · rw [if_neg (show ¬ (0 < w ∧ 0 < h) from fun x => c2 x.2)]
        simp [impl_SheetGreedy.j1, c2]
    · rw [if_neg c1, if_neg (show ¬ (0 < w ∧ 0 < h) from fun x => c1 x.1)]
      simp [impl_SheetGreedy.j1]

theorem impl_greedy_eq (k : Nat) (hk : 50 ≤ k) (w h : Int) : impl_SheetGreedy.f k w h = if (inS w && inS h) = true then some (gr 24 w h, true) else some (0, false) := by
  unfold impl_SheetGreedy.f
  rw [sized_eq _ (by simp) k (by simp; omega)]
  simp only [Option.bind_some, List.all_cons, List.all_nil, Bool.and_true]
  by_cases hh : (inS w && inS h) = true
  · rw [if_pos hh, if_pos hh]
    simp only [Bool.and_eq_true, inS_iff] at hh
    rw [impl_greedy_l0 24 w h 0 k (by omega) (by omega) (by omega) (by omega) (by omega) (by omega) (by omega), Int.zero_add]
  · rw [if_neg hh, if_neg hh]


def grOk (w h : Nat) : Bool := decide (gr 24 (w : Int) (h : Int) = gr 24 (h : Int) (w : Int)) && (decide (w ≤ h) || decide (gr 24 (w : Int) (h : Int) = gr 24 ((w : Int) - (h : Int)) (h : Int) + 1)) &&
  decide (0 ≤ gr 24 (w : Int) (h : Int)) && decide (gr 24 (w : Int) (h : Int) ≤ 100)

theorem gr_all : ((List.range 12).all fun w => (List.range 12).all fun h => grOk (w + 1) (h + 1)) = true := by decide +kernel

theorem gr_facts (w h : Nat) (hw : w < 13) (hh : h < 13) (h1 : 1 ≤ h) (w1 : 1 ≤ w) :
    gr 24 (w : Int) (h : Int) = gr 24 (h : Int) (w : Int) ∧ (h < w → gr 24 (w : Int) (h : Int) = gr 24 ((w : Int) - (h : Int)) (h : Int) + 1) ∧ 0 ≤ gr 24 (w : Int) (h : Int) ∧ gr 24 (w : Int) (h : Int) ≤ 100 := by
  have g := List.all_eq_true.1 gr_all (w - 1) (List.mem_range.2 (by omega))
  have g := List.all_eq_true.1 g (h - 1) (List.mem_range.2 (by omega))
  rw [Nat.sub_add_cancel w1, Nat.sub_add_cancel h1] at g
  unfold grOk at g
  simp only [Bool.and_eq_true, Bool.or_eq_true, decide_eq_true_eq] at g
  obtain ⟨⟨⟨g1, g2⟩, g3⟩, g4⟩ := g
  exact ⟨g1, fun x => g2.resolve_left (by omega), g3, g4⟩

theorem gr_int (w h : Int) (hw : 1 ≤ w ∧ w ≤ 12) (hh : 1 ≤ h ∧ h ≤ 12) :
    gr 24 w h = gr 24 h w ∧ (h < w → gr 24 w h = gr 24 (w - h) h + 1) ∧ 0 ≤ gr 24 w h ∧ gr 24 w h ≤ 100 := by
  obtain ⟨a, rfl⟩ := Int.eq_ofNat_of_zero_le (show 0 ≤ w by omega)
  obtain ⟨b, rfl⟩ := Int.eq_ofNat_of_zero_le (show 0 ≤ h by omega)
  have := gr_facts a b (by omega) (by omega) (by omega) (by omega)
  exact ⟨this.1, fun x => this.2.1 (by omega), this.2.2⟩

theorem draw_squares (l : List Int) (hl : Bytes l) (k : Nat) (hk : 1 ≤ k) : ∃ r, spec_DrawSheetSquares.f k l = some r := by
  obtain ⟨b, hb, hbb, hbl⟩ := open_gives l hl
  unfold spec_DrawSheetSquares.f
  rw [hb]
  simp only [Option.bind_some]
  obtain ⟨r1, h1, _, _⟩ := pick_gives b hbb hbl 0 12 k (by omega) (by omega) (by omega) (by omega) hk
  rw [h1]; simp only [Option.bind_some]
  obtain ⟨r2, h2, _, _⟩ := pick_gives b hbb hbl (0 + 1) 12 k (by omega) (by omega) (by omega) (by omega) hk
  rw [h2]; simp only [Option.bind_some]
  obtain ⟨r3, h3, _, _⟩ := pick_gives b hbb hbl (0 + 1 + 1) 24 k (by omega) (by omega) (by omega) (by omega) hk
  rw [h3]; simp only [Option.bind_some]
  obtain ⟨r4, h4, _, _⟩ := pick_gives b hbb hbl (0 + 1 + 1 + 1) 24 k (by omega) (by omega) (by omega) (by omega) hk
  rw [h4]; simp only [Option.bind_some]
  exact ⟨_, rfl⟩

theorem draw_squares_all (l : List Int) (hl : Bytes l) : ∃ r, ∀ k, 1 ≤ k → spec_DrawSheetSquares.f k l = some r := by
  obtain ⟨r, hr⟩ := draw_squares l hl 1 (by omega)
  refine ⟨r, fun k hk => ?_⟩
  obtain ⟨m, rfl⟩ : ∃ m, k = 1 + m := ⟨k - 1, by omega⟩
  clear hk
  induction m with
  | zero => exact hr
  | succ m ih => exact spec_DrawSheetSquares.mono l (1 + m) r ih

end Go.Proofs.Ytjbijfdiojhmcaa.QbL

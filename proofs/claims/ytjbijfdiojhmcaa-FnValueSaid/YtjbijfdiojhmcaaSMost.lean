/- The walks of SheetMost and SheetSquares: each fills a new table by solve. -/
import Derived.Test.YtjbijfdiojhmcaaSSolve
import Derived.Test.YtjbijfdiojhmcaaSFuns
import Derived.Test.YtjbijfdiojhmcaaLQa
import Derived.Shelf.Abstract
namespace Go.Proofs.Ytjbijfdiojhmcaa.S
open Go.RowKit Go.Shelf Go.Proofs.YtjbijfdiojhmcaaW.PrintWords Go.Proofs.Ytjbijfdiojhmcaa.Qa Go.Proofs.Ytjbijfdiojhmcaa.QaL
set_option linter.unusedVariables false
set_option linter.unusedSimpArgs false

/-! ### the callees -/
theorem lesser_calls (a b : Int) (W : World) : Calls Try.prog 43 #[.int .i64 a, .int .i64 b] W fun e W' => e = .returned (.int .i64 (minI a b)) ∧ ∃ m, W' = W.drewN m := by
  unfold minI
  by_cases h : b < a
  · rw [if_pos h]
    go_enter Try.func43, Try.ntmps43
    go_wp2
    go_ret
    exact ⟨rfl, 0, rfl⟩
  · rw [if_neg h]
    go_enter Try.func43, Try.ntmps43
    go_wp2
    go_ret
    exact ⟨rfl, 0, rfl⟩

theorem greater_calls (a b : Int) (W : World) : Calls Try.prog 47 #[.int .i64 a, .int .i64 b] W fun e W' => e = .returned (.int .i64 (maxI a b)) ∧ ∃ m, W' = W.drewN m := by
  unfold maxI
  by_cases h : a < b
  · rw [if_pos h]
    go_enter Try.func47, Try.ntmps47
    go_wp2
    go_ret
    exact ⟨rfl, 0, rfl⟩
  · rw [if_neg h]
    go_enter Try.func47, Try.ntmps47
    go_wp2
    go_ret
    exact ⟨rfl, 0, rfl⟩

def fitB (x y a b : Int) : Bool := (decide (x = a) && decide (y = b)) || (decide (x = b) && decide (y = a))

theorem fitting_calls (x y a b : Int) (W : World) : Calls Try.prog 46 #[.int .i64 x, .int .i64 y, .int .i64 a, .int .i64 b] W fun e W' => e = .returned (.bool (fitB x y a b)) ∧ ∃ m, W' = W.drewN m := by
  have go : ∀ r, fitB x y a b = r → Calls Try.prog 46 #[.int .i64 x, .int .i64 y, .int .i64 a, .int .i64 b] W fun e W' => e = .returned (.bool r) ∧ ∃ m, W' = W.drewN m := by
    intro r hr
    unfold fitB at hr
    by_cases h1 : x = a
    · have k1 : (x == a) = true := by simp [h1]
      by_cases h2 : y = b
      · have k2 : (y == b) = true := by simp [h2]
        obtain rfl : r = true := by rw [← hr]; simp [h1, h2]
        clear h1 h2 hr
        go_enter Try.func46, Try.ntmps46
        go_wp2
        go_ret
        exact ⟨rfl, 0, rfl⟩
      · have k2 : (y == b) = false := by simp [h2]
        by_cases h3 : x = b
        · have k3 : (x == b) = true := by simp [h3]
          by_cases h4 : y = a
          · have k4 : (y == a) = true := by simp [h4]
            obtain rfl : r = true := by rw [← hr]; simp [h3, h4]
            clear h1 h2 h3 h4 hr
            go_enter Try.func46, Try.ntmps46
            go_wp2
            go_ret
            exact ⟨rfl, 0, rfl⟩
          · have k4 : (y == a) = false := by simp [h4]
            obtain rfl : r = false := by rw [← hr]; simp [h2, h4]
            clear h1 h2 h3 h4 hr
            go_enter Try.func46, Try.ntmps46
            go_wp2
            go_ret
            exact ⟨rfl, 0, rfl⟩
        · have k3 : (x == b) = false := by simp [h3]
          obtain rfl : r = false := by rw [← hr]; simp [h2, h3]
          clear h1 h2 h3 hr
          go_enter Try.func46, Try.ntmps46
          go_wp2
          go_ret
          exact ⟨rfl, 0, rfl⟩
    · have k1 : (x == a) = false := by simp [h1]
      by_cases h3 : x = b
      · have k3 : (x == b) = true := by simp [h3]
        by_cases h4 : y = a
        · have k4 : (y == a) = true := by simp [h4]
          obtain rfl : r = true := by rw [← hr]; simp [h3, h4]
          clear h1 h3 h4 hr
          go_enter Try.func46, Try.ntmps46
          go_wp2
          go_ret
          exact ⟨rfl, 0, rfl⟩
        · have k4 : (y == a) = false := by simp [h4]
          obtain rfl : r = false := by rw [← hr]; simp [h1, h4]
          clear h1 h3 h4 hr
          go_enter Try.func46, Try.ntmps46
          go_wp2
          go_ret
          exact ⟨rfl, 0, rfl⟩
      · have k3 : (x == b) = false := by simp [h3]
        obtain rfl : r = false := by rw [← hr]; simp [h1, h3]
        clear h1 h3 hr
        go_enter Try.func46, Try.ntmps46
        go_wp2
        go_ret
        exact ⟨rfl, 0, rfl⟩
  exact go _ rfl

def alMost (a b x y : Int) : Int := if fitB x y a b = true then 1 else 0

theorem piece_calls (a b : Int) (A B : Nat) (x y : Int) (W : World) (hA : W.cell? ⟨A, 0, none⟩ = some (.int .i64 a)) (hB : W.cell? ⟨B, 0, none⟩ = some (.int .i64 b)) :
    Calls Try.prog 45 #[.int .i64 x, .int .i64 y, .pointer (some ⟨A, 0, none⟩), .pointer (some ⟨B, 0, none⟩)] W fun e W' => e = .returned (.int .i64 (alMost a b x y)) ∧ ∃ m, W' = W.drewN m := by
  unfold alMost
  have hf := fitting_calls x y a b
  by_cases h : fitB x y a b = true
  · rw [if_pos h]
    rw [h] at hf
    have HF := Lib.hid hf
    clear hf h
    go_enter Try.func45, Try.ntmps45
    go_wp2_with (go_at_call 46; refine (HF.out _).mono ?_; rintro e w1 ⟨rfl, n1, rfl⟩)
    go_ret
    exact ⟨rfl, _, rfl⟩
  · rw [if_neg h]
    rw [Bool.not_eq_true] at h
    rw [h] at hf
    have HF := Lib.hid hf
    clear hf h
    go_enter Try.func45, Try.ntmps45
    go_wp2_with (go_at_call 46; refine (HF.out _).mono ?_; rintro e w1 ⟨rfl, n1, rfl⟩)
    go_ret
    exact ⟨rfl, _, rfl⟩

theorem square_calls (x y : Int) (hx : 1 ≤ x ∧ x ≤ 12) (hy : 1 ≤ y ∧ y ≤ 12) (W : World) :
    Calls Try.prog 41 #[.int .i64 x, .int .i64 y] W fun e W' => e = .returned (.int .i64 (alSquare x y)) ∧ ∃ m, W' = W.drewN m := by
  unfold alSquare
  by_cases h : x = y
  · rw [if_pos h]
    have k1 : (x == y) = true := by simp [h]
    clear h
    go_enter Try.func41, Try.ntmps41
    go_wp2
    go_ret
    exact ⟨rfl, 0, rfl⟩
  · rw [if_neg h]
    have k1 : (x == y) = false := by simp [h]
    have e2 := (prod_small x y ⟨by omega, hx.2⟩ ⟨by omega, hy.2⟩).1
    have E2 := Lib.hid e2
    clear h e2
    go_enter Try.func41, Try.ntmps41
    go_wp2
    go_ret
    refine ⟨?_, 0, rfl⟩
    show Ending.returned (.int .i64 (wrap64 (x * y))) = _
    rw [E2.out]

/-! ### SheetMost -/
theorem reads_new (W : World) (l : List Int) (g : Nat) (hg : g = W.heap.size) (cs : Array Value) (hcs : cs = (l.map (Value.int .i64)).toArray) (hl : l.length ≤ 100) :
    Kd.C (Kd.int .i64) (W.alloc (.cells cs 3)) (some ⟨g, 0, none⟩) l.length l := by
  refine Kd.C_of_reads (d := (0 : Int)) (h1 := fun _ => rfl) ⟨rfl, by omega, fun _ => ⟨_, rfl, fun j hj => ?_⟩⟩
  rw [add_plain]
  have hb : (W.alloc (.cells cs 3)).heap[g]? = some (.cells cs 3 (0, 0)) := by rw [hg]; exact blk_new W _
  rw [blk_cell hb, hcs]
  simp [List.getD_eq_getElem?_getD, List.getElem?_eq_getElem hj]

theorem Tab.below {w0 W : World} {T B : Nat} {tb : Nat → Int} (h : Tab w0 W T tb) (hT : B ≤ T) : Below B w0 W :=
  ⟨h.os, h.tape, h.output, by rw [h.size]; exact Nat.le_refl _, fun k hk => h.other k (by omega)⟩

theorem Tab.new (W : World) (T : Nat) (cs : Array Value) (hb : W.heap[T]? = some (.cells cs 48 (0, 0))) (hc : ∀ j, j < 169 → cs[j]? = some (.int .i64 0)) : Tab W W T (fun _ => 0) :=
  ⟨⟨cs, hb, hc⟩, fun _ _ => rfl, rfl, rfl, rfl, rfl⟩

theorem Tab.cell_other {w0 W : World} {T : Nat} {tb : Nat → Int} (h : Tab w0 W T tb) {p : Addr} {v : Value} (hp : p.block ≠ T) (hc : w0.cell? p = some v) : W.cell? p = some v :=
  (World.cell?_of_block (h.other p.block hp)).trans hc

theorem blk_at_new (W : World) (o : Obj) (g : Nat) (hg : g = W.heap.size) : (W.alloc o).heap[g]? = some o := by rw [hg]; exact blk_new W o

theorem two_boxes (w : World) (v1 v2 : Value) (t1 t2 : Nat) (o3 o4 : Obj) (n : Nat) :
    (((((w.alloc (.cells #[v1] t1)).alloc (.cells #[v2] t2)).alloc o3).drewN n).alloc o4).cell? ⟨w.heap.size, 0, none⟩ = some v1 ∧
    (((((w.alloc (.cells #[v1] t1)).alloc (.cells #[v2] t2)).alloc o3).drewN n).alloc o4).cell? ⟨w.heap.size + 1, 0, none⟩ = some v2 := by
  constructor
  · have h : (((((w.alloc (.cells #[v1] t1)).alloc (.cells #[v2] t2)).alloc o3).drewN n).alloc o4).heap[w.heap.size]? = some (.cells #[v1] t1 (0, 0)) :=
      blk_alloc (blk_drewN (blk_alloc (blk_alloc (blk_at_new w _ _ rfl) _) _) n) _
    exact (blk_cell h 0).trans rfl
  · have h : (((((w.alloc (.cells #[v1] t1)).alloc (.cells #[v2] t2)).alloc o3).drewN n).alloc o4).heap[w.heap.size + 1]? = some (.cells #[v2] t2 (0, 0)) :=
      blk_alloc (blk_drewN (blk_alloc (blk_at_new _ _ _ (by simp)) _) n) _
    exact (blk_cell h 0).trans rfl

def zc : Array Value := Array.replicate 169 (.int .i64 0)
theorem zc_at (j : Nat) (hj : j < 169) : zc[j]? = some (.int .i64 0) := by unfold zc; rw [Array.getElem?_replicate, if_pos hj]
theorem zero48 (W : World) : (zeroValue 48).run Try.prog W = .ok (.agg zc) W := by kernel_rfl

theorem enters45 (args : Array Value) (W : World) : (callFunc 45 args).run Try.prog W = .ok (.enter 45 args) W := enters_of Try.func45 (by kernel_rfl) rfl args W
theorem enters47 (args : Array Value) (W : World) : (callFunc 47 args).run Try.prog W = .ok (.enter 47 args) W := enters_of Try.func47 (by kernel_rfl) rfl args W
theorem enters41 (args : Array Value) (W : World) : (callFunc 41 args).run Try.prog W = .ok (.enter 41 args) W := enters_of Try.func41 (by kernel_rfl) rfl args W
theorem enters43 (args : Array Value) (W : World) : (callFunc 43 args).run Try.prog W = .ok (.enter 43 args) W := enters_of Try.func43 (by kernel_rfl) rfl args W

def impl_SheetMost.f (a0 a1 a2 a3 : Int) : Option (Int × Bool) :=
  some (if (inS a0 && inS a1 && inS a2 && inS a3) = true then (Vt (alMost a2 a3) maxI a0.toNat a1.toNat, true) else (0, false))

set_option maxRecDepth 100000 in
set_option maxHeartbeats 1600000 in
theorem impl_SheetMost.calls (a0 a1 a2 a3 r1 : Int) (r2 : Bool) (w : World) (h : impl_SheetMost.f a0 a1 a2 a3 = some (r1, r2)) :
    Calls Try.prog 26 #[.int .i64 a0, .int .i64 a1, .int .i64 a2, .int .i64 a3] w fun e w' => e = .returned (.tuple #[.int .i64 r1, .bool r2]) ∧ Below w.heap.size w w' := by
  have hs : impl_sized.f 5 [a0, a1, a2, a3] = some (inS a0 && inS a1 && inS a2 && inS a3) := by
    rw [sized_eq _ (by simp) 5 (by simp)]
    simp only [List.all_cons, List.all_nil, Bool.and_true, Bool.and_assoc]
  by_cases hin : (inS a0 && inS a1 && inS a2 && inS a3) = true
  · unfold impl_SheetMost.f at h
    rw [if_pos hin] at h
    rw [hin] at hs
    simp only [Option.some.injEq, Prod.mk.injEq] at h
    have HH := Lib.hid h
    have HS := Lib.hid hs
    clear h hs
    simp only [Bool.and_eq_true, inS_iff] at hin
    obtain ⟨⟨⟨i0, i1⟩, i2⟩, i3⟩ := hin
    obtain ⟨x, rfl⟩ := Int.eq_ofNat_of_zero_le (show 0 ≤ a0 by omega)
    obtain ⟨y, rfl⟩ := Int.eq_ofNat_of_zero_le (show 0 ≤ a1 by omega)
    have hC := fun W g (hg : g = (World.heap W).size) => reads_new W [(x : Int), (y : Int), a2, a3] g hg _ rfl (by simp)
    have HC := Lib.hid hC
    clear hC
    have hz := zero48
    have hmf : ∀ (fn : Fn) (first cap : Array Value) (w : World), (Instr.makeFunc fn first cap).run Try.prog w = .ok (.func fn first cap) w := fun _ _ _ _ => rfl
    go_enter Try.func26, Try.ntmps26
    go_wp2_with (first
      | (go_at_call 38; refine (impl_sized.calls 5 _ _ [(x : Int), (y : Int), a2, a3] true _ (HC.out _ _ (by simp)) (by simp) HS.out).mono ?_; rintro e w1 ⟨rfl, ⟨n1, rfl⟩⟩))
    generalize hW : (((((w.alloc (.cells #[.int .i64 a2] 3)).alloc (.cells #[.int .i64 a3] 3)).alloc (.cells #[.int .i64 (x : Int), .int .i64 (y : Int), .int .i64 a2, .int .i64 a3] 3)).drewN n1).alloc (.cells zc 48)) = W1
    have hsz : W1.heap.size = w.heap.size + 4 := by rw [← hW]; simp
    have hbk : W1.heap[w.heap.size + 1 + 1 + 1]? = some (.cells zc 48 (0, 0)) := by rw [← hW]; exact blk_at_new _ _ _ (by simp)
    have hcA : W1.cell? ⟨w.heap.size, 0, none⟩ = some (.int .i64 a2) := by rw [← hW]; exact (two_boxes _ _ _ _ _ _ _ _).1
    have hcB : W1.cell? ⟨w.heap.size + 1, 0, none⟩ = some (.int .i64 a3) := by rw [← hW]; exact (two_boxes _ _ _ _ _ _ _ _).2
    have hbl : Below w.heap.size w W1 := by
      rw [← hW]
      exact below_alloc (pw_below_drewN (below_alloc (below_alloc (below_alloc (Below.refl _ _) _) _) _) _) _
    clear hW
    have HBL := Lib.hid hbl
    have HCA := Lib.hid hcA
    have HCB := Lib.hid hcB
    clear hbl hcA hcB hsz
    have hb := fun x y (a : 1 ≤ x) (b : x ≤ 12) (c : 1 ≤ y) (d : y ≤ 12) => Vt_max_bound (alMost a2 a3) 1 (by omega) (fun x y _ _ _ _ => by unfold alMost; split <;> omega) x y a b c d
    have HV := Lib.hid hb
    clear hb
    refine (solve_any 45 47 #[.pointer (some ⟨w.heap.size, 0, none⟩), .pointer (some ⟨w.heap.size + 1, 0, none⟩)] (alMost a2 a3) maxI (Vt (alMost a2 a3) maxI) W1 (w.heap.size + 1 + 1 + 1) x y (by omega) (by omega) (by omega) (by omega)
      enters45 enters47 (fun X Y W tb hT _ _ _ _ => piece_calls a2 a3 _ _ X Y W (hT.cell_other (by simp; omega) HCA.out) (hT.cell_other (by simp) HCB.out)) greater_calls (Vt_fills _ _)
      (fun X Y a b c d => ?_) W1 (fun _ => 0) (Tab.new W1 _ zc hbk zc_at)).mono ?_
    · have := HV.out X Y a b c d
      have h2 : X * Y ≤ 12 * 12 := Nat.mul_le_mul b d
      omega
    · rintro e W2 ⟨rfl, tb', hT⟩
      have hfin : Below w.heap.size w W2 := HBL.out.trans (hT.below (by omega))
      have HF := Lib.hid hfin
      clear hfin hT
      go_wp2
      go_ret2
      obtain ⟨rfl, rfl⟩ := HH.out
      exact ⟨by simp, HF.out⟩
  · unfold impl_SheetMost.f at h
    rw [if_neg hin] at h
    rw [Bool.not_eq_true] at hin
    rw [hin] at hs
    simp only [Option.some.injEq, Prod.mk.injEq] at h
    obtain ⟨rfl, rfl⟩ := h
    have HS := Lib.hid hs
    clear hs hin
    have hC := fun W g (hg : g = (World.heap W).size) => reads_new W [a0, a1, a2, a3] g hg _ rfl (by simp)
    have HC := Lib.hid hC
    clear hC
    go_enter Try.func26, Try.ntmps26
    go_wp2_with (first
      | (go_at_call 38; refine (impl_sized.calls 5 _ _ [a0, a1, a2, a3] false _ (HC.out _ _ (by simp)) (by simp) HS.out).mono ?_; rintro e w1 ⟨rfl, ⟨n1, rfl⟩⟩))
    go_ret2
    exact ⟨rfl, pw_below_drewN (below_alloc (below_alloc (below_alloc (Below.refl _ _) _) _) _) _⟩

/-! ### SheetSquares -/
def impl_SheetSquares.f (a0 a1 : Int) : Option (Int × Bool) :=
  some (if (inS a0 && inS a1) = true then (Vt alSquare minI a0.toNat a1.toNat, true) else (0, false))

set_option maxRecDepth 100000 in
set_option maxHeartbeats 1600000 in
theorem impl_SheetSquares.calls (a0 a1 r1 : Int) (r2 : Bool) (w : World) (h : impl_SheetSquares.f a0 a1 = some (r1, r2)) :
    Calls Try.prog 24 #[.int .i64 a0, .int .i64 a1] w fun e w' => e = .returned (.tuple #[.int .i64 r1, .bool r2]) ∧ Below w.heap.size w w' := by
  have hs : impl_sized.f 3 [a0, a1] = some (inS a0 && inS a1) := by
    rw [sized_eq _ (by simp) 3 (by simp)]
    simp only [List.all_cons, List.all_nil, Bool.and_true]
  by_cases hin : (inS a0 && inS a1) = true
  · unfold impl_SheetSquares.f at h
    rw [if_pos hin] at h
    rw [hin] at hs
    simp only [Option.some.injEq, Prod.mk.injEq] at h
    have HH := Lib.hid h
    have HS := Lib.hid hs
    clear h hs
    simp only [Bool.and_eq_true, inS_iff] at hin
    obtain ⟨i0, i1⟩ := hin
    obtain ⟨x, rfl⟩ := Int.eq_ofNat_of_zero_le (show 0 ≤ a0 by omega)
    obtain ⟨y, rfl⟩ := Int.eq_ofNat_of_zero_le (show 0 ≤ a1 by omega)
    have hC := fun W g (hg : g = (World.heap W).size) => reads_new W [(x : Int), (y : Int)] g hg _ rfl (by simp)
    have HC := Lib.hid hC
    clear hC
    have hz := zero48
    go_enter Try.func24, Try.ntmps24
    go_wp2_with (first
      | (go_at_call 38; refine (impl_sized.calls 3 _ _ [(x : Int), (y : Int)] true _ (HC.out _ _ (by simp)) (by simp) HS.out).mono ?_; rintro e w1 ⟨rfl, ⟨n1, rfl⟩⟩))
    generalize hW : ((w.alloc (.cells #[.int .i64 (x : Int), .int .i64 (y : Int)] 3)).drewN n1).alloc (.cells zc 48) = W1
    have hbk : W1.heap[w.heap.size + 1]? = some (.cells zc 48 (0, 0)) := by rw [← hW]; exact blk_at_new _ _ _ (by simp)
    have hbl : Below w.heap.size w W1 := by
      rw [← hW]
      exact below_alloc (pw_below_drewN (below_alloc (Below.refl _ _) _) _) _
    clear hW
    have HBL := Lib.hid hbl
    clear hbl
    refine (solve_any 41 43 #[] alSquare minI (Vt alSquare minI) W1 (w.heap.size + 1) x y (by omega) (by omega) (by omega) (by omega)
      enters41 enters43 (fun X Y W tb hT a b c d => square_calls X Y (by omega) (by omega) W) lesser_calls (Vt_fills _ _)
      (fun X Y a b c d => ?_) W1 (fun _ => 0) (Tab.new W1 _ zc hbk zc_at)).mono ?_
    · have := Vt_square_bound X Y a b c d
      omega
    · rintro e W2 ⟨rfl, tb', hT⟩
      have hfin : Below w.heap.size w W2 := HBL.out.trans (hT.below (by omega))
      have HF := Lib.hid hfin
      clear hfin hT
      go_wp2
      go_ret2
      obtain ⟨rfl, rfl⟩ := HH.out
      exact ⟨by simp, HF.out⟩
  · unfold impl_SheetSquares.f at h
    rw [if_neg hin] at h
    rw [Bool.not_eq_true] at hin
    rw [hin] at hs
    simp only [Option.some.injEq, Prod.mk.injEq] at h
    obtain ⟨rfl, rfl⟩ := h
    have HS := Lib.hid hs
    clear hs hin
    have hC := fun W g (hg : g = (World.heap W).size) => reads_new W [a0, a1] g hg _ rfl (by simp)
    have HC := Lib.hid hC
    clear hC
    go_enter Try.func24, Try.ntmps24
    go_wp2_with (first
      | (go_at_call 38; refine (impl_sized.calls 3 _ _ [a0, a1] false _ (HC.out _ _ (by simp)) (by simp) HS.out).mono ?_; rintro e w1 ⟨rfl, ⟨n1, rfl⟩⟩))
    go_ret2
    exact ⟨rfl, pw_below_drewN (below_alloc (Below.refl _ _) _) _⟩
end Go.Proofs.Ytjbijfdiojhmcaa.S

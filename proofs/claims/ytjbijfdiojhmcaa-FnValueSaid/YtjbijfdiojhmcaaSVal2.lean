/- The walk of SheetValue: its checks, then solve. -/
import Derived.Test.YtjbijfdiojhmcaaSValue
namespace Go.Proofs.Ytjbijfdiojhmcaa.S
open Go.RowKit Go.Shelf Go.Proofs.YtjbijfdiojhmcaaW.PrintWords Go.Proofs.Ytjbijfdiojhmcaa.Qa Go.Proofs.Ytjbijfdiojhmcaa.QaL
set_option linter.unusedVariables false
set_option linter.unusedSimpArgs false

theorem three_boxes (w : World) (v1 v2 v3 : Value) (t1 t2 t3 : Nat) (o4 : Obj) (n : Nat) (w1 : World)
    (h : w1 = (((((w.alloc (.cells #[v1] t1)).alloc (.cells #[v2] t2)).alloc (.cells #[v3] t3)).alloc o4).drewN n)) :
    w1.cell? ⟨w.heap.size, 0, none⟩ = some v1 ∧ w1.cell? ⟨w.heap.size + 1, 0, none⟩ = some v2 ∧ w1.cell? ⟨w.heap.size + 2, 0, none⟩ = some v3 ∧ Below w.heap.size w w1 ∧ w1.heap.size = w.heap.size + 4 := by
  subst h
  refine ⟨?_, ?_, ?_, pw_below_drewN (below_alloc (below_alloc (below_alloc (below_alloc (Below.refl _ _) _) _) _) _) _, by simp⟩
  · have h : (((((w.alloc (.cells #[v1] t1)).alloc (.cells #[v2] t2)).alloc (.cells #[v3] t3)).alloc o4).drewN n).heap[w.heap.size]? = some (.cells #[v1] t1 (0, 0)) :=
      blk_drewN (blk_alloc (blk_alloc (blk_alloc (blk_at_new w _ _ rfl) _) _) _) n
    exact (blk_cell h 0).trans rfl
  · have h : (((((w.alloc (.cells #[v1] t1)).alloc (.cells #[v2] t2)).alloc (.cells #[v3] t3)).alloc o4).drewN n).heap[w.heap.size + 1]? = some (.cells #[v2] t2 (0, 0)) :=
      blk_drewN (blk_alloc (blk_alloc (blk_at_new _ _ _ (by simp)) _) _) n
    exact (blk_cell h 0).trans rfl
  · have h : (((((w.alloc (.cells #[v1] t1)).alloc (.cells #[v2] t2)).alloc (.cells #[v3] t3)).alloc o4).drewN n).heap[w.heap.size + 2]? = some (.cells #[v3] t3 (0, 0)) :=
      blk_drewN (blk_alloc (blk_at_new _ _ _ (by simp)) _) n
    exact (blk_cell h 0).trans rfl

theorem lies_of {W : World} {A : Option Addr} {l : List Int} (h : Kd.C (Kd.int .i64) W A l.length l) (ad : Addr) (ha : A = some ad) : Lies W ad l := by
  intro j hj
  obtain ⟨ad', e, hc⟩ := Kd.at_int h (j : Int) (by omega) (by omega)
  rw [ha] at e
  obtain rfl := Option.some.inj e
  exact hc

theorem addr_of {W : World} {A : Option Addr} {l : List Int} (h : Kd.C (Kd.int .i64) W A l.length l) (hl : 1 ≤ l.length) : ∃ ad, A = some ad := by
  obtain ⟨ad', e, hc⟩ := Kd.at_int h 0 (by omega) (by omega)
  exact ⟨_, e⟩

theorem cell_alloc_old {W : World} {o : Obj} {p : Addr} {v : Value} (h : W.cell? p = some v) (hp : p.block < W.heap.size) : (W.alloc o).cell? p = some v :=
  (World.cell?_alloc_lt W o p hp).trans h

def okV (v : Int) : Bool := decide (0 ≤ v) && decide (v ≤ 99)
theorem okV_iff (v : Int) : okV v = true ↔ 0 ≤ v ∧ v ≤ 99 := by simp [okV]

theorem valTo_bound (ws hs vs : List Int) (hv : ∀ j, 0 ≤ vs.getD j 0 ∧ vs.getD j 0 ≤ 99) (x y : Int) (k : Nat) : 0 ≤ valTo ws hs vs x y k ∧ valTo ws hs vs x y k ≤ 99 := by
  induction k with
  | zero => simp [valTo]
  | succ k ih =>
    have := hv k
    simp only [valTo, maxI]
    split
    · split <;> omega
    · exact ih

def valueOk (a0 a1 : Int) (l2 l3 l4 : List Int) : Bool :=
  inS a0 && inS a1 && decide (1 ≤ l4.length) && decide (l4.length ≤ 4) && (l2.length == l4.length) && (l3.length == l4.length) && l2.all inS && l3.all inS && l4.all okV

def impl_SheetValue.f (a0 a1 : Int) (l2 l3 l4 : List Int) : Option (Int × Bool) :=
  some (if valueOk a0 a1 l2 l3 l4 = true then (Vt (alValue l2 l3 l4) maxI a0.toNat a1.toNat, true) else (0, false))

theorem enters50 (args : Array Value) (W : World) : (callFunc 50 args).run Try.prog W = .ok (.enter 50 args) W := enters_of Try.func50 (by kernel_rfl) rfl args W

theorem bad_value {a0 a1 : Int} {l2 l3 l4 : List Int} {r1 : Int} {r2 : Bool} (h : impl_SheetValue.f a0 a1 l2 l3 l4 = some (r1, r2)) (hb : valueOk a0 a1 l2 l3 l4 = false) : r1 = 0 ∧ r2 = false := by
  unfold impl_SheetValue.f at h
  rw [if_neg (by rw [hb]; simp)] at h
  simp only [Option.some.injEq, Prod.mk.injEq] at h
  exact ⟨h.1.symm, h.2.symm⟩

set_option maxRecDepth 100000 in
set_option maxHeartbeats 3200000 in
theorem impl_SheetValue.calls (a0 a1 : Int) (A2 : Option Addr) (c2 : Nat) (l2 : List Int) (A3 : Option Addr) (c3 : Nat) (l3 : List Int) (A4 : Option Addr) (c4 : Nat) (l4 : List Int) (r1 : Int) (r2 : Bool) (w : World) (hr2 : Kd.C (Kd.int .i64) w A2 l2.length l2) (hc2 : l2.length ≤ c2) (hr3 : Kd.C (Kd.int .i64) w A3 l3.length l3) (hc3 : l3.length ≤ c3) (hr4 : Kd.C (Kd.int .i64) w A4 l4.length l4) (hc4 : l4.length ≤ c4) (h : impl_SheetValue.f a0 a1 l2 l3 l4 = some (r1, r2)) :
    Calls Try.prog 32 #[.int .i64 a0, .int .i64 a1, .slice A2 l2.length c2, .slice A3 l3.length c3, .slice A4 l4.length c4] w fun e w' => e = .returned (.tuple #[.int .i64 r1, .bool r2]) ∧ Below w.heap.size w w' := by
  have hs : impl_sized.f 3 [a0, a1] = some (inS a0 && inS a1) := by
    rw [sized_eq _ (by simp) 3 (by simp)]
    simp only [List.all_cons, List.all_nil, Bool.and_true]
  have hC := fun W g (hg : g = (World.heap W).size) => reads_new W [a0, a1] g hg _ rfl (by simp)
  have HC := Lib.hid hC
  clear hC
  have HR2 := Lib.hid hr2
  have HR3 := Lib.hid hr3
  have HR4 := Lib.hid hr4
  have HC2 := Lib.hid hc2
  have HC3 := Lib.hid hc3
  clear hr2 hr3 hr4 hc2 hc3 hc4
  have HH := Lib.hid h
  clear h

  by_cases h1 : (inS a0 && inS a1) = true
  case neg =>
    rw [Bool.not_eq_true] at h1
    rw [h1] at hs
    have HS := Lib.hid hs
    have HF := Lib.hid h1
    clear hs h1
    obtain ⟨rfl, rfl⟩ := bad_value HH.out (by simp only [valueOk, HF.out, Bool.false_and])
    clear HH
    go_enter Try.func32, Try.ntmps32
    go_wp2_with (first
      | (go_at_call 38; refine (impl_sized.calls 3 _ _ [a0, a1] false _ (HC.out _ _ (by simp)) (by simp) HS.out).mono ?_; rintro e w1 ⟨rfl, ⟨n1, e1⟩⟩; obtain ⟨b7, b8, b9, hbl, hsz⟩ := three_boxes _ _ _ _ _ _ _ _ _ _ e1; have HBL := Lib.hid hbl; have HSZ := Lib.hid hsz; clear e1 hbl hsz))
    go_ret2
    exact ⟨rfl, HBL.out⟩
  rw [h1] at hs
  have HS := Lib.hid hs
  have H1 := Lib.hid h1
  clear hs h1
  by_cases h2 : 1 ≤ l4.length
  case neg =>
    have H2 := Lib.hid h2
    have h2' : (l4.length : Int) < 1 := by omega
    clear h2
    obtain ⟨rfl, rfl⟩ := bad_value HH.out (by simp only [valueOk, decide_eq_false H2.out, Bool.and_false, Bool.false_and])
    clear HH
    go_enter Try.func32, Try.ntmps32
    go_wp2_with (first
      | (go_at_call 38; refine (impl_sized.calls 3 _ _ [a0, a1] true _ (HC.out _ _ (by simp)) (by simp) HS.out).mono ?_; rintro e w1 ⟨rfl, ⟨n1, e1⟩⟩; obtain ⟨b7, b8, b9, hbl, hsz⟩ := three_boxes _ _ _ _ _ _ _ _ _ _ e1; have HBL := Lib.hid hbl; have HSZ := Lib.hid hsz; clear e1 hbl hsz))
    go_ret2
    exact ⟨rfl, HBL.out⟩
  by_cases h3 : l4.length ≤ 4
  case neg =>
    have H3 := Lib.hid h3
    have h3' : (4 : Int) < (l4.length : Int) := by omega
    have h2' : ¬ (l4.length : Int) < 1 := by omega
    clear h3 h2
    obtain ⟨rfl, rfl⟩ := bad_value HH.out (by simp only [valueOk, decide_eq_false H3.out, Bool.and_false, Bool.false_and])
    clear HH
    go_enter Try.func32, Try.ntmps32
    go_wp2_with (first
      | (go_at_call 38; refine (impl_sized.calls 3 _ _ [a0, a1] true _ (HC.out _ _ (by simp)) (by simp) HS.out).mono ?_; rintro e w1 ⟨rfl, ⟨n1, e1⟩⟩; obtain ⟨b7, b8, b9, hbl, hsz⟩ := three_boxes _ _ _ _ _ _ _ _ _ _ e1; have HBL := Lib.hid hbl; have HSZ := Lib.hid hsz; clear e1 hbl hsz))
    go_ret2
    exact ⟨rfl, HBL.out⟩
  have h2' : ¬ (l4.length : Int) < 1 := by omega
  have h3' : ¬ (4 : Int) < (l4.length : Int) := by omega
  by_cases h4 : l2.length = l4.length
  case neg =>
    have H4 := Lib.hid h4
    have q4 : ((l2.length : Int) == (l4.length : Int)) = false := by rw [beq_eq_false_iff_ne]; omega
    have q4b : (l2.length == l4.length) = false := by rw [beq_eq_false_iff_ne]; exact h4
    have q4c : ((l2.length : Int) != (l4.length : Int)) = true := by rw [bne_iff_ne]; omega
    clear h4
    obtain ⟨rfl, rfl⟩ := bad_value HH.out (by simp only [valueOk, beq_eq_false_iff_ne.2 H4.out, Bool.and_false, Bool.false_and])
    clear HH
    go_enter Try.func32, Try.ntmps32
    go_wp2_with (first
      | (go_at_call 38; refine (impl_sized.calls 3 _ _ [a0, a1] true _ (HC.out _ _ (by simp)) (by simp) HS.out).mono ?_; rintro e w1 ⟨rfl, ⟨n1, e1⟩⟩; obtain ⟨b7, b8, b9, hbl, hsz⟩ := three_boxes _ _ _ _ _ _ _ _ _ _ e1; have HBL := Lib.hid hbl; have HSZ := Lib.hid hsz; clear e1 hbl hsz))
    go_ret2
    exact ⟨rfl, HBL.out⟩
  have H4 := Lib.hid h4
  have q4 : ((l2.length : Int) == (l4.length : Int)) = true := by rw [beq_iff_eq]; omega
  have q4b : (l2.length == l4.length) = true := by rw [beq_iff_eq]; exact h4
  have q4c : ((l2.length : Int) != (l4.length : Int)) = false := by rw [bne_eq_false_iff_eq]; omega
  clear h4
  by_cases h5 : l3.length = l4.length
  case neg =>
    have H5 := Lib.hid h5
    have q5 : ((l3.length : Int) == (l4.length : Int)) = false := by rw [beq_eq_false_iff_ne]; omega
    have q5b : (l3.length == l4.length) = false := by rw [beq_eq_false_iff_ne]; exact h5
    have q5c : ((l3.length : Int) != (l4.length : Int)) = true := by rw [bne_iff_ne]; omega
    clear h5
    obtain ⟨rfl, rfl⟩ := bad_value HH.out (by simp only [valueOk, beq_eq_false_iff_ne.2 H5.out, Bool.and_false, Bool.false_and])
    clear HH
    go_enter Try.func32, Try.ntmps32
    go_wp2_with (first
      | (go_at_call 38; refine (impl_sized.calls 3 _ _ [a0, a1] true _ (HC.out _ _ (by simp)) (by simp) HS.out).mono ?_; rintro e w1 ⟨rfl, ⟨n1, e1⟩⟩; obtain ⟨b7, b8, b9, hbl, hsz⟩ := three_boxes _ _ _ _ _ _ _ _ _ _ e1; have HBL := Lib.hid hbl; have HSZ := Lib.hid hsz; clear e1 hbl hsz))
    go_ret2
    exact ⟨rfl, HBL.out⟩
  have H5 := Lib.hid h5
  have q5 : ((l3.length : Int) == (l4.length : Int)) = true := by rw [beq_iff_eq]; omega
  have q5b : (l3.length == l4.length) = true := by rw [beq_iff_eq]; exact h5
  have q5c : ((l3.length : Int) != (l4.length : Int)) = false := by rw [bne_eq_false_iff_eq]; omega
  clear h5
  have s2 : impl_sized.f 6 l2 = some (l2.all inS) := sized_eq _ (by have := H4.out; omega) 6 (by have := H4.out; omega)
  have s3 : impl_sized.f 6 l3 = some (l3.all inS) := sized_eq _ (by have := H5.out; omega) 6 (by have := H5.out; omega)
  by_cases h6 : l2.all inS = true
  case neg =>
    rw [Bool.not_eq_true] at h6
    rw [h6] at s2
    have HS6 := Lib.hid s2
    have H6 := Lib.hid h6
    clear s2 s3 h6
    have HQ2 : Hid (∀ W, Below w.heap.size w W → Calls Try.prog 38 #[.slice A2 l2.length c2] W fun e w' => e = .returned (.bool false) ∧ Drawn0 W w') := Lib.hid (fun W hb => impl_sized.calls 6 _ _ l2 false _ (Kd.C_below HR2.out hb) HC2.out HS6.out)
    obtain ⟨rfl, rfl⟩ := bad_value HH.out (by simp only [valueOk, H6.out, Bool.and_false, Bool.false_and])
    clear HH
    go_enter Try.func32, Try.ntmps32
    go_wp2_with (first
      | (go_at_call 38; with_reducible refine (HQ2.out _ HBL.out).mono ?_; rintro e w2 ⟨rfl, ⟨n2, rfl⟩⟩)
      | (go_at_call 38; refine (impl_sized.calls 3 _ _ [a0, a1] true _ (HC.out _ _ (by simp)) (by simp) HS.out).mono ?_; rintro e w1 ⟨rfl, ⟨n1, e1⟩⟩; obtain ⟨b7, b8, b9, hbl, hsz⟩ := three_boxes _ _ _ _ _ _ _ _ _ _ e1; have HBL := Lib.hid hbl; have HSZ := Lib.hid hsz; clear e1 hbl hsz))
    go_ret2
    exact ⟨rfl, pw_below_drewN HBL.out _⟩
  rw [h6] at s2
  have HS6 := Lib.hid s2
  have H6 := Lib.hid h6
  clear s2 h6
  have HQ2 : Hid (∀ W, Below w.heap.size w W → Calls Try.prog 38 #[.slice A2 l2.length c2] W fun e w' => e = .returned (.bool true) ∧ Drawn0 W w') := Lib.hid (fun W hb => impl_sized.calls 6 _ _ l2 true _ (Kd.C_below HR2.out hb) HC2.out HS6.out)
  by_cases h7 : l3.all inS = true
  case neg =>
    rw [Bool.not_eq_true] at h7
    rw [h7] at s3
    have HS7 := Lib.hid s3
    have H7 := Lib.hid h7
    clear s3 h7
    have HQ3 : Hid (∀ W, Below w.heap.size w W → Calls Try.prog 38 #[.slice A3 l3.length c3] W fun e w' => e = .returned (.bool false) ∧ Drawn0 W w') := Lib.hid (fun W hb => impl_sized.calls 6 _ _ l3 false _ (Kd.C_below HR3.out hb) HC3.out HS7.out)
    obtain ⟨rfl, rfl⟩ := bad_value HH.out (by simp only [valueOk, H7.out, Bool.and_false, Bool.false_and])
    clear HH
    go_enter Try.func32, Try.ntmps32
    go_wp2_with (first
      | (go_at_call 38; with_reducible refine (HQ3.out _ (pw_below_drewN HBL.out _)).mono ?_; rintro e w3 ⟨rfl, ⟨n3, rfl⟩⟩)
      | (go_at_call 38; with_reducible refine (HQ2.out _ HBL.out).mono ?_; rintro e w2 ⟨rfl, ⟨n2, rfl⟩⟩)
      | (go_at_call 38; refine (impl_sized.calls 3 _ _ [a0, a1] true _ (HC.out _ _ (by simp)) (by simp) HS.out).mono ?_; rintro e w1 ⟨rfl, ⟨n1, e1⟩⟩; obtain ⟨b7, b8, b9, hbl, hsz⟩ := three_boxes _ _ _ _ _ _ _ _ _ _ e1; have HBL := Lib.hid hbl; have HSZ := Lib.hid hsz; clear e1 hbl hsz))
    go_ret2
    exact ⟨rfl, pw_below_drewN HBL.out _⟩
  rw [h7] at s3
  have HS7 := Lib.hid s3
  have H7 := Lib.hid h7
  clear s3 h7
  have HQ3 : Hid (∀ W, Below w.heap.size w W → Calls Try.prog 38 #[.slice A3 l3.length c3] W fun e w' => e = .returned (.bool true) ∧ Drawn0 W w') := Lib.hid (fun W hb => impl_sized.calls 6 _ _ l3 true _ (Kd.C_below HR3.out hb) HC3.out HS7.out)
  obtain ⟨d4, e4⟩ := addr_of HR4.out h2
  obtain ⟨d2, e2⟩ := addr_of HR2.out (by have := H4.out; omega)
  obtain ⟨d3, e3⟩ := addr_of HR3.out (by have := H5.out; omega)
  subst e4 e2 e3
  have hz := zero48
  have hmf : ∀ (fn : Fn) (first cap : Array Value) (w : World), (Instr.makeFunc fn first cap).run Try.prog w = .ok (.func fn first cap) w := fun _ _ _ _ => rfl
  go_enter Try.func32, Try.ntmps32
  go_wp2_with (first
    | (go_at_call 38; with_reducible refine (HQ3.out _ (pw_below_drewN HBL.out _)).mono ?_; rintro e w3 ⟨rfl, ⟨n3, rfl⟩⟩)
    | (go_at_call 38; with_reducible refine (HQ2.out _ HBL.out).mono ?_; rintro e w2 ⟨rfl, ⟨n2, rfl⟩⟩)
    | (go_at_call 38; refine (impl_sized.calls 3 _ _ [a0, a1] true _ (HC.out _ _ (by simp)) (by simp) HS.out).mono ?_; rintro e w1 ⟨rfl, ⟨n1, e1⟩⟩; obtain ⟨b7, b8, b9, hbl, hsz⟩ := three_boxes _ _ _ _ _ _ _ _ _ _ e1; have HBL := Lib.hid hbl; have HSZ := Lib.hid hsz; clear e1 hbl hsz))
  obtain ⟨wl, hwl⟩ : ∃ wl : World, wl = w1.drewN (n2 + n3) := ⟨_, rfl⟩
  have b7' : wl.cell? ⟨w.heap.size, 0, none⟩ = some (.slice (some d2) l2.length c2) := by rw [hwl]; exact b7
  have b8' : wl.cell? ⟨w.heap.size + 1, 0, none⟩ = some (.slice (some d3) l3.length c3) := by rw [hwl]; exact b8
  have b9' : wl.cell? ⟨w.heap.size + 2, 0, none⟩ = some (.slice (some d4) l4.length c4) := by rw [hwl]; exact b9
  have HBW : Hid (Below w.heap.size w wl) := by rw [hwl]; exact Lib.hid (pw_below_drewN HBL.out _)
  have HSW : Hid (wl.heap.size = w.heap.size + 4) := by rw [hwl]; exact HSZ
  have HL4 : Hid (Lies wl d4 l4) := Lib.hid (lies_of (Kd.C_below HR4.out HBW.out) _ rfl)
  rw [← hwl]
  clear hwl b7 b8 b9 HBL HSZ
  go_loopw [55] (fun k wr => ∃ K : Nat, K ≤ l4.length ∧ k = .int .i64 K ∧ wl = wr ∧ Hid (∀ j, j < K → okV (l4.getD j 0) = true))
    (fun k _ => l4.length - (intOf k).toNat)
  case atStart => exact ⟨0, by omega, rfl, rfl, Lib.hid (fun j hj => by omega)⟩
  case round =>
    obtain ⟨K, hK, rfl, rfl, HO⟩ := hrel
    by_cases hlt : K < l4.length
    · have cv := HL4.out K hlt
      have hst : ∀ j, j < K + 1 → okV (l4.getD K 0) = true → okV (l4.getD j 0) = true := fun j hj hk => by
        by_cases e : j = K
        · rw [e]; exact hk
        · exact HO.out j (by omega)
      have hno : okV (l4.getD K 0) = false → l4.all okV = false := fun hk => by
        rw [List.all_eq_false]
        refine ⟨l4.getD K 0, ?_, by rw [hk]; simp⟩
        rw [List.getD_eq_getElem?_getD, List.getElem?_eq_getElem hlt]
        exact List.getElem_mem _
      have HST := Lib.hid hst
      have HNO := Lib.hid hno
      clear hst hno
      generalize hv : l4.getD K 0 = v at cv
      have HVV := Lib.hid hv
      clear hv
      have b1 : (0 : Int) ≤ (K : Int) := by omega
      have b2 : (K : Int) < (l4.length : Int) := by omega
      by_cases hv1 : v < 0
      · obtain ⟨rfl, rfl⟩ := bad_value HH.out (by simp only [valueOk, HNO.out (by rw [HVV.out]; simp [okV]; omega), Bool.and_false, Bool.false_and])
        clear HH
        go_wp2_with fail
        go_ret2
        exact ⟨rfl, HBW.out⟩
      · by_cases hv2 : v > 99
        · obtain ⟨rfl, rfl⟩ := bad_value HH.out (by simp only [valueOk, HNO.out (by rw [HVV.out]; simp [okV]; omega), Bool.and_false, Bool.false_and])
          clear HH
          go_wp2_with fail
          go_ret2
          exact ⟨rfl, HBW.out⟩
        · go_wp2_with fail
          go_roundw
          case rel => exact ⟨K + 1, by omega, by go_num, by first | rfl | trivial, Lib.hid (fun j hj => HST.out j hj (by rw [HVV.out, okV_iff]; omega))⟩
          case measure => simp [intOf]; omega
    · obtain rfl : K = l4.length := by omega
      have hall : l4.all okV = true := by
        rw [List.all_eq_true]
        intro z hz
        obtain ⟨j, hj, rfl⟩ := List.getElem_of_mem hz
        have := HO.out j hj
        rwa [List.getD_eq_getElem?_getD, List.getElem?_eq_getElem hj] at this
      have hok : valueOk a0 a1 l2 l3 l4 = true := by
        have q4 := H4.out
        have q5 := H5.out
        simp only [valueOk, H1.out, H6.out, H7.out, hall, decide_eq_true h2, decide_eq_true h3, beq_iff_eq.2 q4, beq_iff_eq.2 q5, Bool.and_true, Bool.true_and]
      have h' := HH.out
      unfold impl_SheetValue.f at h'
      rw [if_pos hok] at h'
      simp only [Option.some.injEq, Prod.mk.injEq] at h'
      have HR := Lib.hid h'
      have hin := H1.out
      simp only [Bool.and_eq_true, inS_iff] at hin
      obtain ⟨i0, i1⟩ := hin
      have hvv : ∀ j, 0 ≤ l4.getD j 0 ∧ l4.getD j 0 ≤ 99 := fun j => by
        by_cases hj : j < l4.length
        · have := HO.out j hj
          rwa [okV_iff] at this
        · rw [List.getD_eq_getElem?_getD, List.getElem?_eq_none (by omega)]; simp
      have HVB := Lib.hid hvv
      clear h' hok hall hvv
      obtain ⟨x, hx⟩ := Int.eq_ofNat_of_zero_le (show 0 ≤ a0 by omega)
      obtain ⟨y, hy⟩ := Int.eq_ofNat_of_zero_le (show 0 ≤ a1 by omega)
      clear HH H1 HS HC
      subst hx hy
      go_wp2_with fail
      generalize hW : wl.alloc (.cells zc 48) = W1
      have hbk : W1.heap[wl.heap.size]? = some (.cells zc 48 (0, 0)) := by rw [← hW]; exact blk_at_new _ _ _ rfl
      have hbl : Below w.heap.size w W1 := by rw [← hW]; exact below_alloc HBW.out _
      have x7 : W1.cell? ⟨w.heap.size, 0, none⟩ = some (.slice (some d2) l2.length c2) := by rw [← hW]; exact cell_alloc_old b7' (by have := HSW.out; simp; omega)
      have x8 : W1.cell? ⟨w.heap.size + 1, 0, none⟩ = some (.slice (some d3) l3.length c3) := by rw [← hW]; exact cell_alloc_old b8' (by have := HSW.out; simp; omega)
      have x9 : W1.cell? ⟨w.heap.size + 2, 0, none⟩ = some (.slice (some d4) l4.length c4) := by rw [← hW]; exact cell_alloc_old b9' (by have := HSW.out; simp; omega)
      clear hW
      have HBL := Lib.hid hbl
      have X7 := Lib.hid x7
      have X8 := Lib.hid x8
      have X9 := Lib.hid x9
      have hsz := HSW.out
      clear hbl x7 x8 x9 b7' b8' b9'
      refine (solve_any 50 47 #[.pointer (some ⟨w.heap.size + 2, 0, none⟩), .pointer (some ⟨w.heap.size, 0, none⟩), .pointer (some ⟨w.heap.size + 1, 0, none⟩)] (alValue l2 l3 l4) maxI (Vt (alValue l2 l3 l4) maxI) W1 wl.heap.size x y (by omega) (by omega) (by omega) (by omega)
        enters50 enters47 (fun X Y W tb hT _ _ _ _ => ?_) greater_calls (Vt_fills _ _)
        (fun X Y a b c d => ?_) W1 (fun _ => 0) (Tab.new W1 _ zc hbk zc_at)).mono ?_
      · have hb := HBL.out.trans (hT.below (B := w.heap.size) (by omega))
        exact worth_calls l2 l3 l4 h2 h3 H4.out H5.out d2 d3 d4 c2 c3 c4 _ _ _ X Y W (hT.cell_other (by simp; omega) X9.out) (hT.cell_other (by simp; omega) X7.out) (hT.cell_other (by simp; omega) X8.out)
          (lies_of (Kd.C_below HR4.out hb) _ rfl) (lies_of (Kd.C_below HR2.out hb) _ rfl) (lies_of (Kd.C_below HR3.out hb) _ rfl)
      · have := Vt_max_bound (alValue l2 l3 l4) 99 (by omega) (fun x y _ _ _ _ => valTo_bound _ _ _ HVB.out _ _ _) X Y a b c d
        have h2 : X * Y ≤ 12 * 12 := Nat.mul_le_mul b d
        omega
      · rintro e W2 ⟨rfl, tb', hT⟩
        have hfin : Below w.heap.size w W2 := HBL.out.trans (hT.below (by omega))
        have HF := Lib.hid hfin
        clear hfin hT
        go_wp2
        go_ret2
        obtain ⟨rfl, rfl⟩ := HR.out
        exact ⟨by simp, HF.out⟩
end Go.Proofs.Ytjbijfdiojhmcaa.S

/- impl.tally, impl.CountRooms: a range over all plans. -/
import Derived.Test.YtjbjpkphepfldaaEvery
import Derived.Test.YtjbjpkphepfldaaTailR
namespace Go.Proofs.Ytjbjpkphepfldaa.S
open Go.RowKit Go.Proofs.YtjbjpkphepfldaaW.PrintWords Go.Proofs.YtjbjpkphepfldaaW.PrintMore
set_option linter.unusedVariables false
set_option linter.unusedSimpArgs false

/-- 'make([]T, n)', inside a fence. -/
theorem wpListIn_make_full {F : Fence} {k : Nat} {P : Program} (w : World) {ops : Array Oper} {rest : List Oper} {o : Oper} {a : Act} {Q : Exit → Act → World → Prop}
    (hg : o.guard = none) (l c : Operand) (t : TypeId) (hop : o.op = Op.makeSlice t l c)
    (base : Nat) (e : TypeId) (i : TypeInfo) (z : Value) (size : Nat) (h1 : P.underlying t = some (.slice e)) (h2 : P.info? e = some i) (h3 : i.zero = some z) (h4 : i.size = size)
    (kl kc : IntKind) (L C : Int) (n : Nat) (hl : a.eval l = .int kl L) (hc : a.eval c = .int kc C) (hL : L = (n : Int)) (hC : C = (n : Int)) (b2 : i.bytes * n ≤ 281474976710656) (b3 : n ≤ maxLen) (b4 : base ≤ w.heap.size)
    (hK : ∀ w', w'.ownsRow base e size (.slice (some ⟨w.heap.size, 0, none⟩) n n) n (madeCells z.cells (n * size)).toList → w.grownBy w' none → wpListIn F k P ops Q rest (a.put o.dst (.slice (some ⟨w.heap.size, 0, none⟩) n n)) w') :
    wpListIn F k P ops Q (o :: rest) a w := by
  refine wpListIn_plain hg fun K hK' => ?_
  obtain ⟨w', hrun, r1, r2⟩ := run_make_full (P := P) w base t e i z size h1 h2 h3 h4 kl kc n b2 b3 b4
  subst hL
  subst hC
  unfold Oper.wpIn
  refine ⟨?_, ?_⟩
  · simp [Oper.about, hop]
  · rw [Oper.semAt_plain F _ _ (by rw [hop]; intro c hc'; cases hc')]
    simp [execOp, hop, hl, hc, hrun, Result.andThen]
    exact hK' _ _ (hK w' r1 r2)

/-- How often each number stands in a list, from 0 to N. -/
def counts (N : Nat) (xs : List Nat) : List Int := (List.range (N + 1)).map fun k => wrap64 ((xs.count k : Nat) : Int)
theorem counts_len (N : Nat) (xs : List Nat) : (counts N xs).length = N + 1 := by simp [counts]
theorem counts_at {N : Nat} {xs : List Nat} {x : Nat} (h : x ≤ N) : (counts N xs)[x]? = some (wrap64 ((xs.count x : Nat) : Int)) := by
  unfold counts
  rw [List.getElem?_map, List.getElem?_range (by omega)]
  rfl
theorem wrap_step (c : Int) : wrap64 (wrap64 c + 1) = wrap64 (c + 1) := by
  unfold wrap64
  have h : (c + 9223372036854775808) % 18446744073709551616 - 9223372036854775808 + 1 + 9223372036854775808 = (c + 9223372036854775808) % 18446744073709551616 + 1 := by omega
  have h2 : c + 1 + 9223372036854775808 = c + 9223372036854775808 + 1 := by omega
  rw [h, h2, Int.emod_add_emod]
theorem counts_step {N : Nat} {xs : List Nat} {x : Nat} (h : x ≤ N) : counts N (xs ++ [x]) = (counts N xs).set x (wrap64 (wrap64 ((xs.count x : Nat) : Int) + 1)) := by
  apply List.ext_getElem?
  intro j
  by_cases hj : j ≤ N
  · rw [counts_at hj]
    by_cases e : j = x
    · subst e
      rw [List.getElem?_set_self (by rw [counts_len]; omega), wrap_step]
      simp [List.count_append]
    · rw [List.getElem?_set_ne (fun y => e y.symm), counts_at hj]
      have e2 : ¬ x = j := fun y => e y.symm
      simp [List.count_append, List.count_singleton, e2]
  · rw [List.getElem?_eq_none (by rw [counts_len]; omega), List.getElem?_eq_none (by rw [List.length_set, counts_len]; omega)]

set_option maxRecDepth 100000 in
set_option maxHeartbeats 1000000 in
theorem holds_calls (v : Value) (W : World) : Calls Try.prog 15 #[v] W fun e w' => e = .returned (.bool true) ∧ w' = W := by
  go_enter Try.func15, Try.ntmps15
  go_wp2
  go_ret
  exact ⟨rfl, rfl⟩

set_option maxRecDepth 100000 in
set_option maxHeartbeats 8000000 in
theorem tally_calls (H Wd n : Nat) (h1 : 1 ≤ H) (h6 : H ≤ 6) (w1 : 1 ≤ Wd) (w6 : Wd ≤ 6) (h9 : H * Wd ≤ 9) (xs : List Nat) (g' : List (List Int)) (hfill : fillM H Wd n 0 (bare H Wd) = some (xs, g')) (hxs : ∀ x ∈ xs, x ≤ H * Wd) (w : World) :
    Calls Try.prog 14 #[.int .i64 (H : Nat), .int .i64 (Wd : Nat), .func (Fn.func 15) #[] #[]] w fun e w' => ∃ v0, e = .returned (.tuple #[v0, .bool true]) ∧ Kd.R (Kd.int .i64) 3 w' w.heap.size (fun _ => True) v0 (counts (H * Wd) xs) ∧ Below w.heap.size w w' := by
  obtain ⟨i3, hi3, hz30, hz31, hz32⟩ := info_parts info3
  obtain ⟨N, hN⟩ : ∃ N, N = H * Wd := ⟨_, rfl⟩
  have hNi : (H : Int) * (Wd : Int) = (N : Int) := by rw [hN, Int.natCast_mul]
  rw [← hN] at h9 hxs ⊢
  have p1 : i3.bytes * (N + 1) ≤ 281474976710656 := by rw [hz32]; omega
  have p2 : N + 1 ≤ maxLen := Nat.le_trans (show N + 1 ≤ 10 by omega) (by decide)
  have CC : ∀ W', Calls Try.prog 23 #[.int .i64 (H : Nat), .int .i64 (Wd : Nat)] W' fun e w' => e = .returned (.bool true) ∧ Drawn0 W' w' := fun W' => Qk.impl_counting.calls (H : Nat) (Wd : Nat) true W' (by
    unfold Qk.impl_counting.f
    rw [if_pos (by omega), if_pos (by omega), if_pos (by omega), if_pos (by omega), hNi, pw64 _ (by omega), decide_eq_true (by omega)])
  have HCC := Lib.hid CC
  have HF := Lib.hid hfill
  have HXS := Lib.hid hxs
  have hen := enters_of (P := Try.prog) Try.func15 rfl rfl
  clear CC hfill hxs hN
  refine (callsIn_wide (n := 0)).1 ?_
  refine callsIn_of_wp_marks Try.func14 rfl trivial ?_
  simp only [Try.ntmps14, List.size_toArray, List.length_cons, List.length_nil, Nat.reduceAdd, Nat.reduceSub, Array.replicate_succ, Array.replicate_zero, List.push_toArray, List.append_toArray, List.nil_append, List.cons_append]
  gi_wp2
  refine ⟨trivial, rfl, (callsIn_wide.2 (HCC.out _)).mono ?_⟩
  rintro e w2 ⟨rfl, nd, rfl⟩
  gi_wp2_with ((gi_at_make; refine wpListIn_make_full _ rfl _ _ 22 rfl w.heap.size 3 i3 _ 1 Try.underlying22 hi3 hz30 hz31 .i64 .i64 _ _ (N + 1) rfl rfl (by simp [hNi]) (by simp [hNi]) p1 p2 (by simp <;> omega) ?_; intro w3 hown3 hg3))
  refine ⟨trivial, rfl, (callsIn_wide.2 (everyPlan_calls H Wd _)).mono ?_⟩
  rintro e w4 ⟨rfl, rfl⟩
  gi_wp2
  obtain ⟨q1, q2, q3⟩ := own_arr hown3
  have eb : ((w.alloc (Obj.cells #[.func (Fn.func 15) #[] #[]] 35)).drewN nd).heap.size = w.heap.size + 1 := by simp
  rw [eb] at q1
  have hbw3 : Below w.heap.size w w3 := (pw_below_drewN (below_alloc (Below.refl _ _) _) nd).trans ((Below.grown (Below.refl _ _) hg3 (Nat.le_refl _) (by simp)).mono (by rw [eb]; omega))
  have hb3 := Below.grown (Below.refl ((w.alloc (Obj.cells #[.func (Fn.func 15) #[] #[]] 35)).drewN nd).heap.size _) hg3 (Nat.le_refl _) (by simp)
  have hh3 : w3.heap[w.heap.size]? = some (.cells #[.func (Fn.func 15) #[] #[]] 35 (0, 0)) := (hb3.block _ (by rw [eb]; omega)).trans (new_at w _)
  have hs3 : w.heap.size + 1 < w3.heap.size := blk_lt q1
  have hc0 : (counts N []).map (Value.int .i64) = (madeCells (Value.int .i64 0).cells ((N + 1) * 1)).toList := by
    rw [show (Value.int .i64 0).cells = #[Value.int .i64 0] from rfl, toList_madeCells_one, Nat.mul_one]
    apply List.ext_getElem?
    intro j
    by_cases hj : j ≤ N
    · rw [List.getElem?_map, counts_at hj, List.getElem?_replicate, if_pos (by omega)]
      simp [wrap64]
    · rw [List.getElem?_eq_none (by rw [List.length_map, counts_len]; omega), List.getElem?_eq_none (by simp; omega)]
  rw [← hc0] at q1
  obtain ⟨w5, hw5⟩ : ∃ w5, w5 = ((w3.alloc (Obj.cells #[.slice (some ⟨w.heap.size + 1, 0, none⟩) (N + 1) (N + 1)] 22)).alloc (Obj.cells #[.int .i64 (H : Nat)] 3)).alloc (Obj.cells #[.int .i64 (Wd : Nat)] 3) := ⟨_, rfl⟩
  have hs5 : w5.heap.size = w3.heap.size + 3 := by rw [hw5]; simp
  have hb35 : Below w3.heap.size w3 w5 := by rw [hw5]; exact below_alloc (below_alloc (below_alloc (Below.refl _ _) _) _) _
  obtain ⟨n1, n2, n3, -, -⟩ := three w3 (Obj.cells #[.slice (some ⟨w.heap.size + 1, 0, none⟩) (N + 1) (N + 1)] 22) (Obj.cells #[.int .i64 (H : Nat)] 3) (Obj.cells #[.int .i64 (Wd : Nat)] 3)
  rw [← hw5] at n1 n2 n3
  have hseq := plans_iter H Wd n (w3.heap.size + 1) (w3.heap.size + 1 + 1) w5 (fun k => k = w.heap.size + 1) (by omega) (by omega) n2 n3 (by omega) (by omega) (by intro k hk; omega) xs g' HF.out
  have HSEQ := Lib.hid hseq
  have HBW := Lib.hid (hbw3.trans (hb35.mono hbw3.size))
  have HM := Lib.hid ((hb35.block _ hs3).trans q1)
  have HB := Lib.hid n1
  have HHD := Lib.hid ((hb35.block _ (by omega)).trans hh3)
  rw [← hw5]
  clear hw5 hseq hb35 n1 n2 n3 q1 q2 q3 hb3 hh3 hown3 hg3 hc0 hbw3 eb HF HCC
  refine R.range_law1 (gf := 30) (lb := #[.pointer (some ⟨w3.heap.size + 1, 0, none⟩), .pointer (some ⟨w3.heap.size + 1 + 1, 0, none⟩)]) ?hg ?eg HSEQ.out ?hb0 ?hSB ?hps
    (fun pre W => W.heap[w.heap.size + 1]? = some (.cells ((counts N pre).map (Value.int .i64)).toArray 3 (0, 0)) ∧ W.heap[w3.heap.size]? = some (.cells #[.slice (some ⟨w.heap.size + 1, 0, none⟩) (N + 1) (N + 1)] 22 (0, 0)) ∧ W.heap[w.heap.size]? = some (.cells #[.func (Fn.func 15) #[] #[]] 35 (0, 0)))
    ?hI ?h0 ?round ?done
  case hI => exact fun s => (R.Low.heap _ _ (by omega) _).and ((R.Low.heap _ _ (by omega) _).and (R.Low.heap _ _ (by omega) _))
  case h0 => exact ⟨HM.out, HB.out, HHD.out⟩
  case hg => rfl
  case eg => intro args w; simp [go_sem]
  case hb0 => exact Below.refl _ _
  case hSB => intro k hk; omega
  case hps => rintro x args W ⟨fb, A, c, rfl, _⟩; rfl
  case round =>
    rintro l pre x args W hl1 hl2 ⟨rl, hrl⟩ hI hx hk ⟨fb, A, c, rfl, hcell⟩
    have hxN := HXS.out x hx
    have hfl : fb ≠ l := fun e => by
      rw [World.cell?, show W.heap[(⟨fb, 1, none⟩ : Addr).block]? = some (.loop rl) from by rw [e]; exact hrl] at hcell
      cases hcell
    have HI := Lib.hid hI
    have HK := Lib.hid hk
    have HC := Lib.hid hcell
    have HNL := Lib.hid hfl
    clear hI hk hx hcell hrl hfl
    refine ⟨fun a1 W1 => a1 = { tmps := #[.int .i64 (H : Nat), .int .i64 (Wd : Nat), .func (Fn.func 15) #[] #[], undef, undef, .pointer (some ⟨w.heap.size, 0, none⟩), .slice none 0 0, .bool false, .pointer (some ⟨w3.heap.size, 0, none⟩), .pointer (some ⟨fb, 0, none⟩), .int .i64 (H : Nat), .int .i64 (Wd : Nat), .bool true, .bool false, .int .i64 (H : Nat), .int .i64 (Wd : Nat), .int .i64 (N : Nat), .int .i64 ((N : Int) + 1), .slice (some ⟨w.heap.size + 1, 0, none⟩) (N + 1) (N + 1), .int .i64 (H : Nat), .int .i64 (Wd : Nat), .func (.func 30) #[] #[.pointer (some ⟨w3.heap.size + 1, 0, none⟩), .pointer (some ⟨w3.heap.size + 1 + 1, 0, none⟩)], .pointer (some ⟨fb, 0, none⟩), undef, undef, undef, undef, undef, undef, undef, undef, undef, undef, undef, undef, undef, undef], defers := [] } ∧ W1 = W, ?_, ?_⟩
    · intro K hK
      gi_wp2_with (rw [Oper.semAt_eq _ _ _ (fun c h => by cases h)]; go_simp; try go_bits)
    · rintro a1 W1 ⟨rfl, rfl⟩
      refine ⟨R.KeepS.refl _ _, fun W2 hk2 hs2 => ?_⟩
      have hm2 := hk2.heap HI.out.1 (by omega)
      have hb2 := hk2.heap HI.out.2.1 (by omega)
      have hf2 := hk2.heap HI.out.2.2 (by omega)
      have hc2 := hk2.cell HC.out (fun e => HNL.out e)
      have hc0 : W2.cell? ⟨w.heap.size, 0, none⟩ = some (.func (Fn.func 15) #[] #[]) := cell_of_one hf2
      have HM2 := Lib.hid hm2
      have HB2 := Lib.hid hb2
      have HF2 := Lib.hid hf2
      clear hf2 hk2 hs2
      have x1 : W2.cell? ⟨w3.heap.size, 0, none⟩ = some (.slice (some ⟨w.heap.size + 1, 0, none⟩) (N + 1) (N + 1)) := cell_of_one hb2
      obtain ⟨q, hq⟩ : ∃ q, q = wrap64 ((pre.count x : Nat) : Int) := ⟨_, rfl⟩
      have x2 : W2.cell? ⟨w.heap.size + 1, x, none⟩ = some (.int .i64 q) := by
        rw [blk_cell hm2, List.getElem?_toArray, List.getElem?_map, counts_at hxN, hq]
        rfl
      have x3 : W2.frozen? ⟨w.heap.size + 1, x, none⟩ = false := blk_frozen hm2 x
      have e1 : (x : Int) < (N : Int) + 1 := by omega
      have e2 : (0 : Int) ≤ (x : Int) := by omega
      have HQ := Lib.hid hq
      clear hm2 hb2 hq
      gi_wp2_with (first | (refine ⟨trivial, rfl, (callsIn_wide.2 (holds_calls _ _)).mono ?_⟩; rintro e w2 ⟨rfl, rfl⟩) | (rw [Oper.semAt_eq _ _ _ (fun c h => by cases h)]; go_simp; try go_bits))
      refine RT.wpIn_region_still_tail 10 (by kernel_rfl) (by kernel_rfl) (by kernel_rfl) ?_
      simp only [List.take_succ_cons, List.take_zero, List.drop_succ_cons, List.drop_zero]
      repeat still_step
      try refine wpStill_nil ?_
      change wpListIn _ _ _ _ _ _ _ (World.drew _)
      gi_wp2_with (rw [Oper.semAt_eq _ _ _ (fun c h => by cases h)]; go_simp; try go_bits)
      refine ⟨(R.KeepS.setCell (S := fun k => k = w.heap.size + 1) _ ⟨w.heap.size + 1, x, none⟩ _ (.inl rfl)).trans (R.KeepS.drew _ _), ?_, (Below.heap_setCell _ ⟨w.heap.size + 1, x, none⟩ _ _ (by simp only; omega)).trans HB2.out, (Below.heap_setCell _ ⟨w.heap.size + 1, x, none⟩ _ _ (by simp only; omega)).trans HF2.out⟩
      rw [counts_step hxN, ← HQ.out]
      exact blk_put HM2.out x _ (by rw [List.setIfInBounds_toArray, List.map_set])
  case done =>
    rintro D W hD ⟨hm, hb, -⟩ hk hd
    have x1 : W.cell? ⟨w3.heap.size, 0, none⟩ = some (.slice (some ⟨w.heap.size + 1, 0, none⟩) (N + 1) (N + 1)) := cell_of_one hb
    have HM3 := Lib.hid hm
    have HK := Lib.hid hk
    have HD := Lib.hid hd
    clear hm hb hk hd
    gi_wp2
    clear x1
    refine ⟨by simp, .inl ⟨_, _, rfl, run_takeDeferred HD.out, ?_⟩⟩
    have k1 : R.KeepS (fun k => k = w.heap.size + 1 ∨ k = D) w5 W := HK.out.mono (fun _ _ h => .inl h)
    have k3 := k1.trans (R.KeepS.putObj _ D (.deferred none) (.inl (.inr rfl)))
    have hbf := HBW.out.trans (k3.below (B := w.heap.size) (by omega) (fun k h => by rcases h with h | h <;> omega))
    refine ⟨.tuple #[.slice (some ⟨w.heap.size + 1, 0, none⟩) (N + 1) (N + 1), .bool true], ?_, ⟨_, rfl, ?_, hbf⟩⟩
    · simp [results, Try.f14, go_sem]
    · refine Kd.R_of_own ?_ (fun _ _ => trivial)
      rw [counts_len]
      refine ⟨by simp [encs, counts_len], .inr ⟨w.heap.size + 1, N + 1, _, rfl, by omega, (World.putObj_heap_other (by omega)).trans HM3.out, Nat.le_refl _, p2, by simp [counts_len], ?_⟩⟩
      rw [List.take_of_length_le (by simp [counts_len])]
      rfl
end Go.Proofs.Ytjbjpkphepfldaa.S

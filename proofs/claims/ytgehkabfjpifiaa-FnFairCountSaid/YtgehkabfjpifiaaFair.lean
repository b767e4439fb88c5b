/- The walks of impl.fair and impl.loose: a range over all four. -/
import Derived.Test.YtgehkabfjpifiaaFours
import Derived.Test.YtgehkabfjpifiaaTight
import Derived.RegionTactic
namespace Go.Proofs.Ytgehkabfjpifiaa.S
open Go.RowKit Go.Proofs.YtgehkabfjpifiaaW.PrintWords Go.Proofs.Ytgehkabfjpifiaa.R Go.Proofs.Ytgehkabfjpifiaa.Qa
set_option linter.unusedVariables false
set_option linter.unusedSimpArgs false

theorem blk_put0 {W : World} {k : Nat} {b : Bool} {t : TypeId} (h : W.heap[k]? = some (.cells #[.bool b] t (0, 0))) : (W.setCell ⟨k, 0, none⟩ (.bool b)).heap[k]? = some (.cells #[.bool b] t (0, 0)) := one_setCell h

def badFair (p : List Int) (x : Four) : Bool := decide (x.2.1 + 1 = x.2.2.1) && unfairB (p.getD x.1 0) (p.getD x.2.1 0) (p.getD x.2.2.1 0) (p.getD x.2.2.2 0)
def badLoose (p : List Int) (x : Four) : Bool := tightB (p.getD x.1 0) (p.getD x.2.1 0) (p.getD x.2.2.1 0) (p.getD x.2.2.2 0)
def fairB (p : List Int) : Bool := (foursL p.length).all fun x => !badFair p x
def looseB (p : List Int) : Bool := (foursL p.length).all fun x => !badLoose p x

set_option maxRecDepth 100000 in
set_option maxHeartbeats 8000000 in
theorem loose_calls (A0 : Option Addr) (c0 : Nat) (l0 : List Int) (w : World) (hr0 : Kd.C (Kd.int .i64) w A0 l0.length l0) (hc0 : l0.length ≤ c0) (hlen : l0.length ≤ 1000000) :
    Calls Try.prog 29 #[.slice A0 l0.length c0] w fun e w' => e = .returned (.bool (looseB l0)) ∧ Below w.heap.size w w' := by
  have HR0 := Lib.hid hr0
  clear hr0
  refine (callsIn_wide (n := 0)).1 ?_
  refine callsIn_of_wp_marks Try.func29 rfl trivial ?_
  simp only [Try.ntmps29, List.size_toArray, List.length_cons, List.length_nil, Nat.reduceAdd, Nat.reduceSub, Array.replicate_succ, Array.replicate_zero, List.push_toArray, List.append_toArray, List.nil_append, List.cons_append]
  gi_wp2
  refine ⟨trivial, rfl, (callsIn_wide.2 (fours_calls _ _ _ _)).mono ?_⟩
  rintro e w1 ⟨rfl, rfl⟩
  gi_wp2
  obtain ⟨w1, hw1⟩ : ∃ w1, w1 = (w.alloc (.cells #[.bool false] 4)).alloc (.cells #[.slice A0 l0.length c0] 29) := ⟨_, rfl⟩
  have HW1 := Lib.hid hw1
  have hs1 : w1.heap.size = w.heap.size + 2 := by rw [hw1]; simp
  have hbw : Below w.heap.size w w1 := by rw [hw1]; exact below_alloc (below_alloc (Below.refl _ _) _) _
  have hbox : w1.heap[w.heap.size + 1]? = some (.cells #[.slice A0 l0.length c0] 29 (0, 0)) := by rw [hw1]; have := heap_alloc_new (w.alloc (.cells #[.bool false] 4)) (.cells #[.slice A0 l0.length c0] 29); simpa using this
  have hres : w1.heap[w.heap.size]? = some (.cells #[.bool false] 4 (0, 0)) := by rw [hw1]; exact blk_alloc (by simpa using heap_alloc_new w (.cells #[.bool false] 4)) _
  have hread : Kd.C (Kd.int .i64) w1 A0 l0.length l0 := Kd.C_below HR0.out hbw
  have hlt : ∀ ad, A0 = some ad → 0 < l0.length → ¬ (ad.block = w.heap.size) := fun ad e hp => by
    obtain ⟨ad', e', hc⟩ := fours_at HR0.out hp
    rw [e] at e'
    obtain rfl := Option.some.inj e'
    have := World.block_lt_of_cell? w _ (hc 0 hp)
    have e2 : (ad.add 0).block = ad.block := by unfold Addr.add; split <;> rfl
    rw [e2] at this
    omega
  have hseq := fours_iter A0 l0 l0.length c0 (w.heap.size + 1) rfl w1 (fun k => k = w.heap.size) hbox hread (by simp) hlt hlen
  have HSEQ := Lib.hid hseq
  rw [← hw1]
  clear hw1 hseq hlt hread hbox
  have HRES := Lib.hid hres
  have HBW := Lib.hid hbw
  clear hres hbw
  skip
  refine range_law (gf := 42) (lb := #[.pointer (some ⟨w.heap.size + 1, 0, none⟩)]) ?hg ?eg HSEQ.out ?hb0 ?hSB ?hps
    (fun pre W => (∀ x ∈ pre, badLoose l0 x = false) ∧ W.heap[w.heap.size]? = some (.cells #[.bool false] 4 (0, 0))) (fun c pre W => c = .ret ∧ (∃ x ∈ foursL l0.length, badLoose l0 x = true) ∧ W.heap[w.heap.size]? = some (.cells #[.bool false] 4 (0, 0)))
    ?hI ?hIx ?h0 ?round ?done ?stop
  case hI => exact fun s => (Low.pure _ _).and (Low.heap _ _ (by omega) _)
  case hIx => exact fun c s => (Low.pure _ _).and ((Low.pure _ _).and (Low.heap _ _ (by omega) _))
  case h0 => exact ⟨by simp, HRES.out⟩
  case hg => rfl
  case eg => intro args w; simp [go_sem]
  case hb0 => exact Below.refl _ _
  case hSB => intro k hk; omega
  case hps => rintro x args W rfl; rfl
  case round =>
    rintro l pre ⟨a, b, e, d⟩ args W hl1 hl2 _ hI hx hk hen
    have hen' : args = #[.agg #[.int .i64 (a : Int), .int .i64 (b : Int), .int .i64 (e : Int), .int .i64 (d : Int)], .agg #[.int .i64 (l0.getD a 0), .int .i64 (l0.getD b 0), .int .i64 (l0.getD e 0), .int .i64 (l0.getD d 0)]] := hen
    clear hen
    have hbad : badLoose l0 (a, b, e, d) = tightB (l0.getD a 0) (l0.getD b 0) (l0.getD e 0) (l0.getD d 0) := rfl
    generalize l0.getD a 0 = va at hen' hbad
    generalize l0.getD b 0 = vb at hen' hbad
    generalize l0.getD e 0 = ve at hen' hbad
    generalize l0.getD d 0 = vd at hen' hbad
    subst hen'
    have HBAD := Lib.hid hbad
    have HI := Lib.hid hI
    have HX := Lib.hid hx
    have HK := Lib.hid hk
    clear hbad hI hx hk
    refine ⟨fun a1 W1 => a1 = { tmps := #[.slice A0 l0.length c0, undef, .pointer (some ⟨w.heap.size, 0, none⟩), undef, .pointer (some ⟨W.heap.size, 0, none⟩), .slice A0 l0.length c0, .func (.func 42) #[] #[.pointer (some ⟨w.heap.size + 1, 0, none⟩)], .agg #[.int .i64 (a : Int), .int .i64 (b : Int), .int .i64 (e : Int), .int .i64 (d : Int)], .agg #[.int .i64 va, .int .i64 vb, .int .i64 ve, .int .i64 vd], undef, undef], defers := [] } ∧ W1 = W.alloc (.cells #[.int .i64 va, .int .i64 vb, .int .i64 ve, .int .i64 vd] 44), ?_, ?_⟩
    · intro K hK
      gi_wp2_with (rw [Oper.semAt_eq _ _ _ (fun c h => by cases h)]; go_simp; try go_bits)
    · rintro a1 W1 ⟨rfl, rfl⟩
      refine ⟨KeepS.alloc _ _ _, fun W2 hk2 hs2 => ?_⟩
      have hblk : W2.heap[W.heap.size]? = some (.cells #[.int .i64 va, .int .i64 vb, .int .i64 ve, .int .i64 vd] 44 (0, 0)) := hk2.heap (heap_alloc_new W _) (by omega)
      have hn0 : W2.cell? ⟨W.heap.size, 0, none⟩ = some (.int .i64 va) := by simp [World.cell?, hblk]
      have hn1 : W2.cell? ⟨W.heap.size, 1, none⟩ = some (.int .i64 vb) := by simp [World.cell?, hblk]
      have hn2 : W2.cell? ⟨W.heap.size, 2, none⟩ = some (.int .i64 ve) := by simp [World.cell?, hblk]
      have hn3 : W2.cell? ⟨W.heap.size, 3, none⟩ = some (.int .i64 vd) := by simp [World.cell?, hblk]
      have hres2 : W2.heap[w.heap.size]? = some (.cells #[.bool false] 4 (0, 0)) := hk2.heap (blk_alloc HI.out.2 _) (by omega)
      have hs1' : w1.heap.size ≤ W.heap.size := HK.out.size
      have HR2 := Lib.hid hres2
      have HK2 := Lib.hid hk2
      clear hblk hres2 hk2
      cases htb : tightB va vb ve vd
      · have HT : Hid (badLoose l0 (a, b, e, d) = false) := Lib.hid (HBAD.out.trans htb)
        have HC := Lib.hid (fun w => htb ▸ tight_calls va vb ve vd w)
        clear htb
        gi_wp2_with (first | (refine ⟨trivial, rfl, (callsIn_wide.2 (HC.out _)).mono ?_⟩; rintro e w2 ⟨rfl, hb2⟩) | (rw [Oper.semAt_eq _ _ _ (fun c h => by cases h)]; go_simp; try go_bits))
        have HB2 := Lib.hid hb2
        clear hb2
        refine ⟨KeepS.of_below _ HB2.out, ?_, (HB2.out.block _ (blk_lt HR2.out)).trans HR2.out⟩
        intro x hx
        rcases List.mem_append.1 hx with hx | hx
        · exact HI.out.1 x hx
        · rw [List.mem_singleton.1 hx]; exact HT.out
      · have HT : Hid (badLoose l0 (a, b, e, d) = true) := Lib.hid (HBAD.out.trans htb)
        have HC := Lib.hid (fun w => htb ▸ tight_calls va vb ve vd w)
        clear htb
        gi_wp2_with (first | (refine ⟨trivial, rfl, (callsIn_wide.2 (HC.out _)).mono ?_⟩; rintro e w2 ⟨rfl, hb2⟩; (have hr2 := (hb2.block _ (blk_lt HR2.out)).trans HR2.out); (have hc2 : w2.cell? ⟨w.heap.size, 0, none⟩ = some (.bool false) := by simp [World.cell?, hr2]); (have hf2 : w2.frozen? ⟨w.heap.size, 0, none⟩ = false := by simp [World.frozen?, hr2]); (have HB2 := Lib.hid hb2); (have HR3 := Lib.hid hr2); clear hb2 hr2) | (rw [Oper.semAt_eq _ _ _ (fun c h => by cases h)]; go_simp; try go_bits))
        refine ⟨(KeepS.of_below _ HB2.out).trans (KeepS.setCell w2 ⟨w.heap.size, 0, none⟩ (.bool false) (.inl rfl)), rfl, ⟨_, HX.out, HT.out⟩, ?_⟩
        exact blk_put0 HR3.out
  case done =>
    rintro D W hD ⟨hI, hr⟩ hk hd
    have hh : looseB l0 = true := by unfold looseB; rw [List.all_eq_true]; intro x hx; rw [hI x hx]; rfl
    have HH := Lib.hid hh
    have HRR := Lib.hid hr
    have HK := Lib.hid hk
    have HD := Lib.hid hd
    have hc0 : W.cell? ⟨w.heap.size, 0, none⟩ = some (.bool false) := by simp [World.cell?, hr]
    have hf0 : W.frozen? ⟨w.heap.size, 0, none⟩ = false := by simp [World.frozen?, hr]
    clear hI hr hk hd hh
    gi_wp2
    clear hc0 hf0
    have hD0 : w.heap.size ≠ D := by omega
    have hK4 : (W.setCell ⟨w.heap.size, 0, none⟩ (.bool true)).heap[D]? = some (.deferred (some [])) := (Below.heap_setCell W ⟨w.heap.size, 0, none⟩ _ _ (by show D ≠ w.heap.size; omega)).trans HD.out
    refine ⟨by simp, .inl ⟨_, _, rfl, run_takeDeferred hK4, ?_⟩⟩
    have hc5 : ((W.setCell ⟨w.heap.size, 0, none⟩ (.bool true)).putObj D (.deferred none)).cell? ⟨w.heap.size, 0, none⟩ = some (.bool true) :=
      (World.cell?_of_block (World.putObj_heap_other (k := w.heap.size) (by omega))).trans (World.cell?_setCell_same' _ _ _ (by simp [World.cell?, HRR.out]))
    have k1 : KeepS (fun k => k = w.heap.size ∨ k = D) w1 W := HK.out.mono (fun _ _ h => .inl h)
    have k3 := (k1.trans (KeepS.setCell W ⟨w.heap.size, 0, none⟩ (.bool true) (.inl (.inl rfl)))).trans (KeepS.putObj _ D (.deferred none) (.inl (.inr rfl)))
    have hbf := HBW.out.trans (k3.below (B := w.heap.size) (by omega) (fun k h => by rcases h with h | h <;> omega))
    refine ⟨.bool true, ?_, ?_, hbf⟩
    · simp [results, Try.f29, go_sem, hc5]
    · rw [HH.out]
  case stop =>
    rintro D c pre W hD ⟨rfl, hbad, hres⟩ hk hd
    have hc0 : W.cell? ⟨w.heap.size, 0, none⟩ = some (.bool false) := by simp [World.cell?, hres]
    have HRR := Lib.hid hres
    have HK := Lib.hid hk
    have HD := Lib.hid hd
    have HB := Lib.hid hbad
    clear hres hk hd hbad
    have hh : looseB l0 = false := by
      obtain ⟨x, hx, hb⟩ := HB.out
      unfold looseB
      rw [List.all_eq_false]
      exact ⟨x, hx, by rw [hb]; simp⟩
    have HH := Lib.hid hh
    clear hh
    gi_wp2
    clear hc0
    have hD0 : w.heap.size ≠ D := by omega
    refine ⟨by simp, .inl ⟨_, _, rfl, run_takeDeferred HD.out, ?_⟩⟩
    have hc5 : (W.putObj D (.deferred none)).cell? ⟨w.heap.size, 0, none⟩ = some (.bool false) :=
      (World.cell?_of_block (World.putObj_heap_other (k := w.heap.size) (by omega))).trans (by simp [World.cell?, HRR.out])
    have k1 : KeepS (fun k => k = w.heap.size ∨ k = D) w1 W := HK.out.mono (fun _ _ h => .inl h)
    have k3 := k1.trans (KeepS.putObj _ D (.deferred none) (.inl (.inr rfl)))
    have hbf := HBW.out.trans (k3.below (B := w.heap.size) (by omega) (fun k h => by rcases h with h | h <;> omega))
    refine ⟨.bool false, ?_, ?_, hbf⟩
    · simp [results, Try.f29, go_sem, hc5]
    · rw [HH.out]
set_option maxRecDepth 100000 in
set_option maxHeartbeats 8000000 in
theorem fair_calls (A0 : Option Addr) (c0 : Nat) (l0 : List Int) (w : World) (hr0 : Kd.C (Kd.int .i64) w A0 l0.length l0) (hc0 : l0.length ≤ c0) (hlen : l0.length ≤ 1000000) :
    Calls Try.prog 30 #[.slice A0 l0.length c0] w fun e w' => e = .returned (.bool (fairB l0)) ∧ Below w.heap.size w w' := by
  have HR0 := Lib.hid hr0
  clear hr0
  refine (callsIn_wide (n := 0)).1 ?_
  refine callsIn_of_wp_marks Try.func30 rfl trivial ?_
  simp only [Try.ntmps30, List.size_toArray, List.length_cons, List.length_nil, Nat.reduceAdd, Nat.reduceSub, Array.replicate_succ, Array.replicate_zero, List.push_toArray, List.append_toArray, List.nil_append, List.cons_append]
  gi_wp2
  refine ⟨trivial, rfl, (callsIn_wide.2 (fours_calls _ _ _ _)).mono ?_⟩
  rintro e w1 ⟨rfl, rfl⟩
  gi_wp2
  obtain ⟨w1, hw1⟩ : ∃ w1, w1 = (w.alloc (.cells #[.bool false] 4)).alloc (.cells #[.slice A0 l0.length c0] 29) := ⟨_, rfl⟩
  have HW1 := Lib.hid hw1
  have hs1 : w1.heap.size = w.heap.size + 2 := by rw [hw1]; simp
  have hbw : Below w.heap.size w w1 := by rw [hw1]; exact below_alloc (below_alloc (Below.refl _ _) _) _
  have hbox : w1.heap[w.heap.size + 1]? = some (.cells #[.slice A0 l0.length c0] 29 (0, 0)) := by rw [hw1]; have := heap_alloc_new (w.alloc (.cells #[.bool false] 4)) (.cells #[.slice A0 l0.length c0] 29); simpa using this
  have hres : w1.heap[w.heap.size]? = some (.cells #[.bool false] 4 (0, 0)) := by rw [hw1]; exact blk_alloc (by simpa using heap_alloc_new w (.cells #[.bool false] 4)) _
  have hread : Kd.C (Kd.int .i64) w1 A0 l0.length l0 := Kd.C_below HR0.out hbw
  have hlt : ∀ ad, A0 = some ad → 0 < l0.length → ¬ (ad.block = w.heap.size) := fun ad e hp => by
    obtain ⟨ad', e', hc⟩ := fours_at HR0.out hp
    rw [e] at e'
    obtain rfl := Option.some.inj e'
    have := World.block_lt_of_cell? w _ (hc 0 hp)
    have e2 : (ad.add 0).block = ad.block := by unfold Addr.add; split <;> rfl
    rw [e2] at this
    omega
  have hseq := fours_iter A0 l0 l0.length c0 (w.heap.size + 1) rfl w1 (fun k => k = w.heap.size) hbox hread (by simp) hlt hlen
  have HSEQ := Lib.hid hseq
  rw [← hw1]
  clear hw1 hseq hlt hread hbox
  have HRES := Lib.hid hres
  have HBW := Lib.hid hbw
  clear hres hbw
  skip
  refine range_law (gf := 42) (lb := #[.pointer (some ⟨w.heap.size + 1, 0, none⟩)]) ?hg ?eg HSEQ.out ?hb0 ?hSB ?hps
    (fun pre W => (∀ x ∈ pre, badFair l0 x = false) ∧ W.heap[w.heap.size]? = some (.cells #[.bool false] 4 (0, 0))) (fun c pre W => c = .ret ∧ (∃ x ∈ foursL l0.length, badFair l0 x = true) ∧ W.heap[w.heap.size]? = some (.cells #[.bool false] 4 (0, 0)))
    ?hI ?hIx ?h0 ?round ?done ?stop
  case hI => exact fun s => (Low.pure _ _).and (Low.heap _ _ (by omega) _)
  case hIx => exact fun c s => (Low.pure _ _).and ((Low.pure _ _).and (Low.heap _ _ (by omega) _))
  case h0 => exact ⟨by simp, HRES.out⟩
  case hg => rfl
  case eg => intro args w; simp [go_sem]
  case hb0 => exact Below.refl _ _
  case hSB => intro k hk; omega
  case hps => rintro x args W rfl; rfl
  case round =>
    rintro l pre ⟨a, b, e, d⟩ args W hl1 hl2 _ hI hx hk hen
    have hen' : args = #[.agg #[.int .i64 (a : Int), .int .i64 (b : Int), .int .i64 (e : Int), .int .i64 (d : Int)], .agg #[.int .i64 (l0.getD a 0), .int .i64 (l0.getD b 0), .int .i64 (l0.getD e 0), .int .i64 (l0.getD d 0)]] := hen
    clear hen
    have hbad : badFair l0 (a, b, e, d) = (decide (b + 1 = e) && unfairB (l0.getD a 0) (l0.getD b 0) (l0.getD e 0) (l0.getD d 0)) := rfl
    generalize l0.getD a 0 = va at hen' hbad
    generalize l0.getD b 0 = vb at hen' hbad
    generalize l0.getD e 0 = ve at hen' hbad
    generalize l0.getD d 0 = vd at hen' hbad
    subst hen'
    have HBAD := Lib.hid hbad
    have HI := Lib.hid hI
    have HX := Lib.hid hx
    have HK := Lib.hid hk
    clear hbad hI hx hk
    refine ⟨fun a1 W1 => a1 = { tmps := #[.slice A0 l0.length c0, undef, .pointer (some ⟨w.heap.size, 0, none⟩), (.pointer (some ⟨W.heap.size, 0, none⟩)), (.pointer (some ⟨W.heap.size + 1, 0, none⟩)), .slice A0 l0.length c0, .func (.func 42) #[] #[.pointer (some ⟨w.heap.size + 1, 0, none⟩)], .agg #[.int .i64 (a : Int), .int .i64 (b : Int), .int .i64 (e : Int), .int .i64 (d : Int)], .agg #[.int .i64 va, .int .i64 vb, .int .i64 ve, .int .i64 vd], undef, undef, undef, undef, undef, undef, undef, undef, undef, undef], defers := [] } ∧ W1 = (W.alloc (.cells #[.int .i64 (a : Int), .int .i64 (b : Int), .int .i64 (e : Int), .int .i64 (d : Int)] 44)).alloc (.cells #[.int .i64 va, .int .i64 vb, .int .i64 ve, .int .i64 vd] 44), ?_, ?_⟩
    · intro K hK
      gi_wp2_with (rw [Oper.semAt_eq _ _ _ (fun c h => by cases h)]; go_simp; try go_bits)
    · rintro a1 W1 ⟨rfl, rfl⟩
      refine ⟨(KeepS.alloc _ _ _).trans (KeepS.alloc _ _ _), fun W2 hk2 hs2 => ?_⟩
      have hblk : W2.heap[W.heap.size + 1]? = some (.cells #[.int .i64 va, .int .i64 vb, .int .i64 ve, .int .i64 vd] 44 (0, 0)) := hk2.heap (by simpa using heap_alloc_new (W.alloc (.cells #[.int .i64 (a : Int), .int .i64 (b : Int), .int .i64 (e : Int), .int .i64 (d : Int)] 44)) _) (by omega)
      have hblk0 : W2.heap[W.heap.size]? = some (.cells #[.int .i64 (a : Int), .int .i64 (b : Int), .int .i64 (e : Int), .int .i64 (d : Int)] 44 (0, 0)) := hk2.heap (blk_alloc (heap_alloc_new W _) _) (by omega)
      have hn0 : W2.cell? ⟨W.heap.size + 1, 0, none⟩ = some (.int .i64 va) := by simp [World.cell?, hblk]
      have hn1 : W2.cell? ⟨W.heap.size + 1, 1, none⟩ = some (.int .i64 vb) := by simp [World.cell?, hblk]
      have hn2 : W2.cell? ⟨W.heap.size + 1, 2, none⟩ = some (.int .i64 ve) := by simp [World.cell?, hblk]
      have hn3 : W2.cell? ⟨W.heap.size + 1, 3, none⟩ = some (.int .i64 vd) := by simp [World.cell?, hblk]
      have hp1 : W2.cell? ⟨W.heap.size, 1, none⟩ = some (.int .i64 (b : Int)) := by simp [World.cell?, hblk0]
      have hp2 : W2.cell? ⟨W.heap.size, 2, none⟩ = some (.int .i64 (e : Int)) := by simp [World.cell?, hblk0]
      obtain ⟨hab, hbe, hed, hdn⟩ := (mem_foursL _ a b e d).1 HX.out
      have hres2 : W2.heap[w.heap.size]? = some (.cells #[.bool false] 4 (0, 0)) := hk2.heap (blk_alloc (blk_alloc HI.out.2 _) _) (by omega)
      have hs1' : w1.heap.size ≤ W.heap.size := HK.out.size
      have HR2 := Lib.hid hres2
      have HK2 := Lib.hid hk2
      clear hblk hblk0 hres2 hk2
      by_cases hbe1 : b + 1 = e
      · subst hbe1
        cases htb : unfairB va vb ve vd
        · have HT : Hid (badFair l0 (a, b, b + 1, d) = false) := Lib.hid (HBAD.out.trans (by rw [htb]; simp))
          have HC := Lib.hid (fun w => htb ▸ unfair_calls va vb ve vd w)
          clear htb
          gi_wp2_with (first | (refine ⟨trivial, rfl, (callsIn_wide.2 (HC.out _)).mono ?_⟩; rintro e w2 ⟨rfl, hb2⟩) | (rw [Oper.semAt_eq _ _ _ (fun c h => by cases h)]; go_simp; try go_bits))
          have HB2 := Lib.hid hb2
          clear hb2
          refine ⟨KeepS.of_below _ HB2.out, ?_, (HB2.out.block _ (blk_lt HR2.out)).trans HR2.out⟩
          intro x hx
          rcases List.mem_append.1 hx with hx | hx
          · exact HI.out.1 x hx
          · rw [List.mem_singleton.1 hx]; exact HT.out
        · have HT : Hid (badFair l0 (a, b, b + 1, d) = true) := Lib.hid (HBAD.out.trans (by rw [htb]; simp))
          have HC := Lib.hid (fun w => htb ▸ unfair_calls va vb ve vd w)
          clear htb
          gi_wp2_with (first | (refine ⟨trivial, rfl, (callsIn_wide.2 (HC.out _)).mono ?_⟩; rintro e w2 ⟨rfl, hb2⟩; (have hr2 := (hb2.block _ (blk_lt HR2.out)).trans HR2.out); (have hc2 : w2.cell? ⟨w.heap.size, 0, none⟩ = some (.bool false) := by simp [World.cell?, hr2]); (have hf2 : w2.frozen? ⟨w.heap.size, 0, none⟩ = false := by simp [World.frozen?, hr2]); (have HB2 := Lib.hid hb2); (have HR3 := Lib.hid hr2); clear hb2 hr2) | (rw [Oper.semAt_eq _ _ _ (fun c h => by cases h)]; go_simp; try go_bits))
          refine ⟨(KeepS.of_below _ HB2.out).trans (KeepS.setCell w2 ⟨w.heap.size, 0, none⟩ (.bool false) (.inl rfl)), rfl, ⟨_, HX.out, HT.out⟩, ?_⟩
          exact blk_put0 HR3.out
      · have HT : Hid (badFair l0 (a, b, e, d) = false) := Lib.hid (HBAD.out.trans (by simp [hbe1]))
        have hne : (((b : Int) + 1) == (e : Int)) = false := by simp; omega
        gi_wp2_with (first | (rw [Oper.semAt_eq _ _ _ (fun c h => by cases h)]; go_simp; try go_bits) | (refine ⟨(trivial : Fence.wide.fn _), ?_⟩; (first | (refine hK _ _ ?_; clear hK) | skip)))
        refine ⟨KeepS.refl _ _, ?_, HR2.out⟩
        intro x hx
        rcases List.mem_append.1 hx with hx | hx
        · exact HI.out.1 x hx
        · rw [List.mem_singleton.1 hx]; exact HT.out
  case done =>
    rintro D W hD ⟨hI, hr⟩ hk hd
    have hh : fairB l0 = true := by unfold fairB; rw [List.all_eq_true]; intro x hx; rw [hI x hx]; rfl
    have HH := Lib.hid hh
    have HRR := Lib.hid hr
    have HK := Lib.hid hk
    have HD := Lib.hid hd
    have hc0 : W.cell? ⟨w.heap.size, 0, none⟩ = some (.bool false) := by simp [World.cell?, hr]
    have hf0 : W.frozen? ⟨w.heap.size, 0, none⟩ = false := by simp [World.frozen?, hr]
    clear hI hr hk hd hh
    gi_wp2
    clear hc0 hf0
    have hD0 : w.heap.size ≠ D := by omega
    have hK4 : (W.setCell ⟨w.heap.size, 0, none⟩ (.bool true)).heap[D]? = some (.deferred (some [])) := (Below.heap_setCell W ⟨w.heap.size, 0, none⟩ _ _ (by show D ≠ w.heap.size; omega)).trans HD.out
    refine ⟨by simp, .inl ⟨_, _, rfl, run_takeDeferred hK4, ?_⟩⟩
    have hc5 : ((W.setCell ⟨w.heap.size, 0, none⟩ (.bool true)).putObj D (.deferred none)).cell? ⟨w.heap.size, 0, none⟩ = some (.bool true) :=
      (World.cell?_of_block (World.putObj_heap_other (k := w.heap.size) (by omega))).trans (World.cell?_setCell_same' _ _ _ (by simp [World.cell?, HRR.out]))
    have k1 : KeepS (fun k => k = w.heap.size ∨ k = D) w1 W := HK.out.mono (fun _ _ h => .inl h)
    have k3 := (k1.trans (KeepS.setCell W ⟨w.heap.size, 0, none⟩ (.bool true) (.inl (.inl rfl)))).trans (KeepS.putObj _ D (.deferred none) (.inl (.inr rfl)))
    have hbf := HBW.out.trans (k3.below (B := w.heap.size) (by omega) (fun k h => by rcases h with h | h <;> omega))
    refine ⟨.bool true, ?_, ?_, hbf⟩
    · simp [results, Try.f30, go_sem, hc5]
    · rw [HH.out]
  case stop =>
    rintro D c pre W hD ⟨rfl, hbad, hres⟩ hk hd
    have hc0 : W.cell? ⟨w.heap.size, 0, none⟩ = some (.bool false) := by simp [World.cell?, hres]
    have HRR := Lib.hid hres
    have HK := Lib.hid hk
    have HD := Lib.hid hd
    have HB := Lib.hid hbad
    clear hres hk hd hbad
    have hh : fairB l0 = false := by
      obtain ⟨x, hx, hb⟩ := HB.out
      unfold fairB
      rw [List.all_eq_false]
      exact ⟨x, hx, by rw [hb]; simp⟩
    have HH := Lib.hid hh
    clear hh
    gi_wp2
    clear hc0
    have hD0 : w.heap.size ≠ D := by omega
    refine ⟨by simp, .inl ⟨_, _, rfl, run_takeDeferred HD.out, ?_⟩⟩
    have hc5 : (W.putObj D (.deferred none)).cell? ⟨w.heap.size, 0, none⟩ = some (.bool false) :=
      (World.cell?_of_block (World.putObj_heap_other (k := w.heap.size) (by omega))).trans (by simp [World.cell?, HRR.out])
    have k1 : KeepS (fun k => k = w.heap.size ∨ k = D) w1 W := HK.out.mono (fun _ _ h => .inl h)
    have k3 := k1.trans (KeepS.putObj _ D (.deferred none) (.inl (.inr rfl)))
    have hbf := HBW.out.trans (k3.below (B := w.heap.size) (by omega) (fun k h => by rcases h with h | h <;> omega))
    refine ⟨.bool false, ?_, ?_, hbf⟩
    · simp [results, Try.f30, go_sem, hc5]
    · rw [HH.out]
def impl_fair.f (l : List Int) : Option Bool := if l.length ≤ 1000000 then some (fairB l) else none
def impl_loose.f (l : List Int) : Option Bool := if l.length ≤ 1000000 then some (looseB l) else none
theorem impl_fair.calls (A0 : Option Addr) (c0 : Nat) (l0 : List Int) (r : Bool) (w : World) (hr0 : Kd.C (Kd.int .i64) w A0 l0.length l0) (hc0 : l0.length ≤ c0) (h : impl_fair.f l0 = some r) :
    Calls Try.prog 30 #[.slice A0 l0.length c0] w fun e w' => e = .returned (.bool r) ∧ Below w.heap.size w w' := by
  unfold impl_fair.f at h
  by_cases hl : l0.length ≤ 1000000
  · rw [if_pos hl] at h
    obtain rfl := Option.some.inj h
    exact fair_calls A0 c0 l0 w hr0 hc0 hl
  · rw [if_neg hl] at h; cases h
theorem impl_loose.calls (A0 : Option Addr) (c0 : Nat) (l0 : List Int) (r : Bool) (w : World) (hr0 : Kd.C (Kd.int .i64) w A0 l0.length l0) (hc0 : l0.length ≤ c0) (h : impl_loose.f l0 = some r) :
    Calls Try.prog 29 #[.slice A0 l0.length c0] w fun e w' => e = .returned (.bool r) ∧ Below w.heap.size w w' := by
  unfold impl_loose.f at h
  by_cases hl : l0.length ≤ 1000000
  · rw [if_pos hl] at h
    obtain rfl := Option.some.inj h
    exact loose_calls A0 c0 l0 w hr0 hc0 hl
  · rw [if_neg hl] at h; cases h
end Go.Proofs.Ytgehkabfjpifiaa.S

/- everyPlan: its iterator's contract. -/
import Derived.Test.YtjbjpkphepfldaaFillD
import Derived.Test.YtjbjpkphepfldaaQk1
import Derived.RegionTactic
import Derived.Laws.EntriesVeiled
namespace Go.Proofs.Ytjbjpkphepfldaa.S
open Go.RowKit Go.Proofs.YtjbjpkphepfldaaW.PrintWords Go.Proofs.YtjbjpkphepfldaaW.PrintMore
set_option linter.unusedVariables false
set_option linter.unusedSimpArgs false

set_option maxRecDepth 100000 in
set_option maxHeartbeats 1000000 in
theorem everyPlan_calls (H Wd : Nat) (w : World) :
    Calls Try.prog 24 #[.int .i64 (H : Nat), .int .i64 (Wd : Nat)] w fun e w' => e = .returned (.func (.func 30) #[] #[.pointer (some ⟨w.heap.size, 0, none⟩), .pointer (some ⟨w.heap.size + 1, 0, none⟩)]) ∧ w' = (w.alloc (.cells #[.int .i64 (H : Nat)] 3)).alloc (.cells #[.int .i64 (Wd : Nat)] 3) := by
  have hmf : ∀ (fn : Fn) (first cap : Array Value) (w : World), (Instr.makeFunc fn first cap).run Try.prog w = .ok (.func fn first cap) w := fun _ _ _ _ => rfl
  go_enter Try.func24, Try.ntmps24
  go_wp2
  go_ret
  exact ⟨rfl, rfl⟩

/-- The empty grid. -/
def bare (H Wd : Nat) : List (List Int) := List.replicate H (List.replicate Wd (-1))

set_option maxRecDepth 100000 in
set_option maxHeartbeats 8000000 in
theorem plans_iter (H Wd n bh bw : Nat) (w : World) (S : Nat → Prop) (hH : H ≤ 1000) (hW : Wd ≤ 1000) (hbh : w.heap[bh]? = some (.cells #[.int .i64 (H : Nat)] 3 (0, 0))) (hbw : w.heap[bw]? = some (.cells #[.int .i64 (Wd : Nat)] 3 (0, 0))) (hS1 : ¬ S bh) (hS2 : ¬ S bw) (hS3 : ∀ k, S k → k < w.heap.size)
    (xs : List Nat) (g' : List (List Int)) (hfill : fillM H Wd n 0 (bare H Wd) = some (xs, g')) :
    R.Iter1 Try.prog 30 #[.pointer (some ⟨bh, 0, none⟩), .pointer (some ⟨bw, 0, none⟩)] xs EnPlan S w := by
  intro l J W hl hlW hW0 hJ hY h0
  have lh : bh < w.heap.size := blk_lt hbh
  have lw : bw < w.heap.size := blk_lt hbw
  have hws := hW0.size
  have hbh1 : W.heap[bh]? = some (.cells #[.int .i64 (H : Nat)] 3 (0, 0)) := (hW0.block bh lh).trans hbh
  have hbw1 : W.heap[bw]? = some (.cells #[.int .i64 (Wd : Nat)] 3 (0, 0)) := (hW0.block bw lw).trans hbw
  have HBH := Lib.hid hbh1
  have HBW := Lib.hid hbw1
  have HJ := Lib.hid hJ
  have HYY := Lib.hid hY
  have H0 := Lib.hid h0
  have HF := Lib.hid hfill
  have HS1 := Lib.hid hS1
  have HS2 := Lib.hid hS2
  have HS3 := Lib.hid hS3
  have hmf : ∀ (fn : Fn) (first cap : Array Value) (w : World), (Instr.makeFunc fn first cap).run Try.prog w = .ok (.func fn first cap) w := fun _ _ _ _ => rfl
  have hen := enters_of (P := Try.prog) Try.func33 rfl rfl
  show Calls Try.prog 30 #[.func (.yield l) #[] #[], .pointer (some ⟨bh, 0, none⟩), .pointer (some ⟨bw, 0, none⟩)] W _
  have x1 : (W.alloc (.cells #[.func (.yield l) #[] #[]] 35)).cell? ⟨bh, 0, none⟩ = some (.int .i64 (H : Nat)) := (blk_cell (blk_alloc hbh1 _) 0).trans rfl
  have x2 : (W.alloc (.cells #[.func (.yield l) #[] #[]] 35)).cell? ⟨bw, 0, none⟩ = some (.int .i64 (Wd : Nat)) := (blk_cell (blk_alloc hbw1 _) 0).trans rfl
  clear hbh hbw hbh1 hbw1 hJ hY h0 hfill hS1 hS2 hS3 hW0
  go_enter Try.func30, Try.ntmps30
  go_wp2_with fail
  obtain ⟨W1, hW1⟩ : ∃ W1, W1 = W.alloc (.cells #[.func (.yield l) #[] #[]] 35) := ⟨_, rfl⟩
  rw [← hW1] at x1 x2 ⊢
  have HV1 : Hid (W1.heap[W.heap.size]? = some (.cells #[.func (.yield l) #[] #[]] 35 (0, 0))) := Lib.hid (by rw [hW1]; exact new_at _ _)
  have HB1 : Hid (Below W.heap.size W W1) := Lib.hid (by rw [hW1]; exact below_alloc (Below.refl _ _) _)
  have HZ1 : Hid (W1.heap.size = W.heap.size + 1) := Lib.hid (by rw [hW1]; simp)
  clear hW1
  refine (blankc_calls H Wd hH hW W1).mono ?_
  rintro e w2 ⟨o, b, vs, rfl, hbp⟩
  have HBP := Lib.hid hbp
  clear hbp x1 x2
  go_wp2_with fail
  obtain ⟨W4, hW4⟩ : ∃ W4, W4 = (w2.alloc (Obj.cells #[.slice (some ⟨o, 0, none⟩) H H] 49)).alloc (Obj.cells #[.func (.func 33) #[] #[.pointer (some ⟨w2.heap.size, 0, none⟩), .pointer (some ⟨W.heap.size, 0, none⟩), .pointer (some ⟨bw, 0, none⟩), .pointer (some ⟨bh, 0, none⟩), .pointer (some ⟨w2.heap.size + 1, 0, none⟩)]] 61) := ⟨_, rfl⟩
  rw [← hW4]
  have hb24 : Below w2.heap.size w2 W4 := by rw [hW4]; exact below_alloc (below_alloc (Below.refl _ _) _) _
  have hn1 : W4.heap[w2.heap.size]? = some (.cells #[.slice (some ⟨o, 0, none⟩) H H] 49 (0, 0)) := by rw [hW4]; exact blk_alloc (new_at _ _) _
  have hn2 : W4.heap[w2.heap.size + 1]? = some (.cells #[.func (.func 33) #[] #[.pointer (some ⟨w2.heap.size, 0, none⟩), .pointer (some ⟨W.heap.size, 0, none⟩), .pointer (some ⟨bw, 0, none⟩), .pointer (some ⟨bh, 0, none⟩), .pointer (some ⟨w2.heap.size + 1, 0, none⟩)]] 61 (0, 0)) := by
    rw [hW4]
    have e : w2.heap.size + 1 = (w2.alloc (Obj.cells #[.slice (some ⟨o, 0, none⟩) H H] 49)).heap.size := by simp
    rw [e]
    exact new_at _ _
  clear hW4
  have z1 := HZ1.out
  have hbp := HBP.out
  have hb12 : Below W1.heap.size W1 W4 := hbp.bw.trans (hb24.mono hbp.bw.size)
  have hbW4 : Below W.heap.size W W4 := HB1.out.trans (hb12.mono HB1.out.size)
  have s12 := hbp.bw.size
  have s24 := hb24.size
  obtain ⟨K, hK⟩ : ∃ K : Bx, K = { o := o, H := H, Wd := Wd, bc := w2.heap.size, bv := W.heap.size, bw := bw, bh := bh, bf := w2.heap.size + 1, l := l, base := W1.heap.size, b := b } := ⟨_, rfl⟩
  have hrow : ∀ i, i < H → W1.heap.size ≤ b i ∧ b i < w2.heap.size ∧ b i ≠ o := fun i hi => ⟨(hbp.dn i hi).2.2.1, blk_lt (hbp.dn i hi).2.1, (hbp.dn i hi).2.2.2⟩
  have ho : W1.heap.size ≤ o ∧ o < w2.heap.size := ⟨hbp.ob, blk_lt hbp.out⟩
  have hnS : ∀ k, S k ∨ k = l → k < W.heap.size := fun k h => by
    rcases h with h | h
    · have := HS3.out k h; omega
    · omega
  have hnS2 : ∀ k, S k ∨ k = l → k ≠ bw ∧ k ≠ bh := fun k h => by
    rcases h with h | h
    · exact ⟨fun e => HS2.out (e ▸ h), fun e => HS1.out (e ▸ h)⟩
    · exact ⟨by omega, by omega⟩
  have ok : K.Ok S := by
    subst hK
    refine ⟨hH, hW, fun k hk => ?_, fun k hk => by have := hnS k hk; simp only; omega, fun i hi => (hrow i hi).1, ho.1⟩
    simp only [Bx.Q] at hk ⊢
    rcases hk with hk | hk | ⟨i, hi, rfl⟩
    · have := hnS k (.inl hk)
      have := hnS2 k (.inl hk)
      exact ⟨by omega, by omega, this.1, this.2, by omega, by omega⟩
    · have := hnS k (.inr hk)
      have := hnS2 k (.inr hk)
      exact ⟨by omega, by omega, this.1, this.2, by omega, by omega⟩
    · obtain ⟨r1, r2, r3⟩ := hrow i hi
      exact ⟨by omega, by omega, by omega, by omega, by omega, r3⟩
  have hst : FSt K (bare H Wd) W4 := by
    subst hK
    exact ⟨(GM.of_blank hbp).below hb24, hn1, (hb12.block _ (by simp only; omega)).trans HV1.out, (hbW4.block _ (by simp only; omega)).trans HBW.out, (hbW4.block _ (by simp only; omega)).trans HBH.out, hn2, by simp only; omega⟩
  have hj4 : J [] W4 := HJ.out _ _ _ H0.out (keep_below hbW4)
  have FC := fill_calls K S ok J W.heap.size (by subst hK; simp only; omega) HJ.out xs (fun pre x args w hj hx hs he => by subst hK; exact HYY.out pre x args w hj hx hs he) n 0 (bare H Wd) xs g' [] W4 (by subst hK; exact HF.out) (fun x hx => hx) hst hj4
  have hQ : ∀ k, k < W.heap.size → K.Q S k → S k ∨ k = l := fun k hk h => by
    subst hK
    simp only [Bx.Q] at h
    rcases h with h | h | ⟨i, hi, rfl⟩
    · exact .inl h
    · exact .inr h
    · have := (hrow i hi).1; omega
  have HQ := Lib.hid hQ
  have HB4 := Lib.hid hbW4
  have hFC : Calls Try.prog 33 #[.int .i64 0, .pointer (some ⟨w2.heap.size, 0, none⟩), .pointer (some ⟨W.heap.size, 0, none⟩), .pointer (some ⟨bw, 0, none⟩), .pointer (some ⟨bh, 0, none⟩), .pointer (some ⟨w2.heap.size + 1, 0, none⟩)] W4 (FPost K S J [] xs g' W4) := by
    subst hK
    exact FC
  clear FC hQ hst hj4 ok hnS hnS2 ho hrow hb12 hbW4 hb24 hn1 hn2 hbp s12 s24 z1 HBP HZ1 HB1 HV1 hK
  refine hFC.mono ?_
  rintro e w5 ⟨rfl, -, hk5, hj5⟩
  have HK5 := Lib.hid hk5
  have HJ5 := Lib.hid hj5
  clear hk5 hj5 hFC
  go_wp2
  go_end0
  exact ⟨⟨_, rfl⟩, toR (((KeepS.of_below (K.Q S) HB4.out).trans HK5.out).mono (fun k hk h => HQ.out k hk h)), HJ5.out⟩
end Go.Proofs.Ytjbjpkphepfldaa.S

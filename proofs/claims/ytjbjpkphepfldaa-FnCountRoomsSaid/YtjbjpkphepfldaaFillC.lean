/- everyPlan: fill, by induction over what is left. -/
import Derived.Test.YtjbjpkphepfldaaFillB
import Derived.Test.YtjbjpkphepfldaaRange1
import Derived.TacticsInMore
import Derived.RegionIn
import Derived.LoopNIn
import Derived.LoopIn
import Derived.OwnWalkIn
import Derived.Outline
namespace Go.Proofs.Ytjbjpkphepfldaa.S
open Go.RowKit Go.Proofs.YtjbjpkphepfldaaW.PrintWords Go.Proofs.YtjbjpkphepfldaaW.PrintMore Go.Proofs.Ytjbjpkphepfldaa.Qr
set_option linter.unusedVariables false
set_option linter.unusedSimpArgs false

theorem toR {S : Nat → Prop} {W W' : World} (h : KeepS S W W') : R.KeepS S W W' := ⟨h.size, h.same, h.os, h.tape, h.output⟩
theorem ofR {S : Nat → Prop} {W W' : World} (h : R.KeepS S W W') : KeepS S W W' := ⟨h.size, h.same, h.os, h.tape, h.output⟩

/-- How a round is handed a plan: its rooms are so many. -/
def EnPlan (x : Nat) (args : Array Value) (W : World) : Prop :=
  ∃ fb A c, args = #[.pointer (some ⟨fb, 0, none⟩)] ∧ W.cell? ⟨fb, 1, none⟩ = some (.slice A x c)
theorem FloorAt.rooms {base : Nat} {w : World} {v : Value} {nums : List (List Int)} {rooms : List Rc} (h : FloorAt base w v nums rooms) : EnPlan rooms.length #[v] w := by
  obtain ⟨fb, cv, rv, rfl, hfb, hh, _, ho⟩ := h
  obtain ⟨A9, cap9, rfl⟩ : ∃ A c, rv = .slice A rooms.length c := by
    obtain ⟨_, ⟨e, e2⟩ | ⟨g', cap', cur, e, _⟩⟩ := ho
    · exact ⟨none, 0, by rw [e2]; exact e⟩
    · exact ⟨_, cap', e⟩
  exact ⟨fb, A9, cap9, rfl, (blk_cell hh 1).trans rfl⟩

/-- The numbers of the iterator's blocks. -/
structure Bx where
  (o H Wd bc bv bw bh bf l base : Nat)
  b : Nat → Nat
def Bx.args (K : Bx) : Array Value := #[.pointer (some ⟨K.bc, 0, none⟩), .pointer (some ⟨K.bv, 0, none⟩), .pointer (some ⟨K.bw, 0, none⟩), .pointer (some ⟨K.bh, 0, none⟩), .pointer (some ⟨K.bf, 0, none⟩)]
/-- What may change: what a round may write, and the grid's rows. -/
def Bx.Q (K : Bx) (S : Nat → Prop) (k : Nat) : Prop := S k ∨ k = K.l ∨ ∃ i, i < K.H ∧ k = K.b i
structure Bx.Ok (K : Bx) (S : Nat → Prop) : Prop where
  h1 : K.H ≤ 1000
  h2 : K.Wd ≤ 1000
  nQ : ∀ k, K.Q S k → k ≠ K.bc ∧ k ≠ K.bv ∧ k ≠ K.bw ∧ k ≠ K.bh ∧ k ≠ K.bf ∧ k ≠ K.o
  nS : ∀ k, S k ∨ k = K.l → k < K.base
  nb : ∀ i, i < K.H → K.base ≤ K.b i
  ob : K.base ≤ K.o
/-- Between two steps: the grid is g. -/
structure FSt (K : Bx) (g : List (List Int)) (W : World) : Prop where
  gm : GM K.base K.o K.H K.Wd K.b g W
  bxc : W.heap[K.bc]? = some (.cells #[.slice (some ⟨K.o, 0, none⟩) K.H K.H] 49 (0, 0))
  bxv : W.heap[K.bv]? = some (.cells #[.func (.yield K.l) #[] #[]] 35 (0, 0))
  bxw : W.heap[K.bw]? = some (.cells #[.int .i64 (K.Wd : Nat)] 3 (0, 0))
  bxh : W.heap[K.bh]? = some (.cells #[.int .i64 (K.H : Nat)] 3 (0, 0))
  bxf : W.heap[K.bf]? = some (.cells #[.func (.func 33) #[] K.args] 61 (0, 0))
  sz : K.base ≤ W.heap.size
theorem FSt.go {K : Bx} {S : Nat → Prop} {g g' : List (List Int)} {W W' : World} (h : FSt K g W) (ok : K.Ok S) (hk : KeepS (K.Q S) W W') (hg : GM K.base K.o K.H K.Wd K.b g' W') : FSt K g' W' where
  gm := hg
  bxc := hk.heap h.bxc (fun e => (ok.nQ _ e).1 rfl)
  bxv := hk.heap h.bxv (fun e => (ok.nQ _ e).2.1 rfl)
  bxw := hk.heap h.bxw (fun e => (ok.nQ _ e).2.2.1 rfl)
  bxh := hk.heap h.bxh (fun e => (ok.nQ _ e).2.2.2.1 rfl)
  bxf := hk.heap h.bxf (fun e => (ok.nQ _ e).2.2.2.2.1 rfl)
  sz := Nat.le_trans h.sz hk.size
theorem FSt.below {K : Bx} {S : Nat → Prop} {g : List (List Int)} {W W' : World} (h : FSt K g W) (ok : K.Ok S) (hb : Below W.heap.size W W') : FSt K g W' :=
  h.go ok (KeepS.of_below _ hb) (h.gm.below hb)
theorem FSt.round {K : Bx} {S : Nat → Prop} {g : List (List Int)} {W W' : World} (h : FSt K g W) (ok : K.Ok S) (hk : KeepS (fun k => S k ∨ k = K.l) W W') : FSt K g W' :=
  h.go ok (hk.mono (fun k _ e => e.elim .inl (fun e => .inr (.inl e)))) (h.gm.keep hk (fun e => by have := ok.nS _ e; have := ok.ob; omega) (fun i hi e => by have := ok.nS _ e; have := ok.nb i hi; omega))
theorem keepQ_rows {K : Bx} {S : Nat → Prop} {W W' : World} (h : KeepS (fun k => ∃ i, i < K.H ∧ k = K.b i) W W') : KeepS (K.Q S) W W' := h.mono (fun k _ e => .inr (.inr e))
theorem keepQ_low {K : Bx} {S : Nat → Prop} {W W' : World} {B : Nat} (h : KeepS (fun k => ∃ i, i < K.H ∧ k = K.b i) W W') (ok : K.Ok S) (hB : B ≤ K.base) : R.KeepS (fun k => B ≤ k) W W' := toR (h.mono (fun k _ ⟨i, hi, e⟩ => by have := ok.nb i hi; omega))
theorem keep_below {W W' : World} {B : Nat} (h : Below W.heap.size W W') : R.KeepS (fun k => B ≤ k) W W' := toR (KeepS.of_below _ h)

set_option maxRecDepth 100000 in
set_option maxHeartbeats 4000000 in
theorem leaf_calls (K : Bx) (S : Nat → Prop) (ok : K.Ok S) (J : List Nat → World → Prop) (B : Nat) (hB : B ≤ K.base) (hJ : ∀ s, R.Low B (J s)) (room : Nat) (g : List (List Int)) (pre : List Nat) (W1 : World)
    (hf : frow 0 g = none) (hfi : fine g = true) (hlo : ∀ l ∈ g, ∀ x ∈ l, 0 ≤ x ∧ x ≤ 1000) (hst : FSt K g W1) (hj : J pre W1)
    (hY : ∀ args w, J pre w → B ≤ w.heap.size → EnPlan (roomsOf g).length args w → YieldAt Fence.wide 0 Try.prog K.l args w fun e W' => R.KeepS (fun k => S k ∨ k = K.l) w W' ∧ e = .returned (.bool true) ∧ J (pre ++ [(roomsOf g).length]) W') :
    Calls Try.prog 33 (#[.int .i64 (room : Nat)] ++ K.args) W1 fun e W' => e = .returned (.bool true) ∧ FSt K g W' ∧ KeepS (K.Q S) W1 W' ∧ J (pre ++ [(roomsOf g).length]) W' := by
  have IX := rows_calls hst.gm ok.h1 ok.h2
  rw [hf] at IX
  have HIX := Lib.hid IX
  have hen := enters_of (P := Try.prog) Try.func35 rfl rfl
  have SC : Hid (∀ n, Calls Try.prog 37 #[.slice (some ⟨K.o, 0, none⟩) K.H K.H] (W1.drewN n) (SetPost g (W1.drewN n))) := Lib.hid (fun n => settled_calls g _ _ (W1.drewN n) (hst.gm.drewN n).grid (fun k h => h) hlo (fun l hl => by rw [hst.gm.row l hl]; have := ok.h2; omega))
  have x1 : W1.cell? ⟨K.bc, 0, none⟩ = some (.slice (some ⟨K.o, 0, none⟩) K.H K.H) := (blk_cell hst.bxc 0).trans rfl
  have HST := Lib.hid hst
  have HJP := Lib.hid hj
  have HJL := Lib.hid hJ
  have HY := Lib.hid hY
  have HF := Lib.hid hfi
  have HOK := Lib.hid ok
  show Calls Try.prog 33 #[.int .i64 (room : Nat), .pointer (some ⟨K.bc, 0, none⟩), .pointer (some ⟨K.bv, 0, none⟩), .pointer (some ⟨K.bw, 0, none⟩), .pointer (some ⟨K.bh, 0, none⟩), .pointer (some ⟨K.bf, 0, none⟩)] W1 _
  clear IX hst hj hJ hY hfi hlo hf ok
  refine (callsIn_wide (n := 1)).1 ?_
  refine callsIn_of_wp Try.func33 rfl trivial ?_
  simp only [Try.ntmps33, List.size_toArray, List.length_cons, List.length_nil, Nat.reduceAdd, Nat.reduceSub, Array.replicate_succ, Array.replicate_zero, List.push_toArray, List.append_toArray, List.nil_append, List.cons_append]
  gi_wp2
  refine ⟨trivial, (callsIn_wide.2 (HIX.out)).mono ?_⟩
  rintro e w1 ⟨rfl, nd, rfl⟩
  rw [show onum none = -1 from rfl]
  have x2 : (W1.drewN nd).cell? ⟨K.bc, 0, none⟩ = some (.slice (some ⟨K.o, 0, none⟩) K.H K.H) := x1
  gi_wp2
  refine ⟨trivial, (callsIn_wide.2 (SC.out nd)).mono ?_⟩
  rintro e w2 ⟨v, rfl, hfl, hb2⟩
  rw [HF.out]
  have hen2 := (hfl HF.out).rooms
  have hst2 : FSt K g w2 := (HST.out.below HOK.out (pw_below_drewN (Below.refl _ _) nd)).below HOK.out hb2
  have hj2 : J pre w2 := HJL.out _ _ _ HJP.out (toR ((KeepS.drewN _ W1 nd).trans (KeepS.of_below _ hb2)))
  have hk2 : KeepS (K.Q S) W1 w2 := (KeepS.drewN _ W1 nd).trans (KeepS.of_below _ hb2)
  have x3 : w2.cell? ⟨K.bv, 0, none⟩ = some (.func (.yield K.l) #[] #[]) := (blk_cell hst2.bxv 0).trans rfl
  obtain ⟨fn, tmps, assign, body, hy, hYR⟩ := HY.out #[v] w2 hj2 (by have := hst2.sz; omega) hen2
  have HST2 := Lib.hid hst2
  have HK2 := Lib.hid hk2
  clear hst2 hj2 hk2 hfl hb2 hen2 x1 x2
  gi_wp2
  refine hYR.mono ?_
  rintro e' W3 ⟨hk3, rfl, hJ3⟩
  have HST3 := Lib.hid (HST2.out.round HOK.out (ofR hk3))
  have HK3 : Hid (KeepS (K.Q S) W1 W3) := Lib.hid (HK2.out.trans ((ofR hk3).mono (fun k _ e => e.elim .inl (fun e => .inr (.inl e)))))
  have HJ3 := Lib.hid hJ3
  clear hk3 hJ3 hYR hy
  gi_wp2
  go_ret
  exact ⟨rfl, HST3.out, HK3.out, HJ3.out⟩
end Go.Proofs.Ytjbjpkphepfldaa.S

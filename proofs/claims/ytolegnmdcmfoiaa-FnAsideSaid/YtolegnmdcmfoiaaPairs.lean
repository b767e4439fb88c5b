/- The walks of spec.l92One, spec.DrawPermIn and spec.l92Pair: a reader is opened, and permutations are drawn from it. -/
import Derived.Test.YtolegnmdcmfoiaaDrawn
namespace Go.Proofs.Ytolegnmdcmfoiaa.S
open Go.RowKit Go.Proofs.YtolegnmdcmfoiaaW.PrintWords Go.Proofs.Ytolegnmdcmfoiaa.Qr
set_option linter.unusedVariables false
set_option linter.unusedSimpArgs false

theorem leO_bind {α β : Type} {a b : Option α} {f g : α → Option β} (h : LeO a b) (hf : ∀ x, LeO (f x) (g x)) : LeO (a.bind f) (b.bind g) := by
  intro r hr
  obtain ⟨x, hx, hr⟩ := Option.bind_eq_some_iff.1 hr
  exact Option.bind_eq_some_iff.2 ⟨x, h x hx, hf x r hr⟩
theorem leO_if {α : Type} {p : Prop} [Decidable p] {a b c : Option α} (h : LeO a b) : LeO (if p then a else c) (if p then b else c) := by
  intro r hr
  by_cases hp : p
  · rw [if_pos hp] at hr ⊢; exact h r hr
  · rw [if_neg hp] at hr ⊢; exact hr
theorem permL_mono (b : List Int) (k : Nat) : ∀ m cur q, LeO (permL k b m cur q) (permL (k + 1) b m cur q)
  | 0, _, _ => LeO.refl _
  | m + 1, cur, q => leO_bind (spec_l6Rd_pick.mono _ _ _ k) fun t => leO_if (permL_mono b k m _ _)
theorem l92Perm_mono (b : List Int) (p most : Int) (k : Nat) : LeO (spec_l92Perm.f k b p most) (spec_l92Perm.f (k + 1) b p most) :=
  leO_bind (spec_l6Rd_pick.mono _ _ _ k) fun t => leO_if (leO_bind (permL_mono b k _ _ _) fun u => leO_bind (spec_l6Rd_pick.mono _ _ _ k) fun s => LeO.refl _)

def drawn (most : Int) (k : Nat) (l : List Int) : Option (List Int) := (spec_l6Open.f l).bind fun t => (spec_l92Perm.f k t.1 t.2 most).bind fun u => some u.1
def spec_l92One.f (k : Nat) (l : List Int) : Option (List Int) := drawn 7 k l
def spec_DrawPermIn.f (k : Nat) (l : List Int) : Option (List Int) := drawn 8 k l
theorem drawn_mono (most : Int) (l : List Int) (k : Nat) : LeO (drawn most k l) (drawn most (k + 1) l) := leO_bind (LeO.refl _) fun t => leO_bind (l92Perm_mono _ _ _ k) fun u => LeO.refl _
theorem spec_l92One.mono (l : List Int) (k : Nat) : LeO (spec_l92One.f k l) (spec_l92One.f (k + 1) l) := drawn_mono 7 l k
theorem spec_DrawPermIn.mono (l : List Int) (k : Nat) : LeO (spec_DrawPermIn.f k l) (spec_DrawPermIn.f (k + 1) l) := drawn_mono 8 l k

def spec_l92Pair.f (k : Nat) (l : List Int) : Option (List Int × List Int) := (spec_l6Open.f l).bind fun t => (spec_l92Perm.f k t.1 t.2 4).bind fun u => (spec_l6Rd_pick.f k t.1 u.2 24).bind fun s => if 0 ≤ s.1 ∧ s.1 < 24 then (spec_l92Perm.f k t.1 s.2 (3 + s.1 / 23)).bind fun v => some (u.1, v.1) else none
theorem spec_l92Pair.mono (l : List Int) (k : Nat) : LeO (spec_l92Pair.f k l) (spec_l92Pair.f (k + 1) l) :=
  leO_bind (LeO.refl _) fun t => leO_bind (l92Perm_mono _ _ _ k) fun u => leO_bind (spec_l6Rd_pick.mono _ _ _ k) fun s => leO_if (leO_bind (l92Perm_mono _ _ _ k) fun v => LeO.refl _)

set_option maxRecDepth 100000 in
set_option maxHeartbeats 3200000 in
theorem spec_l92Pair.calls (k : Nat) (A0 : Option Addr) (c0 : Nat) (l0 : List Int) (r1 r2 : List Int) (w : World) (hr0 : Kd.C (Kd.int .u8) w A0 l0.length l0) (hc0 : l0.length ≤ c0) (h : spec_l92Pair.f k l0 = some (r1, r2)) :
    Calls Try.prog 31 #[.slice A0 l0.length c0] w fun e w' => ∃ v0_ v1_ : Value, e = .returned (.tuple #[v0_, v1_]) ∧ Kd.R (Kd.int .i64) 3 w' w.heap.size (fun k_ => some k_ ≠ (v1_ : Value).ownBlock) v0_ r1 ∧ Kd.R (Kd.int .i64) 3 w' w.heap.size (fun k_ => some k_ ≠ (v0_ : Value).ownBlock) v1_ r2 ∧ Below w.heap.size w w' := by
  obtain ⟨⟨b, p⟩, h1, h⟩ := Option.bind_eq_some_iff.1 h
  obtain ⟨⟨a1, p1⟩, h2, h⟩ := Option.bind_eq_some_iff.1 h
  obtain ⟨⟨s, p2⟩, h3, h⟩ := Option.bind_eq_some_iff.1 h
  simp only at h2 h3 h
  by_cases hs : 0 ≤ s ∧ s < 24
  case neg => rw [if_neg hs] at h; cases h
  rw [if_pos hs] at h
  obtain ⟨⟨a2, p3⟩, h4, h⟩ := Option.bind_eq_some_iff.1 h
  obtain ⟨rfl, rfl⟩ : a1 = r1 ∧ a2 = r2 := by simpa using h
  have hs0 := hs.1
  have hs1 := hs.2
  have H1 := Lib.hid h1
  have H2 := Lib.hid h2
  have H3 := Lib.hid h3
  have H4 := Lib.hid h4
  have HR := Lib.hid hr0
  clear h h1 h2 h3 h4 hr0 hs
  go_enter Try.func31, Try.ntmps31
  go_wp2_with fail
  refine (spec_l6Open.calls A0 c0 l0 b p w _ (Below.refl _ _) HR.out hc0 H1.out).mono ?_
  rintro e w1 ⟨g, rfl, hi1, hb1, hb1'⟩
  have HI1 := Lib.hid hi1
  have HB1 := Lib.hid hb1
  clear hi1 hb1 hb1'
  go_wp2_with fail
  refine (l92Perm_calls k g b p 4 a1 p1 w _ HI1.out HB1.out H2.out).mono ?_
  rintro e w2 ⟨v1, rfl, hr2, hi2, hb2, hk2⟩
  have HR2 := Lib.hid hr2
  have HI2 := Lib.hid hi2
  have HB2 := Lib.hid hb2
  clear hr2 hi2 hb2 hk2
  have hg1 : g < w1.heap.size := HI1.out.lt
  go_wp2_with fail
  refine (spec_l6Rd_pick.calls k g b p1 24 s p2 w _ HI2.out HB2.out H3.out).mono ?_
  rintro e w3 ⟨rfl, hi3, hb3, hk3⟩
  have HR3 := Lib.hid (R_keep' HR2.out hk3 hg1)
  have HI3 := Lib.hid hi3
  have HB3 := Lib.hid hb3
  clear hi3 hb3 hk3 HR2 HI2 HB2
  go_wp2_with fail
  refine (l92Perm_calls k g b p2 (3 + s / 23) a2 p3 w _ HI3.out HB3.out H4.out).mono ?_
  rintro e w4 ⟨v2, rfl, hr4, hi4, hb4, hk4⟩
  have HR4 := Lib.hid (R_keep' HR3.out hk4 hg1)
  have HS4 := Lib.hid hr4
  have HB4 := Lib.hid hb4
  clear hr4 hi4 hb4 hk4
  have hne : ∀ k, v1.ownBlock = some k → v2.ownBlock ≠ some k := fun q h1 h2 => by
    have a := own_lt (Kd.own_of_R HR3.out) q h1
    have b := own_base (Kd.own_of_R HS4.out) q h2
    omega
  have HNE := Lib.hid hne
  clear hne
  go_wp2
  go_ret2
  refine ⟨v1, v2, rfl, Kd.R_lower (Kd.R_of_own (Kd.own_of_R HR4.out) (fun q h1 h2 => HNE.out q h1 h2.symm)) HB1.out.size, Kd.R_lower (Kd.R_of_own (Kd.own_of_R HS4.out) (fun q h1 h2 => HNE.out q h2.symm h1)) HB3.out.size, HB4.out⟩
end Go.Proofs.Ytolegnmdcmfoiaa.S

/- The walk of spec.l92Calm: permutations put together out of small ones. -/
import Derived.Test.YtolegnmdcmfoiaaPairs
namespace Go.Proofs.Ytolegnmdcmfoiaa.S
open Go.RowKit Go.Proofs.YtolegnmdcmfoiaaW.PrintWords Go.Proofs.Ytolegnmdcmfoiaa.Qr
set_option linter.unusedVariables false
set_option linter.unusedSimpArgs false

def calmL (k : Nat) (b : List Int) : Nat → List Int → Int → Option (List Int × Int)
  | 0, p, q => some (p, q)
  | m + 1, p, q => (spec_l92Perm.f k b q 2).bind fun u => (spec_PermAside.f k p u.1).bind fun r => (spec_l6Rd_pick.f k b u.2 2).bind fun s =>
    if s.1 = 0 then (spec_l92Perm.f k b s.2 2).bind fun v => (spec_PermUnder.f k p v.1).bind fun r2 => calmL k b m (if r2.2 = true then r2.1 else p) v.2
    else calmL k b m (if r.2 = true then r.1 else p) s.2
def spec_l92Calm.f (k : Nat) (l : List Int) : Option (List Int) := (spec_l6Open.f l).bind fun t => (spec_l6Rd_pick.f k t.1 t.2 3).bind fun s =>
  if s.1 = 0 then (spec_l92Perm.f k t.1 s.2 7).bind fun u => some u.1 else (spec_l92Perm.f k t.1 s.2 2).bind fun u => (calmL k t.1 4 u.1 u.2).bind fun v => some v.1
theorem leO_if2 {α : Type} {p : Prop} [Decidable p] {a b c d : Option α} (h : LeO a b) (h2 : LeO c d) : LeO (if p then a else c) (if p then b else d) := by
  intro r hr
  by_cases hp : p
  · rw [if_pos hp] at hr ⊢; exact h r hr
  · rw [if_neg hp] at hr ⊢; exact h2 r hr
theorem calmL_mono (b : List Int) (k : Nat) : ∀ m p q, LeO (calmL k b m p q) (calmL (k + 1) b m p q)
  | 0, _, _ => LeO.refl _
  | m + 1, p, q => leO_bind (l92Perm_mono _ _ _ k) fun u => leO_bind (spec_PermAside.mono _ _ k) fun r => leO_bind (spec_l6Rd_pick.mono _ _ _ k) fun s =>
    leO_if2 (leO_bind (l92Perm_mono _ _ _ k) fun v => leO_bind (spec_PermUnder.mono _ _ k) fun r2 => calmL_mono b k m _ _) (calmL_mono b k m _ _)
theorem spec_l92Calm.mono (l : List Int) (k : Nat) : LeO (spec_l92Calm.f k l) (spec_l92Calm.f (k + 1) l) :=
  leO_bind (LeO.refl _) fun t => leO_bind (spec_l6Rd_pick.mono _ _ _ k) fun s => leO_if2 (leO_bind (l92Perm_mono _ _ _ k) fun u => LeO.refl _) (leO_bind (l92Perm_mono _ _ _ k) fun u => leO_bind (calmL_mono _ k _ _ _) fun v => LeO.refl _)

set_option maxRecDepth 100000 in
set_option maxHeartbeats 6400000 in
theorem spec_l92Calm.calls (k : Nat) (A0 : Option Addr) (c0 : Nat) (l0 : List Int) (r : List Int) (w : World) (hr0 : Kd.C (Kd.int .u8) w A0 l0.length l0) (hc0 : l0.length ≤ c0) (h : spec_l92Calm.f k l0 = some r) :
    Calls Try.prog 28 #[.slice A0 l0.length c0] w fun e w' => ∃ v0_ : Value, e = .returned v0_ ∧ Kd.R (Kd.int .i64) 3 w' w.heap.size (fun _ => True) v0_ r ∧ Below w.heap.size w w' := by
  obtain ⟨⟨b, p0⟩, h1, h⟩ := Option.bind_eq_some_iff.1 h
  obtain ⟨⟨s, p1⟩, h2, h⟩ := Option.bind_eq_some_iff.1 h
  simp only at h2 h
  have H1 := Lib.hid h1
  have H2 := Lib.hid h2
  have HR := Lib.hid hr0
  by_cases hs : s = 0
  · subst hs
    rw [if_pos rfl] at h
    obtain ⟨⟨r', p2⟩, h3, h⟩ := Option.bind_eq_some_iff.1 h
    obtain rfl : r' = r := by simpa using h
    have H3 := Lib.hid h3
    clear h h1 h2 h3 hr0
    go_enter Try.func28, Try.ntmps28
    go_wp2_with fail
    refine (spec_l6Open.calls A0 c0 l0 b p0 w _ (Below.refl _ _) HR.out hc0 H1.out).mono ?_
    rintro e w1 ⟨g, rfl, hi1, hb1, hb1'⟩
    have HI1 := Lib.hid hi1
    have HB1 := Lib.hid hb1
    clear hi1 hb1 hb1'
    go_wp2_with fail
    refine (spec_l6Rd_pick.calls k g b p0 3 0 p1 w _ HI1.out HB1.out H2.out).mono ?_
    rintro e w2 ⟨rfl, hi2, hb2, hk2⟩
    have HI2 := Lib.hid hi2
    have HB2 := Lib.hid hb2
    clear hi2 hb2 hk2 HI1 HB1
    go_wp2_with fail
    refine (l92Perm_calls k g b p1 7 r' p2 w _ HI2.out HB2.out H3.out).mono ?_
    rintro e w3 ⟨v, rfl, hr3, hi3, hb3, hk3⟩
    have HR3 := Lib.hid hr3
    have HB3 := Lib.hid hb3
    clear hr3 hi3 hb3 hk3
    go_wp2
    go_ret
    exact ⟨_, rfl, Kd.R_lower HR3.out HB2.out.size, HB3.out⟩
  · rw [if_neg hs] at h
    obtain ⟨⟨a1, p2⟩, h3, h⟩ := Option.bind_eq_some_iff.1 h
    obtain ⟨⟨r', p3⟩, h4, h⟩ := Option.bind_eq_some_iff.1 h
    obtain rfl : r' = r := by simpa using h
    have H3 := Lib.hid h3
    have H4 := Lib.hid h4
    have hsb : ((s : Int) == 0) = false := by simpa using hs
    clear h h1 h2 h3 h4 hr0 hs
    go_enter Try.func28, Try.ntmps28
    go_wp2_with fail
    refine (spec_l6Open.calls A0 c0 l0 b p0 w _ (Below.refl _ _) HR.out hc0 H1.out).mono ?_
    rintro e w1 ⟨g, rfl, hi1, hb1, hb1'⟩
    have hgl : g < w1.heap.size := hi1.lt
    have HI1 := Lib.hid hi1
    have HB1 := Lib.hid hb1
    clear hi1 hb1 hb1'
    go_wp2_with fail
    refine (spec_l6Rd_pick.calls k g b p0 3 s p1 w _ HI1.out HB1.out H2.out).mono ?_
    rintro e w2 ⟨rfl, hi2, hb2, hk2⟩
    have HI2 := Lib.hid hi2
    have HB2 := Lib.hid hb2
    have hs2 := hk2.1
    clear hi2 hb2 hk2
    go_wp2_with fail
    refine (l92Perm_calls k g b p1 2 a1 p2 w _ HI2.out HB2.out H3.out).mono ?_
    rintro e w3 ⟨v3, rfl, hr3, hi3, hb3, hk3⟩
    have hs3 : w1.heap.size ≤ w3.heap.size := by have := hk3.1; omega
    have HR3 := Lib.hid (Kd.R_lower hr3 hs2)
    have HI3 := Lib.hid hi3
    have HB3 := Lib.hid hb3
    clear hr3 hi3 hb3 hk3 hs2 HI2 HB2 HI1
    go_wp2
    go_loopw [4, 5] (fun pv tv wr => ∃ (m : Nat) (p : List Int) (q : Int), m ≤ 4 ∧ tv = .int .i64 m ∧ w1.heap.size ≤ wr.heap.size ∧ Hid (calmL k b (4 - m) p q = some (r', p3)) ∧ Hid (IsS52 w wr g b q) ∧ Hid (Below w.heap.size w wr) ∧ Hid (Kd.R (Kd.int .i64) 3 wr w1.heap.size (fun _ => True) pv p)) (fun _ tv _ => 4 - (intOf tv).toNat)
    case atStart => exact ⟨0, a1, p2, by omega, rfl, hs3, H4, HI3, HB3, HR3⟩
    case round =>
      obtain ⟨m, p, q, hm, rfl, hsz, HC, HI, HB, HP⟩ := hrel
      clear HR3 HI3 HB3 H4 hs3
      by_cases hlt : m < 4
      · have hc := HC.out
        rw [show 4 - m = (4 - (m + 1)) + 1 by omega, calmL] at hc
        obtain ⟨⟨u, q1⟩, e1, hc⟩ := Option.bind_eq_some_iff.1 hc
        obtain ⟨⟨x, ok⟩, e2, hc⟩ := Option.bind_eq_some_iff.1 hc
        obtain ⟨⟨s2, q2⟩, e3, hc⟩ := Option.bind_eq_some_iff.1 hc
        simp only at e2 e3 hc
        have E1 := Lib.hid e1
        have E2 := Lib.hid e2
        have E3 := Lib.hid e3
        have HCC := Lib.hid hc
        obtain ⟨A, c, rfl⟩ := own_slice (Kd.own_of_R HP.out)
        clear e1 e2 e3 hc HC
        go_wp2_with fail
        refine (l92Perm_calls k g b q 2 u q1 w _ HI.out HB.out E1.out).mono ?_
        rintro e w4 ⟨v4, rfl, hr4, hi4, hb4, hk4⟩
        obtain ⟨A4, c4, rfl⟩ := own_slice (Kd.own_of_R hr4)
        have hs4 : w1.heap.size ≤ w4.heap.size := by have := hk4.1; omega
        have HP4 := Lib.hid (R_keep' HP.out hk4 hgl)
        have HR4 := Lib.hid hr4
        have HI4 := Lib.hid hi4
        have HB4 := Lib.hid hb4
        clear hr4 hi4 hb4 hk4 HI HB HP
        go_wp2_with fail
        refine (spec_PermAside.calls k A c p A4 c4 u x ok _ (Kd.R_reads' HP4.out).2.2 (Kd.R_reads' HP4.out).2.1 (Kd.R_reads' HR4.out).2.2 (Kd.R_reads' HR4.out).2.1 E2.out).mono ?_
        rintro e w5 ⟨v5, rfl, hr5, hb5⟩
        have hs5 : w1.heap.size ≤ w5.heap.size := by have := hb5.size; omega
        have HP5 := Lib.hid (Kd.R_below HP4.out hb5)
        have HX5 := Lib.hid (Kd.R_lower hr5 hs4)
        have HI5 := Lib.hid (HI4.out.below hb5)
        have HB5 := Lib.hid (HB4.out.trans (hb5.mono HB4.out.size))
        clear hr5 hb5 HP4 HR4 HI4 HB4 hs4
        go_wp2_with fail
        refine (spec_l6Rd_pick.calls k g b q1 2 s2 q2 w _ HI5.out HB5.out E3.out).mono ?_
        rintro e w6 ⟨rfl, hi6, hb6, hk6⟩
        have hs6 : w1.heap.size ≤ w6.heap.size := by have := hk6.1; omega
        have HP6 := Lib.hid (R_keep' HP5.out hk6 hgl)
        have HX6 := Lib.hid (R_keep' HX5.out hk6 hgl)
        have HI6 := Lib.hid hi6
        have HB6 := Lib.hid hb6
        clear hi6 hb6 hk6 HP5 HX5 HI5 HB5 hs5
        by_cases hs2 : s2 = 0
        · subst hs2
          have hc := HCC.out
          rw [if_pos rfl] at hc
          obtain ⟨⟨u7, q3⟩, e7, hc⟩ := Option.bind_eq_some_iff.1 hc
          obtain ⟨⟨x8, ok8⟩, e8, hc⟩ := Option.bind_eq_some_iff.1 hc
          simp only at e7 e8 hc
          have E7 := Lib.hid e7
          have E8 := Lib.hid e8
          have HCC := Lib.hid hc
          clear e7 e8 hc
          go_wp2_with fail
          refine (l92Perm_calls k g b q2 2 u7 q3 w _ HI6.out HB6.out E7.out).mono ?_
          rintro e w7 ⟨v7, rfl, hr7, hi7, hb7, hk7⟩
          obtain ⟨A7, c7, rfl⟩ := own_slice (Kd.own_of_R hr7)
          have hs7 : w1.heap.size ≤ w7.heap.size := by have := hk7.1; omega
          have HP7 := Lib.hid (R_keep' HP6.out hk7 hgl)
          have HR7 := Lib.hid hr7
          have HI7 := Lib.hid hi7
          have HB7 := Lib.hid hb7
          clear hr7 hi7 hb7 hk7 HI6 HB6 HP6 HX6 hs6
          go_wp2_with fail
          refine (spec_PermUnder.calls k A c p A7 c7 u7 x8 ok8 _ (Kd.R_reads' HP7.out).2.2 (Kd.R_reads' HP7.out).2.1 (Kd.R_reads' HR7.out).2.2 (Kd.R_reads' HR7.out).2.1 E8.out).mono ?_
          rintro e w8 ⟨v8, rfl, hr8, hb8⟩
          have hs8 : w1.heap.size ≤ w8.heap.size := by have := hb8.size; omega
          have HP8 := Lib.hid (Kd.R_below HP7.out hb8)
          have HX8 := Lib.hid (Kd.R_lower hr8 hs7)
          have HI8 := Lib.hid (HI7.out.below hb8)
          have HB8 := Lib.hid (HB7.out.trans (hb8.mono HB7.out.size))
          clear hr8 hb8 HP7 HR7 HI7 HB7 hs7
          cases ok8
          · have HF : Hid (calmL k b (4 - (m + 1)) p q3 = some (r', p3)) := Lib.hid (by simpa using HCC.out)
            clear HCC
            go_wp2
            go_roundw
            case rel => exact ⟨m + 1, p, q3, by omega, by go_num, hs8, HF, HI8, HB8, HP8⟩
            case measure => simp [intOf]; omega
          · have HF : Hid (calmL k b (4 - (m + 1)) x8 q3 = some (r', p3)) := Lib.hid (by simpa using HCC.out)
            clear HCC
            go_wp2
            go_roundw
            case rel => exact ⟨m + 1, x8, q3, by omega, by go_num, hs8, HF, HI8, HB8, HX8⟩
            case measure => simp [intOf]; omega
        · have hsb2 : ((s2 : Int) == 0) = false := by simpa using hs2
          have hc := HCC.out
          rw [if_neg hs2] at hc
          have HCC := Lib.hid hc
          clear hc
          cases ok
          · have HF : Hid (calmL k b (4 - (m + 1)) p q2 = some (r', p3)) := Lib.hid (by simpa using HCC.out)
            clear HCC
            go_wp2
            go_roundw
            case rel => exact ⟨m + 1, p, q2, by omega, by go_num, hs6, HF, HI6, HB6, HP6⟩
            case measure => simp [intOf]; omega
          · have HF : Hid (calmL k b (4 - (m + 1)) x q2 = some (r', p3)) := Lib.hid (by simpa using HCC.out)
            clear HCC
            go_wp2
            go_roundw
            case rel => exact ⟨m + 1, x, q2, by omega, by go_num, hs6, HF, HI6, HB6, HX6⟩
            case measure => simp [intOf]; omega
      · have hm4 : 4 - m = 0 := by omega
        have hc := HC.out
        rw [hm4] at hc
        simp only [calmL, Option.some.injEq, Prod.mk.injEq] at hc
        obtain ⟨rfl, rfl⟩ := hc
        go_wp2
        go_ret
        exact ⟨_, rfl, Kd.R_lower HP.out HB1.out.size, HB.out⟩
end Go.Proofs.Ytolegnmdcmfoiaa.S

/- The walk of spec.l92Perm: a list that grows by inserting. -/
import Derived.Test.YtolegnmdcmfoiaaQr1
import Derived.WalkKit
import Derived.WalkSpells
import Derived.WalkLawsBesides
import Derived.Deep.QuietTactic
import Derived.Deep.RegionLaw
import Derived.BigQuiet
import Derived.RegionTactic
import Derived.Lib.Hide
namespace Go.Proofs.Ytolegnmdcmfoiaa.S
open Go.RowKit Go.Proofs.YtolegnmdcmfoiaaW.PrintWords Go.Proofs.Ytolegnmdcmfoiaa.Qr
set_option linter.unusedVariables false
set_option linter.unusedSimpArgs false

/-- A number put into a list behind its first k. -/
def ins (l : List Int) (k : Nat) (x : Int) : List Int := l.take k ++ [x] ++ l.drop k

def permL (k : Nat) (b : List Int) : Nat → List Int → Int → Option (List Int × Int)
  | 0, out, p => some (out, p)
  | m + 1, out, p => (spec_l6Rd_pick.f k b p ((out.length : Int) + 1)).bind fun t => if 0 ≤ t.1 ∧ t.1 ≤ out.length then permL k b m (ins out t.1.toNat (out.length : Int)) t.2 else none

def spec_l92Perm.f (k : Nat) (b : List Int) (p most : Int) : Option (List Int × Int) :=
  (spec_l6Rd_pick.f k b p most).bind fun t => if 0 ≤ t.1 ∧ t.1 ≤ 7 then (permL k b (1 + t.1).toNat [] t.2).bind fun u => (spec_l6Rd_pick.f k b u.2 30).bind fun s => some (if s.1 = 0 then u.1.set 0 (1 + t.1) else u.1, s.2) else none

theorem keep_trans_alloc {w w1 : World} {o : Obj} {g : Nat} (h : KeepBut (w.alloc o) w1 g none) : KeepBut w w1 g none :=
  (KeepBut.of_grown (World.grownBy_alloc w o none) g).trans h (.inl rfl)

theorem R_keep' {W W1 : World} {base g : Nat} {v : Value} {xs : List Int} (h : Kd.R (Kd.int .i64) 3 W base (fun _ => True) v xs) (hk : KeepBut W W1 g none) (hg : g < base) : Kd.R (Kd.int .i64) 3 W1 base (fun _ => True) v xs := by
  have ho := Kd.own_of_R h
  refine Kd.R_of_own (KeepBut.own hk ho (fun e => ?_) ?_) (fun _ _ => trivial)
  · have := own_base ho g e; omega
  · cases hv : v.ownBlock with
    | none => exact Or.inl rfl
    | some k => exact Or.inr (by simp)

/-- append of a row's numbers behind a row of the call's own, as one step of a region that draws. -/
theorem app_step {ops : Array Oper} {o : Oper} {a : Act} {w2 W : World} {Kc : Act → World → Prop} {Q : Exit → Act → World → Prop} (hgd : o.guard = none) (s x : Operand)
    (ho : o.op = .call { callee := .builtin .append, args := #[s, x], argTypes := #[22, 22] }) (v : Value) (xs ys : List Int) (A : Option Addr) (m c : Nat) (hs : a.eval s = v) (hx : a.eval x = .slice A m c)
    (HO : Kd.R (Kd.int .i64) 3 W w2.heap.size (fun _ => True) v xs) (HR : Kd.C (Kd.int .i64) W A m ys) (HB : Below w2.heap.size w2 W) (hl : xs.length + m ≤ 1000)
    (h : ∀ v1 w1, Kd.R (Kd.int .i64) 3 w1 w2.heap.size (fun _ => True) v1 (xs ++ ys) → Below w2.heap.size w2 w1 → W.grownBy w1 v.ownBlock → Kc (a.put o.dst v1) w1) :
    if Region.wanted o (yielded ops a.tmps) = true then Oper.wp Try.prog o a W Kc Q else Kc (a.put o.dst undef) W := by
  have hw : Region.wanted o (yielded ops a.tmps) = true := by simp [Region.wanted, hgd]
  exact Kd.R_append_rows_step (P := Try.prog) (w0 := w2) (Kd.int .i64) w2.heap.size hw s x 22 3 (.int .i64 0) 8 ho (by kernel_rfl) info3 rfl (by decide) (by decide) v xs ys A m c (fun _ => True) (fun _ => False) hs hx HO HR
    (fun x cs hc => hc) (fun k hk => hk.elim) (fun _ _ => trivial) HB HB.size (by omega) (fun v1 w1 h1 h2 h3 _ => h v1 w1 h1 h2 h3)

theorem C_of_blk {W : World} {s : Nat} {x : Int} (h : W.heap[s]? = some (.cells #[.int .i64 x] 3 (0, 0))) : Kd.C (Kd.int .i64) W (some ⟨s, 0, none⟩) 1 [x] := by
  refine Kd.C_of_reads (d := (0 : Int)) (h1 := fun _ => rfl) ⟨rfl, by omega, fun _ => ⟨_, rfl, fun j hj => ?_⟩⟩
  rw [add_plain, blk_cell h]
  obtain rfl : j = 0 := by simp at hj; omega
  rfl

theorem R_made (W : World) (base s : Nat) (hs : s = W.heap.size) (hb : base ≤ W.heap.size) : Kd.R (Kd.int .i64) 3 (W.alloc (.cells #[] 3)) base (fun _ => True) (.slice (some ⟨s, 0, none⟩) 0 0) [] := by
  subst hs
  exact Kd.R_of_own (World.ownsRow_made W #[] 0 hb (Nat.zero_le _) rfl) (fun _ _ => trivial)

theorem blk_lit (W : World) (s : Nat) (x : Int) (hs : s = W.heap.size) : (W.alloc (.cells #[.int .i64 x] 3)).heap[s]? = some (.cells #[.int .i64 x] 3 (0, 0)) := by
  subst hs; exact blk_new W _

theorem ins_length (l : List Int) (k : Nat) (x : Int) (h : k ≤ l.length) : (ins l k x).length = l.length + 1 := by
  unfold ins; simp; omega

set_option maxRecDepth 100000 in
set_option maxHeartbeats 3200000 in
theorem l92Perm_calls (k g : Nat) (b : List Int) (p most : Int) (r : List Int) (p' : Int) (w0 w : World) (hI : IsS52 w0 w g b p) (hB : Below w0.heap.size w0 w) (h : spec_l92Perm.f k b p most = some (r, p')) :
    Calls Try.prog 42 #[.pointer (some ⟨g, 0, none⟩), .int .i64 most] w fun e w' => ∃ v0_ : Value, e = .returned v0_ ∧ Kd.R (Kd.int .i64) 3 w' w.heap.size (fun _ => True) v0_ r ∧ IsS52 w0 w' g b p' ∧ Below w0.heap.size w0 w' ∧ KeepBut w w' g none := by
  unfold spec_l92Perm.f at h
  obtain ⟨⟨t, p1⟩, q1, h⟩ := Option.bind_eq_some_iff.1 h
  simp only at h
  by_cases ht : 0 ≤ t ∧ t ≤ 7
  case neg => rw [if_neg ht] at h; cases h
  rw [if_pos ht] at h
  obtain ⟨⟨out, p2⟩, q2, h⟩ := Option.bind_eq_some_iff.1 h
  obtain ⟨⟨s, p3⟩, q3, h⟩ := Option.bind_eq_some_iff.1 h
  simp only [Option.some.injEq, Prod.mk.injEq] at h
  have Q1 := Lib.hid q1
  have Q2 := Lib.hid q2
  have Q3 := Lib.hid q3
  have HH := Lib.hid h
  have HI := Lib.hid hI
  have HB := Lib.hid hB
  clear q1 q2 q3 h hI hB
  go_enter Try.func42, Try.ntmps42
  go_wp2_with (first
    | (go_at_call 41; refine (spec_l6Rd_pick.calls k g b p most t p1 w0 _ (HI.out.alloc _) (below_alloc HB.out _) Q1.out).mono ?_; rintro e w1 ⟨rfl, hi1, hb1, hk1⟩))
  have hgw : g < w.heap.size := HI.out.lt
  have hr1 : Kd.R (Kd.int .i64) 3 w1 w.heap.size (fun _ => True) (.slice (some ⟨w.heap.size, 0, none⟩) 0 0) [] := by
    have ho : (w.alloc (.cells #[] 3)).ownsRow w.heap.size 3 1 (.slice (some ⟨w.heap.size, 0, none⟩) 0 0) 0 [] := World.ownsRow_made w #[] 0 (Nat.le_refl _) (Nat.zero_le _) rfl
    exact Kd.R_of_own (KeepBut.own hk1 ho (by simp [Value.ownBlock]; omega) (Or.inr (by simp [Value.ownBlock]))) (fun _ _ => trivial)
  have hk1' : KeepBut w w1 g none := keep_trans_alloc hk1
  have HR1 := Lib.hid hr1
  have HI1 := Lib.hid hi1
  have HB1 := Lib.hid hb1
  have HK1 := Lib.hid hk1'
  clear hr1 hi1 hb1 hk1 hk1' HI HB
  obtain ⟨n, hn⟩ : ∃ n : Nat, 1 + t = (n : Int) := Int.eq_ofNat_of_zero_le (by omega)
  have hn8 : n ≤ 8 := by omega
  have hn1 : 1 ≤ n := by omega
  rw [hn] at Q2 HH ⊢
  clear hn
  go_loopw [5, 7] (fun o i wr => ∃ (cur : List Int) (q : Int), cur.length ≤ n ∧ i = .int .i64 cur.length ∧ Hid (permL k b (n - cur.length) cur q = some (out, p2)) ∧ Hid (IsS52 w0 wr g b q) ∧ Hid (Below w0.heap.size w0 wr) ∧ Hid (KeepBut w wr g none) ∧ Hid (Kd.R (Kd.int .i64) 3 wr w.heap.size (fun _ => True) o cur))
    (fun _ i _ => n - (intOf i).toNat)
  case atStart => exact ⟨[], p1, by simp, rfl, Q2, HI1, HB1, HK1, HR1⟩
  case round =>
    obtain ⟨cur, q, hc, rfl, HP, HIr, HBr, HKr, HRr⟩ := hrel
    clear Q2 HI1 HB1 HK1 HR1
    by_cases hlt : cur.length < n
    · obtain ⟨A, c, rfl⟩ := own_slice (Kd.own_of_R HRr.out)
      have hcap := own_le (Kd.own_of_R HRr.out)
      obtain ⟨m, hm⟩ : ∃ m, n - cur.length = m + 1 := ⟨n - cur.length - 1, by omega⟩
      have hp := HP.out
      rw [hm] at hp
      simp only [permL] at hp
      obtain ⟨⟨x, q'⟩, hq, hp⟩ := Option.bind_eq_some_iff.1 hp
      simp only at hp
      by_cases hx : 0 ≤ x ∧ x ≤ cur.length
      case neg => rw [if_neg hx] at hp; cases hp
      rw [if_pos hx] at hp
      have HQ := Lib.hid hq
      have HP2 := Lib.hid hp
      clear hq hp HP
      obtain ⟨kk, rfl⟩ := Int.eq_ofNat_of_zero_le hx.1
      have hkk : kk ≤ cur.length := by omega
      clear hx
      have e1 : IntKind.i64.wrap ((cur.length : Int) + 1) = (cur.length : Int) + 1 := IntWalk.i64_in _ (by omega)
      go_wp2_with (first
        | (go_at_call 41; refine (spec_l6Rd_pick.calls k g b q _ kk q' w0 _ HIr.out HBr.out HQ.out).mono ?_; rintro e w2 ⟨rfl, hi2, hb2, hk2⟩))
      have hr2 := R_keep' HRr.out hk2 hgw
      have HR2 := Lib.hid hr2
      have HI2 := Lib.hid hi2
      have HB2 := Lib.hid hb2
      have HK2 := Lib.hid (KeepBut.trans HKr.out hk2 (.inl rfl))
      clear hr2 hi2 hb2 hk2 HRr HIr HBr HKr HQ e1
      have hkc : kk ≤ c := by omega
      have HC2 := Lib.hid (Kd.R_reads' HR2.out).2.2
      have HX1 : Hid (∀ W, Below w2.heap.size w2 W → Kd.C (Kd.int .i64) W A kk (cur.take kk)) := Lib.hid (fun W hb => by
        have := Kd.C_take (Kd.C_below HC2.out hb) hkk
        rwa [List.length_take, Nat.min_eq_left hkk] at this)
      have HX2 : Hid (∀ W, Below w2.heap.size w2 W → Kd.C (Kd.int .i64) W (if c = kk then A else Option.map (fun x => x.add kk) A) (cur.length - kk) (cur.drop kk)) := Lib.hid (fun W hb => by
        have := Kd.C_drop (c := c) (Kd.C_below HC2.out hb) hkk hcap
        rw [List.length_drop] at this
        simpa [Kd.int, Kd.scalar] using this)
      have hck : cur.length ≤ 8 := by omega
      go_region_law (first
        | (refine app_step (w2 := w2) rfl (Operand.tmp 24) (Operand.tmp 27) rfl (.slice (some ⟨w2.heap.size + 1, 0, none⟩) 0 0) [] (cur.take kk) _ _ _ rfl rfl ?_ ?_ ?_ ?_ ?_
           · ((repeat (first | with_reducible refine Kd.R_drew ?_ | with_reducible refine R_made _ _ _ (by simp; done) (by simp; done) | with_reducible refine Kd.R_alloc ?_ _)); done)
           · (refine HX1.out _ ?_; (repeat (first | with_reducible refine below_drew ?_ | with_reducible refine below_alloc ?_ _ | with_reducible exact Below.refl _ _)); done)
           · ((repeat (first | with_reducible refine below_drew ?_ | with_reducible refine below_alloc ?_ _ | with_reducible exact Below.refl _ _)); done)
           · (simp; omega)
           intro v1 w1 hv1 hbw1 hg1
           have HV1 := Lib.hid hv1
           have HBW := Lib.hid hbw1
           have b6 : w1.heap[w2.heap.size]? = some (.cells #[.int .i64 (cur.length : Int)] 3 (0, 0)) := by
             refine blk_grown ?_ hg1 ?_
             · ((repeat (first | with_reducible refine blk_lit _ _ _ (by simp) | with_reducible refine blk_drew ?_ | with_reducible refine blk_alloc ?_ _)); done)
             · simp [Value.ownBlock]
           have B6 := Lib.hid b6
           clear b6
           clear hv1 hbw1 hg1)
        | (refine app_step (w2 := w2) rfl (Operand.tmp 24) (Operand.tmp 27) rfl (.slice (some ⟨w2.heap.size, 0, none⟩) 0 0) [] (cur.take kk) _ _ _ rfl rfl ?_ ?_ ?_ ?_ ?_
           · ((repeat (first | with_reducible refine Kd.R_drew ?_ | with_reducible refine R_made _ _ _ (by simp; done) (by simp; done) | with_reducible refine Kd.R_alloc ?_ _)); done)
           · (refine HX1.out _ ?_; (repeat (first | with_reducible refine below_drew ?_ | with_reducible refine below_alloc ?_ _ | with_reducible exact Below.refl _ _)); done)
           · ((repeat (first | with_reducible refine below_drew ?_ | with_reducible refine below_alloc ?_ _ | with_reducible exact Below.refl _ _)); done)
           · (simp; omega)
           intro v1 w1 hv1 hbw1 hg1
           have HV1 := Lib.hid hv1
           have HBW := Lib.hid hbw1
           have b6 : w1.heap[w2.heap.size + 1]? = some (.cells #[.int .i64 (cur.length : Int)] 3 (0, 0)) := by
             refine blk_grown ?_ hg1 ?_
             · ((repeat (first | with_reducible refine blk_lit _ _ _ (by simp) | with_reducible refine blk_drew ?_ | with_reducible refine blk_alloc ?_ _)); done)
             · simp [Value.ownBlock]
           have B6 := Lib.hid b6
           clear b6
           clear hv1 hbw1 hg1)
        | (refine app_step (w2 := w2) rfl (Operand.tmp 24) (Operand.tmp 27) rfl (.slice (some ⟨w2.heap.size, 0, none⟩) 0 0) [] (cur.take kk) _ _ _ rfl rfl ?_ ?_ ?_ ?_ ?_
           · ((repeat (first | with_reducible refine Kd.R_drew ?_ | with_reducible refine R_made _ _ _ (by simp; done) (by simp; done) | with_reducible refine Kd.R_alloc ?_ _)); done)
           · (refine HX1.out _ ?_; (repeat (first | with_reducible refine below_drew ?_ | with_reducible refine below_alloc ?_ _ | with_reducible exact Below.refl _ _)); done)
           · ((repeat (first | with_reducible refine below_drew ?_ | with_reducible refine below_alloc ?_ _ | with_reducible exact Below.refl _ _)); done)
           · (simp; omega)
           intro v1 w1 hv1 hbw1 hg1
           have HV1 := Lib.hid hv1
           have HBW := Lib.hid hbw1
           clear hv1 hbw1 hg1)
        | (refine app_step (w2 := w2) rfl (Operand.tmp 28) (Operand.tmp 30) rfl v1 ([] ++ cur.take kk) [(cur.length : Int)] _ _ _ rfl rfl ?_ ?_ ?_ ?_ ?_
           · ((repeat (first | with_reducible refine Kd.R_drew ?_ | with_reducible exact HV1.out | with_reducible refine R_made _ _ _ (by simp; done) (by simp; done) | with_reducible refine Kd.R_alloc ?_ _)); done)
           · (refine C_of_blk ?_; (repeat (first | with_reducible refine blk_lit _ _ _ (by simp; done) | with_reducible refine blk_drew ?_ | with_reducible refine blk_alloc ?_ _ | with_reducible exact B6.out)); done)
           · ((repeat (first | with_reducible refine below_drew ?_ | with_reducible refine below_alloc ?_ _ | with_reducible exact HBW.out)); done)
           · (simp; omega)
           clear HV1 HBW
           intro v2 w3 hv2 hbw2 hg2
           have HV2 := Lib.hid hv2
           have HBW := Lib.hid hbw2
           clear hv2 hbw2 hg2)
        | (refine app_step (w2 := w2) rfl (Operand.tmp 31) (Operand.tmp 34) rfl v2 ([] ++ cur.take kk ++ [(cur.length : Int)]) (cur.drop kk) _ _ _ rfl rfl ?_ ?_ ?_ ?_ ?_
           · ((repeat (first | with_reducible refine Kd.R_drew ?_ | with_reducible exact HV2.out | with_reducible refine R_made _ _ _ (by simp; done) (by simp; done) | with_reducible refine Kd.R_alloc ?_ _)); done)
           · (refine HX2.out _ ?_; (repeat (first | with_reducible refine below_drew ?_ | with_reducible refine below_alloc ?_ _ | with_reducible exact HBW.out)); done)
           · ((repeat (first | with_reducible refine below_drew ?_ | with_reducible refine below_alloc ?_ _ | with_reducible exact HBW.out)); done)
           · (simp; omega)
           clear HV2 HBW
           intro v3 w4 hv3 hbw3 hg3
           have HV3 := Lib.hid hv3
           have HBW := Lib.hid hbw3
           clear hv3 hbw3 hg3))
      all_goals
        have hRn : Kd.R (Kd.int .i64) 3 w4 w.heap.size (fun _ => True) v3 (ins cur kk (cur.length : Int)) := Kd.R_lower HV3.out HK2.out.1
        have hIn := HI2.out.below HBW.out
        have hBn := HB2.out.trans (HBW.out.mono HB2.out.size)
        have hKn := HK2.out.trans (KeepBut.of_below HBW.out g none) (.inl rfl)
        have HRn := Lib.hid hRn
        have HIn := Lib.hid hIn
        have HBn := Lib.hid hBn
        have HKn := Lib.hid hKn
        clear hRn hIn hBn hKn HV3 HBW HR2 HI2 HB2 HK2 HC2 HX1 HX2
        go_wp2
        go_roundw
        case rel => exact ⟨ins cur kk (cur.length : Int), q', by rw [ins_length _ _ _ hkk]; omega, by rw [ins_length _ _ _ hkk]; go_num, Lib.hid (by rw [ins_length _ _ _ hkk, show n - (cur.length + 1) = m by omega]; simpa using HP2.out), HIn, HBn, HKn, HRn⟩
        case measure => simp [intOf]; omega
    · have hz : n - cur.length = 0 := by omega
      have hp := HP.out
      rw [hz] at hp
      simp only [permL, Option.some.injEq, Prod.mk.injEq] at hp
      obtain ⟨rfl, rfl⟩ := hp
      clear HP
      obtain ⟨gg, cc, rfl, hgg, _⟩ := (Kd.own_of_R HRr.out).form (by omega)
      have hnn : ((cur.length : Nat) : Int) = (n : Int) := by omega
      have HN := Lib.hid hnn
      clear hnn
      have HH' := HH.out
      by_cases hs0 : s = 0
      · subst hs0
        rw [if_pos rfl] at HH'
        obtain ⟨rfl, rfl⟩ := HH'
        clear HH
        go_wp2_with fail
        refine (spec_l6Rd_pick.calls k g b q _ 0 p3 w0 _ HIr.out HBr.out Q3.out).mono ?_
        rintro e w2 ⟨rfl, hi2, hb2, hk2⟩
        have hr2 := R_keep' HRr.out hk2 hgw
        obtain ⟨hc0, hf0⟩ := Kd.R_celln 0 hr2 0 (by omega) (by omega)
        simp only [Int.toNat_zero] at hc0 hf0
        have hp2 := Kd.R_putg hr2 0 (n : Int)
        have HP2 := Lib.hid hp2
        have HI2 := Lib.hid hi2
        have HB2 := Lib.hid hb2
        have HK2 := Lib.hid (KeepBut.trans HKr.out hk2 (.inl rfl))
        clear hp2 hr2 hi2 hb2 hk2 HRr HIr HBr HKr
        go_wp2
        go_ret
        refine ⟨_, rfl, HP2.out.1, HI2.out.far (by show g ≠ gg; omega) _, HB2.out.setCell (by have := HI2.out.ge; show _ ≤ gg; omega) _, HK2.out.trans (KeepBut.of_grown HP2.out.2 g) (.inr ⟨gg, rfl, hgg⟩)⟩
      · rw [if_neg hs0] at HH'
        obtain ⟨rfl, rfl⟩ := HH'
        clear HH
        have hsb : ((s : Int) == 0) = false := by simpa using hs0
        go_wp2_with (first
          | (go_at_call 41; refine (spec_l6Rd_pick.calls k g b q _ s p3 w0 _ HIr.out HBr.out Q3.out).mono ?_; rintro e w2 ⟨rfl, hi2, hb2, hk2⟩))
        have hr2 := R_keep' HRr.out hk2 hgw
        go_ret
        exact ⟨_, rfl, hr2, hi2, hb2, KeepBut.trans HKr.out hk2 (.inl rfl)⟩
end Go.Proofs.Ytolegnmdcmfoiaa.S

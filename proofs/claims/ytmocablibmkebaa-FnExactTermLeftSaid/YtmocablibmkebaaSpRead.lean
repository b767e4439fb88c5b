/- The walk of spec.l11Read. -/
import Derived.Test.YtmocablibmkebaaQs0
import Derived.Test.YtmocablibmkebaaTm
import Derived.WalkKit
import Derived.Shelf.Abstract
import Derived.Outline
import Derived.Lib.Bytealg
import Derived.RegionTactic
import Derived.ChangeAlike
import Derived.Lib.Hide
namespace Go.Proofs.Ytmocablibmkebaa.S
open Go.RowKit Go.Proofs.YtmocablibmkebaaW.PrintWords Go.Proofs.YtmocablibmkebaaW.PrintMore Go.Proofs.Ytmocablibmkebaa.Qs
set_option linter.unusedVariables false
set_option linter.unusedSimpArgs false

/-- A term as the reference's tree. -/
def enc : Tm → S32
  | .o => ⟨111, []⟩
  | .one f a => ⟨us f, [enc a]⟩
  | .two v a b => ⟨bs v, [enc a, enc b]⟩

/-- What the reference reads from a place on. -/
def rdS (s : ByteArray) : Nat → Nat → Tm × Nat
  | 0, _ => (.o, 0)
  | n + 1, i =>
    if s.size ≤ i then (.o, 0)
    else if bt s i = 111 then (.o, i + 1)
    else if bt s i = 62 ∨ bt s i = 94 then (.one (bt s i == 94) (rdS s n (i + 1)).1, (rdS s n (i + 1)).2)
    else if bt s i ≠ 40 then (.o, 0)
    else if (rdS s n (i + 1)).2 = 0 ∨ s.size ≤ (rdS s n (i + 1)).2 ∨ (bt s (rdS s n (i + 1)).2 ≠ 124 ∧ bt s (rdS s n (i + 1)).2 ≠ 45) then (.o, 0)
    else if (rdS s n ((rdS s n (i + 1)).2 + 1)).2 = 0 ∨ s.size ≤ (rdS s n ((rdS s n (i + 1)).2 + 1)).2 ∨ bt s (rdS s n ((rdS s n (i + 1)).2 + 1)).2 ≠ 41 then (.o, 0)
    else (.two (bt s (rdS s n (i + 1)).2 == 124) (rdS s n (i + 1)).1 (rdS s n ((rdS s n (i + 1)).2 + 1)).1, (rdS s n ((rdS s n (i + 1)).2 + 1)).2 + 1)
theorem rdS_le (s : ByteArray) : ∀ (n i : Nat), (rdS s n i).2 ≤ s.size := by
  intro n
  induction n with
  | zero => intro i; exact Nat.zero_le _
  | succ n ih =>
    intro i
    have h1 := ih (i + 1)
    have h2 := ih ((rdS s n (i + 1)).2 + 1)
    simp only [rdS]
    repeat' split
    all_goals simp only
    all_goals omega

theorem rdS_ge (s : ByteArray) : ∀ (n i : Nat), (rdS s n i).2 = 0 ∨ i < (rdS s n i).2 := by
  intro n
  induction n with
  | zero => intro i; exact .inl rfl
  | succ n ih =>
    intro i
    have h1 := ih (i + 1)
    have h2 := ih ((rdS s n (i + 1)).2 + 1)
    simp only [rdS]
    repeat' split
    all_goals first
      | exact Or.inl rfl
      | (simp only; omega)

/-- A term of the reference lies in the heap. -/
def SpAt (W : World) (base : Nat) (t : Tm) (v : Value) : Prop := Kd.R k32 32 W base (fun _ => True) v (enc t).f1

theorem reps_k {W : World} {base : Nat} {ok : Nat → Prop} {a : Tm} {u : Value} (h : SpAt W base a u) (hlt : ∀ k, k < W.heap.size → base ≤ k → ok k) (o : Obj) :
    k32.M (W.alloc o) base ok (enc a) [.int .u8 (enc a).f0, u] :=
  k32_mkM _ _ _ _ (Kd.R_alloc (Kd.R_mono (Kd.R_bound h) (fun k hk => hlt k hk.2.2.1 hk.2.1)) o)
theorem sp_one {W : World} {base : Nat} {f : Bool} {a : Tm} {u : Value} (h : SpAt W base a u) (hb : base ≤ W.heap.size) :
    SpAt (W.alloc (Obj.cells #[.int .u8 (enc a).f0, u] 32)) base (.one f a) (.slice (some ⟨W.heap.size, 0, none⟩) 1 1) := by
  refine ⟨fun _ _ => trivial, [.int .u8 (enc a).f0, u], ⟨rfl, .inr ⟨W.heap.size, 1, #[.int .u8 (enc a).f0, u], rfl, hb, blk_new W _, Nat.le_refl _, by decide, rfl, rfl⟩⟩, rfl, ?_⟩
  intro j p hj
  match j, hj with
  | 0, hj =>
    obtain rfl := Option.some.inj hj
    exact reps_k h (fun k hk _ => ⟨trivial, fun e => by injection e with e; have e : k = W.heap.size := e; omega⟩) _
  | j + 1, hj => exact absurd hj (by simp [enc])
theorem sp_two {W : World} {base : Nat} {f : Bool} {a b : Tm} {u x : Value} (h : SpAt W base a u) (h2 : SpAt W base b x) (hb : base ≤ W.heap.size) :
    SpAt (W.alloc (Obj.cells #[.int .u8 (enc a).f0, u, .int .u8 (enc b).f0, x] 32)) base (.two f a b) (.slice (some ⟨W.heap.size, 0, none⟩) 2 2) := by
  refine ⟨fun _ _ => trivial, [.int .u8 (enc a).f0, u, .int .u8 (enc b).f0, x], ⟨rfl, .inr ⟨W.heap.size, 2, #[.int .u8 (enc a).f0, u, .int .u8 (enc b).f0, x], rfl, hb, blk_new W _, Nat.le_refl _, by decide, rfl, rfl⟩⟩, rfl, ?_⟩
  intro j p hj
  match j, hj with
  | 0, hj =>
    obtain rfl := Option.some.inj hj
    exact reps_k h (fun k hk _ => ⟨trivial, fun e => by injection e with e; have e : k = W.heap.size := e; omega⟩) _
  | 1, hj =>
    obtain rfl := Option.some.inj hj
    exact reps_k h2 (fun k hk _ => ⟨trivial, fun e => by injection e with e; have e : k = W.heap.size := e; omega⟩) _
  | j + 2, hj => exact absurd hj (by simp [enc])
theorem sp_o (W : World) (base g : Nat) (hb : base ≤ g) (hg : W.heap[g]? = some (Obj.cells #[] 32 (0, 0))) : SpAt W base .o (.slice (some ⟨g, 0, none⟩) 0 0) :=
  ⟨fun _ _ => trivial, [], ⟨rfl, .inr ⟨g, 0, #[], rfl, hb, hg, Nat.le_refl _, by decide, rfl, rfl⟩⟩, Reps.none _ _⟩

/-- The local variables of l11Read: the result, the empty list, the term 'none'. -/
structure Fr (g : Nat) (W : World) : Prop where
  res : W.heap[g]? = some (Obj.cells #[.int .u8 0, .slice none 0 0] 32 (0, 0))
  emp : W.heap[g + 1]? = some (Obj.cells #[] 32 (0, 0))
  non : W.heap[g + 1 + 1]? = some (Obj.cells #[.int .u8 111, .slice (some ⟨g + 1, 0, none⟩) 0 0] 32 (0, 0))
theorem Fr.below {g : Nat} {W W' : World} (h : Fr g W) (hb : Below W.heap.size W W') : Fr g W' := ⟨blk_below h.res hb, blk_below h.emp hb, blk_below h.non hb⟩
theorem three (w : World) (A B C : Obj) : (((w.alloc A).alloc B).alloc C).heap[w.heap.size]? = some A ∧ (((w.alloc A).alloc B).alloc C).heap[w.heap.size + 1]? = some B ∧ (((w.alloc A).alloc B).alloc C).heap[w.heap.size + 1 + 1]? = some C ∧ Below w.heap.size w (((w.alloc A).alloc B).alloc C) ∧ (((w.alloc A).alloc B).alloc C).heap.size = w.heap.size + 3 := by
  have e1 : w.heap.size + 1 = (w.alloc A).heap.size := by simp
  have e2 : w.heap.size + 1 + 1 = ((w.alloc A).alloc B).heap.size := by simp
  refine ⟨blk_alloc (blk_alloc (blk_new w A) B) C, ?_, ?_, below_alloc (below_alloc (below_alloc (Below.refl _ _) _) _) _, by simp⟩
  · rw [e1]; exact blk_alloc (blk_new _ B) C
  · rw [e2]; exact blk_new _ C
theorem Fr.new (w : World) : Fr w.heap.size (((w.alloc (Obj.cells #[.int .u8 0, .slice none 0 0] 32)).alloc (Obj.cells #[] 32)).alloc (Obj.cells #[.int .u8 111, .slice (some ⟨w.heap.size + 1, 0, none⟩) 0 0] 32)) :=
  ⟨(three w _ _ _).1, (three w _ _ _).2.1, (three w _ _ _).2.2.1⟩

theorem fin2 {W : World} {g : Nat} {x0 x1 u v : Value} (h : W.heap[g]? = some (Obj.cells #[x0, x1] 32 (0, 0))) : ((W.setCell ⟨g, 0, none⟩ u).setCell ⟨g, 1, none⟩ v).heap[g]? = some (Obj.cells #[u, v] 32 (0, 0)) :=
  blk_put (blk_put h 0 u rfl) 1 v rfl
theorem sp_far {W : World} {base g : Nat} {t : Tm} {v u0 u1 : Value} (h : SpAt W base t v) (hg : g < base) {b : Nat} (hb : b ≤ base) : SpAt ((W.setCell ⟨g, 0, none⟩ u0).setCell ⟨g, 1, none⟩ u1) b t v := by
  have h1 : Kd.R k32 32 W base (fun k => base ≤ k) v (enc t).f1 := Kd.R_mono (Kd.R_bound h) (fun k hk => hk.2.1)
  have hne : ∀ k, base ≤ k → k ≠ g := fun k hk e => by omega
  exact Kd.R_mono (Kd.R_lower (Kd.R_far (p := ⟨g, 1, none⟩) (Kd.R_far (p := ⟨g, 0, none⟩) h1 hne u0) hne u1) hb) (fun _ _ => trivial)
theorem below_far {w W : World} {B g : Nat} {u0 u1 : Value} (h : Below B w W) (hg : B ≤ g) : Below B w ((W.setCell ⟨g, 0, none⟩ u0).setCell ⟨g, 1, none⟩ u1) := (h.setCell hg _).setCell hg _
theorem sp_one' {W : World} {base : Nat} {f : Bool} {a : Tm} {u : Value} (X : Obj) (h : SpAt W base a u) (hb : base ≤ W.heap.size) :
    SpAt ((W.alloc X).alloc (Obj.cells #[.int .u8 (enc a).f0, u] 32)) base (.one f a) (.slice (some ⟨W.heap.size + 1, 0, none⟩) 1 1) := by
  have e : W.heap.size + 1 = (W.alloc X).heap.size := by simp
  rw [e]
  exact sp_one (Kd.R_alloc h X) (by rw [← e]; omega)
theorem sp_two' {W : World} {base : Nat} {f : Bool} {a b : Tm} {u x : Value} (X : Obj) (h : SpAt W base a u) (h2 : SpAt W base b x) (hb : base ≤ W.heap.size) :
    SpAt ((W.alloc X).alloc (Obj.cells #[.int .u8 (enc a).f0, u, .int .u8 (enc b).f0, x] 32)) base (.two f a b) (.slice (some ⟨W.heap.size + 1, 0, none⟩) 2 2) := by
  have e : W.heap.size + 1 = (W.alloc X).heap.size := by simp
  rw [e]
  exact sp_two (Kd.R_alloc h X) (Kd.R_alloc h2 X) (by rw [← e]; omega)

theorem fin_emp {W : World} {g : Nat} {u v : Value} (h : W.heap[g + 1]? = some (Obj.cells #[] 32 (0, 0))) : ((W.setCell ⟨g, 0, none⟩ u).setCell ⟨g, 1, none⟩ v).heap[g + 1]? = some (Obj.cells #[] 32 (0, 0)) :=
  (Below.heap_setCell _ ⟨g, 1, none⟩ v (g + 1) (by show g + 1 ≠ g; omega)).trans ((Below.heap_setCell _ ⟨g, 0, none⟩ u (g + 1) (by show g + 1 ≠ g; omega)).trans h)

set_option maxRecDepth 100000 in
set_option maxHeartbeats 4000000 in
theorem l11Read_calls (s : ByteArray) (hs : s.size ≤ 60) : ∀ (n i : Nat) (w : World), s.size - i < n → i ≤ s.size →
    Calls Try.prog 28 #[.string s, .int .i64 (i : Nat)] w fun e w' => ∃ v, e = .returned (.tuple #[.agg #[.int .u8 (enc (rdS s n i).1).f0, v], .int .i64 ((rdS s n i).2 : Nat)]) ∧ SpAt w' w.heap.size (rdS s n i).1 v ∧ Below w.heap.size w w' := by
  intro n
  induction n with
  | zero => intro i w h; exact absurd h (by omega)
  | succ n ih =>
    intro i w hlt hle
    generalize hres : rdS s (n + 1) i = res
    simp only [rdS] at hres
    by_cases h1 : s.size ≤ i
    · rw [if_pos h1] at hres
      subst hres
      have q2 : (s.size ≤ i) = True := eq_true h1
      clear h1 hlt hle ih
      go_enter Try.func28, Try.ntmps28
      go_wp2
      refine bodyPost_ret (results_ct rfl _ _ w.heap.size 32 #[.int .u8 111, .slice (some ⟨w.heap.size + 1, 0, none⟩) 0 0] (0, 0) _ rfl ?hcell Try.underlying32 rfl (by kernel_rfl)) rfl ?_
      all_goals first
        | exact (three w _ _ _).1
        | exact ⟨_, rfl, sp_o _ _ _ (Nat.le_succ _) (three w _ _ _).2.1, (three w _ _ _).2.2.2.1⟩
    have hx : ∀ h : i < s.size, ((s[i]'h).toNat : Int) = bt s (i : Nat) := bt_at s (i : Nat)
    have hlt2 : i < s.size := by omega
    have q1 : (i < s.size) = True := eq_true hlt2
    have q2 : (s.size ≤ i) = False := eq_false h1
    have HIH := Lib.hid ih
    rw [if_neg h1] at hres
    have HN := Lib.hid hlt
    clear ih hlt h1 hle hlt2
    have hw : wrap64 ((i : Int) + 1) = (i : Int) + 1 := by have := of_eq_true q1; unfold wrap64; omega
    have hw2 : IntKind.i64.wrap ((i : Int) + 1) = (i : Int) + 1 := IntWalk.i64_in _ (by have := of_eq_true q1; omega)
    generalize bt s (i : Nat) = c at *
    by_cases h111 : c = 111
    · rw [if_pos h111] at hres
      subst hres h111
      go_enter Try.func28, Try.ntmps28
      go_wp2
      refine bodyPost_ret (results_ct rfl _ _ w.heap.size 32 #[.int .u8 111, .slice (some ⟨w.heap.size + 1, 0, none⟩) 0 0] (0, 0) _ rfl ?hcell Try.underlying32 rfl (by kernel_rfl)) rfl ?_
      all_goals first
        | exact (three w _ _ _).1
        | exact ⟨_, rfl, sp_o _ _ _ (Nat.le_succ _) (three w _ _ _).2.1, (three w _ _ _).2.2.2.1⟩
    rw [if_neg h111] at hres
    have e111 : (c == 111) = false := beq_eq_false_iff_ne.mpr h111
    clear h111
    by_cases h62 : c = 62 ∨ c = 94
    · rw [if_pos h62] at hres
      have HE := Lib.hid hres
      have hi1 : s.size - (i + 1) < n ∧ i + 1 ≤ s.size := by have := HN.out; have := of_eq_true q1; omega
      have hw3 : ((i + 1 : Nat) : Int) = (i : Int) + 1 := by push_cast; rfl
      have CALL := Lib.hid (fun W => HIH.out (i + 1) W hi1.1 hi1.2)
      rw [hw3] at CALL
      clear hres HIH hi1 hw3 HN
      rcases h62 with rfl | rfl <;> (
        go_enter Try.func28, Try.ntmps28
        go_wp2_with fail
        have hfr := Fr.new w
        have hbl := (three w (Obj.cells #[.int .u8 0, .slice none 0 0] 32) (Obj.cells #[] 32) (Obj.cells #[.int .u8 111, .slice (some ⟨w.heap.size + 1, 0, none⟩) 0 0] 32)).2.2.2
        generalize (((w.alloc (Obj.cells #[.int .u8 0, .slice none 0 0] 32)).alloc (Obj.cells #[] 32)).alloc (Obj.cells #[.int .u8 111, .slice (some ⟨w.heap.size + 1, 0, none⟩) 0 0] 32)) = W1 at *
        obtain ⟨hb1, hsz1⟩ := hbl
        refine (CALL.out W1).mono ?_
        rintro e W2 ⟨v, rfl, hS, hb2⟩
        have HF := Lib.hid (hfr.below hb2)
        have HB := Lib.hid (hb1.trans (hb2.mono hb1.size))
        obtain ⟨A, cp, rfl⟩ := Kd.R_slice hS
        have HS := Lib.hid hS
        have hA : ∀ X Y : Obj, ((W2.alloc X).alloc Y).heap[w.heap.size]? = some (Obj.cells #[.int .u8 0, .slice none 0 0] 32 (0, 0)) := fun X Y => blk_alloc (blk_alloc HF.out.res X) Y
        have hc0 : ∀ X Y : Obj, ((W2.alloc X).alloc Y).cell? ⟨w.heap.size, 0, none⟩ = some (.int .u8 0) := fun X Y => (blk_cell (hA X Y) 0).trans rfl
        have hc1 : ∀ X Y : Obj, ((W2.alloc X).alloc Y).cell? ⟨w.heap.size, 1, none⟩ = some (.slice none 0 0) := fun X Y => (blk_cell (hA X Y) 1).trans rfl
        have hf0 : ∀ X Y : Obj, ((W2.alloc X).alloc Y).frozen? ⟨w.heap.size, 0, none⟩ = false := fun X Y => blk_frozen (hA X Y) 0
        have hf1 : ∀ X Y : Obj, ((W2.alloc X).alloc Y).frozen? ⟨w.heap.size, 1, none⟩ = false := fun X Y => blk_frozen (hA X Y) 1
        have HA := Lib.hid hA
        have HG := Lib.hid (show w.heap.size < W1.heap.size ∧ W1.heap.size ≤ W2.heap.size from ⟨by omega, hb2.size⟩)
        clear hA hfr hb1 hb2 hS CALL hsz1
        go_wp2_with fail
        have he := HE.out
        subst he
        refine bodyPost_ret (results_ct rfl _ _ w.heap.size 32 #[_, .slice (some ⟨W2.heap.size + 1, 0, none⟩) 1 1] (0, 0) _ rfl (fin2 (HA.out _ _)) Try.underlying32 rfl (by kernel_rfl)) rfl ?_
        exact ⟨_, rfl, sp_far (sp_one' _ HS.out HG.out.2) HG.out.1 (Nat.le_of_lt HG.out.1), below_far (below_alloc (below_alloc HB.out _) _) (Nat.le_refl _)⟩)
    rw [if_neg h62] at hres
    have e62 : (c == 62) = false := beq_eq_false_iff_ne.mpr (fun h => h62 (.inl h))
    have e94 : (c == 94) = false := beq_eq_false_iff_ne.mpr (fun h => h62 (.inr h))
    clear h62
    by_cases h40 : c ≠ 40
    · rw [if_pos h40] at hres
      have e40 : (c == 40) = false := beq_eq_false_iff_ne.mpr h40
      have n40 : (c != 40) = true := bne_iff_ne.mpr h40
      subst hres
      clear h40
      go_enter Try.func28, Try.ntmps28
      go_wp2
      refine bodyPost_ret (results_ct rfl _ _ w.heap.size 32 #[.int .u8 111, .slice (some ⟨w.heap.size + 1, 0, none⟩) 0 0] (0, 0) _ rfl ?hcell Try.underlying32 rfl (by kernel_rfl)) rfl ?_
      all_goals first
        | exact (three w _ _ _).1
        | exact ⟨_, rfl, sp_o _ _ _ (Nat.le_succ _) (three w _ _ _).2.1, (three w _ _ _).2.2.2.1⟩
    rw [if_neg h40] at hres
    obtain rfl : c = 40 := Decidable.not_not.1 h40
    clear h40 e62 e94 e111
    have HE := Lib.hid hres
    have hi1 : s.size - (i + 1) < n ∧ i + 1 ≤ s.size := by have := HN.out; have := of_eq_true q1; omega
    have hw3 : ((i + 1 : Nat) : Int) = (i : Int) + 1 := by push_cast; rfl
    have CALL := Lib.hid (fun W => HIH.out (i + 1) W hi1.1 hi1.2)
    rw [hw3] at CALL
    have HM := Lib.hid (rdS_le s n (i + 1))
    have HM2 := Lib.hid (rdS_ge s n (i + 1))
    have HN2 := Lib.hid (show s.size - i < n + 1 from HN.out)
    clear hres hi1 hw3 HN
    generalize rdS s n (i + 1) = ra at *
    obtain ⟨ta, m⟩ := ra
    go_enter Try.func28, Try.ntmps28
    go_wp2_with fail
    have hfr := Fr.new w
    have hbl := (three w (Obj.cells #[.int .u8 0, .slice none 0 0] 32) (Obj.cells #[] 32) (Obj.cells #[.int .u8 111, .slice (some ⟨w.heap.size + 1, 0, none⟩) 0 0] 32)).2.2.2
    generalize (((w.alloc (Obj.cells #[.int .u8 0, .slice none 0 0] 32)).alloc (Obj.cells #[] 32)).alloc (Obj.cells #[.int .u8 111, .slice (some ⟨w.heap.size + 1, 0, none⟩) 0 0] 32)) = W1 at *
    obtain ⟨hb1, hsz1⟩ := hbl
    refine (CALL.out W1).mono ?_
    rintro e W2 ⟨v, rfl, hS, hb2⟩
    have HF := Lib.hid (hfr.below hb2)
    have HB := Lib.hid (hb1.trans (hb2.mono hb1.size))
    obtain ⟨A, cp, rfl⟩ := Kd.R_slice hS
    have HS := Lib.hid hS
    have HG := Lib.hid (show w.heap.size < W1.heap.size ∧ W1.heap.size ≤ W2.heap.size from ⟨by omega, hb2.size⟩)
    clear hfr hb1 hb2 hS CALL hsz1
    by_cases h13 : m = 0 ∨ s.size ≤ m ∨ (bt s (m : Nat) ≠ 124 ∧ bt s (m : Nat) ≠ 45)
    · have he := HE.out
      rw [if_pos h13] at he
      subst he
      clear HE HM
      have hc0 : ∀ X : Obj, (W2.alloc X).cell? ⟨w.heap.size, 0, none⟩ = some (.int .u8 0) := fun X => (blk_cell (blk_alloc HF.out.res X) 0).trans rfl
      have hc1 : ∀ X : Obj, (W2.alloc X).cell? ⟨w.heap.size, 1, none⟩ = some (.slice none 0 0) := fun X => (blk_cell (blk_alloc HF.out.res X) 1).trans rfl
      have hf0 : ∀ X : Obj, (W2.alloc X).frozen? ⟨w.heap.size, 0, none⟩ = false := fun X => blk_frozen (blk_alloc HF.out.res X) 0
      have hf1 : ∀ X : Obj, (W2.alloc X).frozen? ⟨w.heap.size, 1, none⟩ = false := fun X => blk_frozen (blk_alloc HF.out.res X) 1
      have hc2 : ∀ X : Obj, (W2.alloc X).cell? ⟨w.heap.size + 1 + 1, 0, none⟩ = some (.int .u8 111) := fun X => (blk_cell (blk_alloc HF.out.non X) 0).trans rfl
      have hc3 : ∀ X : Obj, (W2.alloc X).cell? ⟨w.heap.size + 1 + 1, 1, none⟩ = some (.slice (some ⟨w.heap.size + 1, 0, none⟩) 0 0) := fun X => (blk_cell (blk_alloc HF.out.non X) 1).trans rfl
      have HA := Lib.hid (fun X => blk_alloc HF.out.res X)
      have HD := Lib.hid (fun X => blk_alloc HF.out.emp X)
      by_cases hm0 : m = 0
      · subst hm0
        go_wp2_with fail
        refine bodyPost_ret (results_ct rfl _ _ w.heap.size 32 #[.int .u8 111, .slice (some ⟨w.heap.size + 1, 0, none⟩) 0 0] (0, 0) _ rfl (fin2 (HA.out _)) Try.underlying32 rfl (by kernel_rfl)) rfl ?_
        exact ⟨_, rfl, sp_o _ _ _ (Nat.le_succ _) (fin_emp (HD.out _)), below_far (below_alloc HB.out _) (Nat.le_refl _)⟩
      have e0 : ((m : Int) == 0) = false := beq_eq_false_iff_ne.mpr (by omega)
      have e1 : (m == 0) = false := beq_eq_false_iff_ne.mpr hm0
      have e2 : (m = 0) = False := eq_false hm0
      clear hm0
      by_cases hms : s.size ≤ m
      · have q3 : (s.size ≤ m) = True := eq_true hms
        clear hms h13
        go_wp2_with fail
        refine bodyPost_ret (results_ct rfl _ _ w.heap.size 32 #[.int .u8 111, .slice (some ⟨w.heap.size + 1, 0, none⟩) 0 0] (0, 0) _ rfl (fin2 (HA.out _)) Try.underlying32 rfl (by kernel_rfl)) rfl ?_
        exact ⟨_, rfl, sp_o _ _ _ (Nat.le_succ _) (fin_emp (HD.out _)), below_far (below_alloc HB.out _) (Nat.le_refl _)⟩
      have q3 : (s.size ≤ m) = False := eq_false hms
      have q4 : (m < s.size) = True := eq_true (by omega)
      have hx2 : ∀ h : m < s.size, ((s[m]'h).toNat : Int) = bt s (m : Nat) := bt_at s (m : Nat)
      have hb : bt s (m : Nat) ≠ 124 ∧ bt s (m : Nat) ≠ 45 := by
        rcases h13 with h | h | h
        · rw [h] at e2; simp at e2
        · exact absurd h hms
        · exact h
      clear hms h13
      generalize bt s (m : Nat) = b at *
      have b1 : (b != 124) = true := bne_iff_ne.mpr hb.1
      have b2 : (b != 45) = true := bne_iff_ne.mpr hb.2
      have b3 : (b == 124) = false := beq_eq_false_iff_ne.mpr hb.1
      have b4 : (b == 45) = false := beq_eq_false_iff_ne.mpr hb.2
      clear hb
      go_wp2_with fail
      refine bodyPost_ret (results_ct rfl _ _ w.heap.size 32 #[.int .u8 111, .slice (some ⟨w.heap.size + 1, 0, none⟩) 0 0] (0, 0) _ rfl (fin2 (HA.out _)) Try.underlying32 rfl (by kernel_rfl)) rfl ?_
      exact ⟨_, rfl, sp_o _ _ _ (Nat.le_succ _) (fin_emp (HD.out _)), below_far (below_alloc HB.out _) (Nat.le_refl _)⟩
    have he := HE.out
    rw [if_neg h13] at he
    have HE2 := Lib.hid he
    have h13a : m ≠ 0 ∧ m < s.size ∧ (bt s (m : Nat) = 124 ∨ bt s (m : Nat) = 45) := by
      refine ⟨fun h => h13 (.inl h), by have : ¬ s.size ≤ m := fun h => h13 (.inr (.inl h)); omega, ?_⟩
      by_cases h : bt s (m : Nat) = 124
      · exact .inl h
      · exact .inr (Decidable.not_not.1 (fun h2 => h13 (.inr (.inr ⟨h, h2⟩))))
    clear HE he h13
    obtain ⟨hm0, hms, hb⟩ := h13a
    have e0 : ((m : Int) == 0) = false := beq_eq_false_iff_ne.mpr (by omega)
    have e1 : (m == 0) = false := beq_eq_false_iff_ne.mpr hm0
    have e2 : (m = 0) = False := eq_false hm0
    have q3 : (s.size ≤ m) = False := eq_false (by omega)
    have q4 : (m < s.size) = True := eq_true (by omega)
    have hx2 : ∀ h : m < s.size, ((s[m]'h).toNat : Int) = bt s (m : Nat) := bt_at s (m : Nat)
    have hw4 : wrap64 ((m : Int) + 1) = (m : Int) + 1 := by unfold wrap64; omega
    have hw5 : IntKind.i64.wrap ((m : Int) + 1) = (m : Int) + 1 := IntWalk.i64_in _ (by omega)
    have hi1 : s.size - (m + 1) < n ∧ m + 1 ≤ s.size := by have := HN2.out; have := HM2.out; (try simp only at this); omega
    have hw3 : ((m + 1 : Nat) : Int) = (m : Int) + 1 := by push_cast; rfl
    have CALL := Lib.hid (fun W => HIH.out (m + 1) W hi1.1 hi1.2)
    rw [hw3] at CALL
    have HP := Lib.hid (rdS_le s n (m + 1))
    clear HIH HN2 HM HM2 hm0 hms hi1 hw3
    generalize rdS s n (m + 1) = rb at *
    obtain ⟨tb, p⟩ := rb
    generalize bt s (m : Nat) = b at *
    rcases hb with rfl | rfl <;> (
      go_wp2_with fail
      have hfr := Lib.hid (HF.out.below (below_alloc (Below.refl _ W2) (Obj.cells #[.int .u8 (enc ta).f0, .slice A (enc ta).f1.length cp] 32)))
      have hbx := Lib.hid (blk_new W2 (Obj.cells #[.int .u8 (enc ta).f0, .slice A (enc ta).f1.length cp] 32))
      have hB2 := Lib.hid (below_alloc HB.out (Obj.cells #[.int .u8 (enc ta).f0, .slice A (enc ta).f1.length cp] 32))
      have hS2 := Lib.hid (Kd.R_alloc HS.out (Obj.cells #[.int .u8 (enc ta).f0, .slice A (enc ta).f1.length cp] 32))
      have hs2 : (W2.alloc (Obj.cells #[.int .u8 (enc ta).f0, .slice A (enc ta).f1.length cp] 32)).heap.size = W2.heap.size + 1 := by simp
      generalize W2.alloc (Obj.cells #[.int .u8 (enc ta).f0, .slice A (enc ta).f1.length cp] 32) = V at *
      refine (CALL.out V).mono ?_
      rintro e W3 ⟨v2, rfl, hS3, hb3⟩
      have HF3 := Lib.hid (hfr.out.below hb3)
      have HB3 := Lib.hid (hB2.out.trans (hb3.mono hB2.out.size))
      obtain ⟨A2, cp2, rfl⟩ := Kd.R_slice hS3
      have HS3 := Lib.hid (show SpAt W3 W1.heap.size tb _ from Kd.R_lower hS3 (by have := HG.out.2; omega))
      have HS2 := Lib.hid (show SpAt W3 W1.heap.size ta _ from Kd.R_below hS2.out hb3)
      have HX := Lib.hid (blk_below hbx.out hb3)
      have HG2 := Lib.hid (show w.heap.size < W1.heap.size ∧ W1.heap.size ≤ W3.heap.size from ⟨HG.out.1, by have := HG.out.2; have := hb3.size; omega⟩)
      clear hfr hbx hB2 hS2 hs2 hS3 hb3 CALL HF HB HS HG
      have hd0 : ∀ X : Obj, (W3.alloc X).cell? ⟨W2.heap.size, 0, none⟩ = some (.int .u8 (enc ta).f0) := fun X => (blk_cell (blk_alloc HX.out X) 0).trans rfl
      have hd1 : ∀ X : Obj, (W3.alloc X).cell? ⟨W2.heap.size, 1, none⟩ = some (.slice A (enc ta).f1.length cp) := fun X => (blk_cell (blk_alloc HX.out X) 1).trans rfl
      have hc0 : ∀ X : Obj, (W3.alloc X).cell? ⟨w.heap.size, 0, none⟩ = some (.int .u8 0) := fun X => (blk_cell (blk_alloc HF3.out.res X) 0).trans rfl
      have hc1 : ∀ X : Obj, (W3.alloc X).cell? ⟨w.heap.size, 1, none⟩ = some (.slice none 0 0) := fun X => (blk_cell (blk_alloc HF3.out.res X) 1).trans rfl
      have hf0 : ∀ X : Obj, (W3.alloc X).frozen? ⟨w.heap.size, 0, none⟩ = false := fun X => blk_frozen (blk_alloc HF3.out.res X) 0
      have hf1 : ∀ X : Obj, (W3.alloc X).frozen? ⟨w.heap.size, 1, none⟩ = false := fun X => blk_frozen (blk_alloc HF3.out.res X) 1
      have hc2 : ∀ X : Obj, (W3.alloc X).cell? ⟨w.heap.size + 1 + 1, 0, none⟩ = some (.int .u8 111) := fun X => (blk_cell (blk_alloc HF3.out.non X) 0).trans rfl
      have hc3 : ∀ X : Obj, (W3.alloc X).cell? ⟨w.heap.size + 1 + 1, 1, none⟩ = some (.slice (some ⟨w.heap.size + 1, 0, none⟩) 0 0) := fun X => (blk_cell (blk_alloc HF3.out.non X) 1).trans rfl
      have HA := Lib.hid (fun X => blk_alloc HF3.out.res X)
      have HD := Lib.hid (fun X => blk_alloc HF3.out.emp X)
      by_cases h16 : p = 0 ∨ s.size ≤ p ∨ bt s (p : Nat) ≠ 41
      · have he := HE2.out
        rw [if_pos h16] at he
        subst he
        clear HE2 HP
        by_cases hp0 : p = 0
        · subst hp0
          go_wp2_with fail
          refine bodyPost_ret (results_ct rfl _ _ w.heap.size 32 #[.int .u8 111, .slice (some ⟨w.heap.size + 1, 0, none⟩) 0 0] (0, 0) _ rfl (fin2 (HA.out _)) Try.underlying32 rfl (by kernel_rfl)) rfl ?_
          exact ⟨_, rfl, sp_o _ _ _ (Nat.le_succ _) (fin_emp (HD.out _)), below_far (below_alloc HB3.out _) (Nat.le_refl _)⟩
        have f0 : ((p : Int) == 0) = false := beq_eq_false_iff_ne.mpr (by omega)
        have f1 : (p == 0) = false := beq_eq_false_iff_ne.mpr hp0
        have f2 : (p = 0) = False := eq_false hp0
        clear hp0
        by_cases hps : s.size ≤ p
        · have q5 : (s.size ≤ p) = True := eq_true hps
          clear hps h16
          go_wp2_with fail
          refine bodyPost_ret (results_ct rfl _ _ w.heap.size 32 #[.int .u8 111, .slice (some ⟨w.heap.size + 1, 0, none⟩) 0 0] (0, 0) _ rfl (fin2 (HA.out _)) Try.underlying32 rfl (by kernel_rfl)) rfl ?_
          exact ⟨_, rfl, sp_o _ _ _ (Nat.le_succ _) (fin_emp (HD.out _)), below_far (below_alloc HB3.out _) (Nat.le_refl _)⟩
        have q5 : (s.size ≤ p) = False := eq_false hps
        have q6 : (p < s.size) = True := eq_true (by omega)
        have hx3 : ∀ h : p < s.size, ((s[p]'h).toNat : Int) = bt s (p : Nat) := bt_at s (p : Nat)
        have hb : bt s (p : Nat) ≠ 41 := by
          rcases h16 with h | h | h
          · rw [h] at f2; simp at f2
          · exact absurd h hps
          · exact h
        clear hps h16
        generalize bt s (p : Nat) = b at *
        have b1 : (b != 41) = true := bne_iff_ne.mpr hb
        have b3 : (b == 41) = false := beq_eq_false_iff_ne.mpr hb
        clear hb
        go_wp2_with fail
        refine bodyPost_ret (results_ct rfl _ _ w.heap.size 32 #[.int .u8 111, .slice (some ⟨w.heap.size + 1, 0, none⟩) 0 0] (0, 0) _ rfl (fin2 (HA.out _)) Try.underlying32 rfl (by kernel_rfl)) rfl ?_
        exact ⟨_, rfl, sp_o _ _ _ (Nat.le_succ _) (fin_emp (HD.out _)), below_far (below_alloc HB3.out _) (Nat.le_refl _)⟩
      have he := HE2.out
      rw [if_neg h16] at he
      subst he
      have h16a : p ≠ 0 ∧ p < s.size ∧ bt s (p : Nat) = 41 := by
        refine ⟨fun h => h16 (.inl h), by have : ¬ s.size ≤ p := fun h => h16 (.inr (.inl h)); omega, Decidable.not_not.1 (fun h2 => h16 (.inr (.inr h2)))⟩
      clear HE2 h16
      obtain ⟨hp0, hps, hb⟩ := h16a
      have f0 : ((p : Int) == 0) = false := beq_eq_false_iff_ne.mpr (by omega)
      have f1 : (p == 0) = false := beq_eq_false_iff_ne.mpr hp0
      have f2 : (p = 0) = False := eq_false hp0
      have q5 : (s.size ≤ p) = False := eq_false (by omega)
      have q6 : (p < s.size) = True := eq_true hps
      have hx3 : ∀ h : p < s.size, ((s[p]'h).toNat : Int) = 41 := fun h => (bt_at s (p : Nat) h).trans hb
      have hw6 : wrap64 ((p : Int) + 1) = (p : Int) + 1 := by unfold wrap64; omega
      have hw7 : IntKind.i64.wrap ((p : Int) + 1) = (p : Int) + 1 := IntWalk.i64_in _ (by omega)
      clear hp0 hps hb HP
      have hA2 : ∀ X Y : Obj, ((W3.alloc X).alloc Y).heap[w.heap.size]? = some (Obj.cells #[.int .u8 0, .slice none 0 0] 32 (0, 0)) := fun X Y => blk_alloc (blk_alloc HF3.out.res X) Y
      have hg0 : ∀ X Y : Obj, ((W3.alloc X).alloc Y).cell? ⟨w.heap.size, 0, none⟩ = some (.int .u8 0) := fun X Y => (blk_cell (hA2 X Y) 0).trans rfl
      have hg1 : ∀ X Y : Obj, ((W3.alloc X).alloc Y).cell? ⟨w.heap.size, 1, none⟩ = some (.slice none 0 0) := fun X Y => (blk_cell (hA2 X Y) 1).trans rfl
      have hh0 : ∀ X Y : Obj, ((W3.alloc X).alloc Y).frozen? ⟨w.heap.size, 0, none⟩ = false := fun X Y => blk_frozen (hA2 X Y) 0
      have hh1 : ∀ X Y : Obj, ((W3.alloc X).alloc Y).frozen? ⟨w.heap.size, 1, none⟩ = false := fun X Y => blk_frozen (hA2 X Y) 1
      have HA2 := Lib.hid hA2
      clear hA2 HA HD hc0 hc1 hf0 hf1 hc2 hc3
      go_wp2_with fail
      go_region
      go_wp2
      refine bodyPost_ret (results_ct rfl _ _ w.heap.size 32 #[_, .slice (some ⟨W3.heap.size + 1, 0, none⟩) 2 2] (0, 0) _ rfl (blk_drew (fin2 (HA2.out _ _))) Try.underlying32 rfl (by kernel_rfl)) rfl ?_
      exact ⟨_, rfl, Kd.R_drew (sp_far (sp_two' _ HS2.out HS3.out HG2.out.2) HG2.out.1 (Nat.le_of_lt HG2.out.1)), below_drew1 (below_far (below_alloc (below_alloc HB3.out _) _) (Nat.le_refl _))⟩)

/-- A whole text, by the reference. -/
def ofS (s : ByteArray) : Tm × Bool :=
  if 60 < s.size ∨ 7 < Lib.countByte s.data.toList 111 then (.o, false) else ((rdS s 62 0).1, decide (0 < (rdS s 62 0).2 ∧ (rdS s 62 0).2 = s.size))
end Go.Proofs.Ytmocablibmkebaa.S

/- Signs are moved inwards: what (*term).inward returns. -/
import Derived.Test.YtmocablibmkebaaTermOf
import Derived.Deep.RegionHeld3
import Derived.StillTailTactics
import Derived.Deep.DeepCutAuto
import Derived.KernelRfl
namespace Go.Proofs.Ytmocablibmkebaa.S
open Go.RowKit Go.Proofs.YtmocablibmkebaaW.PrintWords Go.Proofs.YtmocablibmkebaaW.PrintMore Go.Proofs.Ytmocablibmkebaa.Qi
set_option linter.unusedVariables false
set_option linter.unusedSimpArgs false

/-- Two terms under a sign that has come in. -/
def mk (s : Int) (v : Bool) (x y : Tm) : Tm :=
  if s = 62 then (if v = true then .two false x y else .two true y x) else if s = 94 ∧ v = true then .two true y x else .two v x y
/-- A sign comes into a tidy term. -/
def mv (s : Int) : Tm → Tm
  | .o => .o
  | .one f a => .one f a
  | .two v a b => mk s v (mv s a) (mv s b)
/-- What inward returns. -/
def inw : Tm → Int → Tm
  | .o, _ => .o
  | .one f a, s => if s = 0 then inw a (us f) else mv s (inw a (us f))
  | .two v a b, s => mk s v (inw a s) (inw b s)
/-- No sign stands in front. -/
def Td : Tm → Prop
  | .o => True
  | .one _ _ => False
  | .two _ a b => Td a ∧ Td b
theorem Td.mk {s : Int} {v : Bool} {x y : Tm} (hx : Td x) (hy : Td y) : Td (mk s v x y) := by
  unfold S.mk
  split
  · split
    · exact ⟨hx, hy⟩
    · exact ⟨hy, hx⟩
  · split
    · exact ⟨hy, hx⟩
    · exact ⟨hx, hy⟩
theorem Td.mv {s : Int} : ∀ {t : Tm}, Td t → Td (mv s t)
  | .o, _ => trivial
  | .one _ _, h => h.elim
  | .two _ _ _, h => Td.mk (Td.mv h.1) (Td.mv h.2)
theorem Td.inw : ∀ (t : Tm) (s : Int), Td (inw t s)
  | .o, _ => trivial
  | .one f a, s => by
    unfold S.inw
    split
    · exact Td.inw a _
    · exact Td.mv (Td.inw a _)
  | .two _ a b, s => Td.mk (Td.inw a s) (Td.inw b s)

/-- A call hands back a pointer to the term T. -/
abbrev Gives (f : FuncId) (args : Array Value) (W : World) (T : Tm) : Prop :=
  Calls Try.prog f args W fun e w' => ∃ v', e = .returned v' ∧ TmAt w' v' T ∧ Below W.heap.size W w'

theorem hold3 {W w2 : World} {a0 a1 a2 : Addr} {v0 v1 v2 : Value} (hq : Below W.heap.size W w2) (h0 : W.cell? a0 = some v0) (h1 : W.cell? a1 = some v1) (h2 : W.cell? a2 = some v2) :
    Below W.heap.size W w2 ∧ w2.cell? a0 = some v0 ∧ w2.cell? a1 = some v1 ∧ w2.cell? a2 = some v2 :=
  ⟨hq, (hq.cell (World.block_lt_of_cell? W _ h0)).trans h0, (hq.cell (World.block_lt_of_cell? W _ h1)).trans h1, (hq.cell (World.block_lt_of_cell? W _ h2)).trans h2⟩

set_option maxRecDepth 100000 in
set_option maxHeartbeats 4000000 in
theorem inward_o (s : Int) (v : Value) (W : World) (h : TmAt W v .o) : Gives 33 #[v, .int .u8 s] W .o := by
  obtain ⟨l, rfl, hl⟩ := h
  have hc0 : W.cell? ⟨l, 0, none⟩ = some (.int .u8 111) := (blk_cell hl 0).trans rfl
  unfold Gives
  have HL := Lib.hid hl
  clear hl
  go_enter Try.func33, Try.ntmps33
  go_wp2
  go_ret
  exact ⟨_, rfl, ⟨l, rfl, HL.out⟩, Below.refl _ _⟩

set_option maxRecDepth 100000 in
set_option maxHeartbeats 4000000 in
theorem inward_two (s : Int) (hs : s = 0 ∨ s = 62 ∨ s = 94) (p : Bool) (a b ra rb : Tm)
    (ca : ∀ v W, TmAt W v a → Gives 33 #[v, .int .u8 s] W ra)
    (cb : ∀ v W, TmAt W v b → Gives 33 #[v, .int .u8 s] W rb)
    (v : Value) (W : World) (h : TmAt W v (.two p a b)) : Gives 33 #[v, .int .u8 s] W (mk s p ra rb) := by
  obtain ⟨l, k, u, x, rfl, hl, hk, ha, hb⟩ := h
  have hc0 : W.cell? ⟨l, 0, none⟩ = some (.int .u8 (bs p)) := (blk_cell hl 0).trans rfl
  have hc1 : W.cell? ⟨l, 1, none⟩ = some (.slice (some ⟨k, 0, none⟩) 2 2) := (blk_cell hl 1).trans rfl
  have hc2 : W.cell? ⟨k, 0, none⟩ = some u := (blk_cell hk 0).trans rfl
  have hc3 : W.cell? ⟨k, 1, none⟩ = some x := (blk_cell hk 1).trans rfl
  have A : Hid (∀ W', Below W.heap.size W W' → Gives 33 #[u, .int .u8 s] W' ra) := Lib.hid (fun W' hb' => ca u W' (ha.below hb'))
  have B : Hid (∀ W', Below W.heap.size W W' → Gives 33 #[x, .int .u8 s] W' rb) := Lib.hid (fun W' hb' => cb x W' (hb.below hb'))
  have H0 := Lib.hid hc0
  clear hl hk ha hb ca cb
  unfold Gives
  rcases hs with rfl | rfl | rfl <;> cases p <;> simp only [bs, if_true, if_false, Bool.false_eq_true, reduceIte] at hc0 H0
  all_goals
    go_enter Try.func33, Try.ntmps33
    go_wp2_with fail
    go_region_held3 (fun w' => Below W.heap.size W w' ∧ w'.cell? ⟨l, 1, none⟩ = some (.slice (some ⟨k, 0, none⟩) 2 2) ∧ w'.cell? ⟨k, 0, none⟩ = some u ∧ w'.cell? ⟨k, 1, none⟩ = some x)
      (first
        | exact ⟨below_drew1 (Below.refl _ _), hc1, hc2, hc3⟩
        | (go_split_ands; exact hold3 (below_step (by assumption) (by assumption)) hc1 hc2 hc3))
      (first
        | (go_at_call 33; with_reducible refine (A.out _ ?hb).mono ?_; (case hb => first | assumption | (go_split_ands; assumption)); rintro e w1 ⟨v1, rfl, ht1, hb1⟩)
        | (go_at_call 33; with_reducible refine (B.out _ ?hb).mono ?_; (case hb => first | assumption | (go_split_ands; assumption)); rintro e w2 ⟨v2, rfl, ht2, hb2⟩))
    obtain ⟨m1, rfl⟩ := TmAt.ptr ht1
    obtain ⟨m2, rfl⟩ := TmAt.ptr ht2
    have HT1 := Lib.hid (ht1.below hb2)
    have HT2 := Lib.hid ht2
    have HB : Hid (Below W.heap.size W w2) := Lib.hid (by first | assumption | (go_split_ands; assumption))
    have hd0 := (HB.out.cell (World.block_lt_of_cell? W _ hc0)).trans hc0
    clear ht1 ht2 hb1 hb2
    go_wp2
    go_ret
    first
      | exact ⟨_, rfl, TmAt.new_two rfl HT1.out HT2.out, below_alloc (below_alloc HB.out _) _⟩
      | exact ⟨_, rfl, TmAt.new_two rfl HT2.out HT1.out, below_alloc (below_alloc HB.out _) _⟩

theorem inward_tidy : ∀ (t : Tm), Td t → ∀ (s : Int), s = 0 ∨ s = 62 ∨ s = 94 → ∀ (v : Value) (W : World), TmAt W v t → Gives 33 #[v, .int .u8 s] W (mv s t) := by
  intro t
  induction t with
  | o => intro _ s _ v W h; exact inward_o s v W h
  | one f a => intro h; exact h.elim
  | two p a b iha ihb =>
    intro ht s hs v W h
    exact inward_two s hs p a b _ _ (iha ht.1 s hs) (ihb ht.2 s hs) v W h

set_option maxRecDepth 100000 in
set_option maxHeartbeats 4000000 in
theorem inward_one (s : Int) (hs : s = 0 ∨ s = 62 ∨ s = 94) (f : Bool) (a ra : Tm) (hta : Td ra)
    (ca : ∀ v W, TmAt W v a → Gives 33 #[v, .int .u8 (us f)] W ra)
    (v : Value) (W : World) (h : TmAt W v (.one f a)) : Gives 33 #[v, .int .u8 s] W (if s = 0 then ra else mv s ra) := by
  obtain ⟨l, k, u, rfl, hl, hk, ha⟩ := h
  have hc0 : W.cell? ⟨l, 0, none⟩ = some (.int .u8 (us f)) := (blk_cell hl 0).trans rfl
  have hc1 : W.cell? ⟨l, 1, none⟩ = some (.slice (some ⟨k, 0, none⟩) 1 1) := (blk_cell hl 1).trans rfl
  have hc2 : W.cell? ⟨k, 0, none⟩ = some u := (blk_cell hk 0).trans rfl
  have A : Hid (∀ W', Below W.heap.size W W' → Gives 33 #[u, .int .u8 (us f)] W' ra) := Lib.hid (fun W' hb' => ca u W' (ha.below hb'))
  have D : Hid (∀ v' W', TmAt W' v' ra → Gives 33 #[v', .int .u8 s] W' (mv s ra)) := Lib.hid (fun v' W' h' => inward_tidy ra hta s hs v' W' h')
  have e111 : (us f == 111) = false := by cases f <;> rfl
  have e0 : (s == 0) = decide (s = 0) := rfl
  clear hl hk ha ca
  by_cases h0 : s = 0
  · rw [if_pos h0]
    subst h0
    go_enter Try.func33, Try.ntmps33
    go_wp2_with fail
    go_region_held3 (fun w' => Below W.heap.size W w' ∧ w'.cell? ⟨l, 0, none⟩ = some (.int .u8 (us f)) ∧ w'.cell? ⟨l, 1, none⟩ = some (.slice (some ⟨k, 0, none⟩) 1 1) ∧ w'.cell? ⟨k, 0, none⟩ = some u)
      (first
        | exact ⟨below_drew1 (Below.refl _ _), hc0, hc1, hc2⟩
        | (go_split_ands; exact hold3 (below_step (by assumption) (by assumption)) hc0 hc1 hc2))
      (first
        | (go_at_call 33; with_reducible refine (A.out _ ?hb).mono ?_; (case hb => first | assumption | (go_split_ands; assumption)); rintro e w1 ⟨v1, rfl, ht1, hb1⟩))
    have HT1 := Lib.hid ht1
    have HB : Hid (Below W.heap.size W w1) := Lib.hid (by first | assumption | (go_split_ands; assumption))
    clear ht1 hb1
    go_wp2
    go_ret
    exact ⟨_, rfl, HT1.out, HB.out⟩
  · rw [if_neg h0]
    rcases hs with rfl | rfl | rfl
    · exact absurd rfl h0
    all_goals
      clear h0 e0
      go_enter Try.func33, Try.ntmps33
      go_wp2_with fail
      go_region_held3 (fun w' => Below W.heap.size W w' ∧ w'.cell? ⟨l, 0, none⟩ = some (.int .u8 (us f)) ∧ w'.cell? ⟨l, 1, none⟩ = some (.slice (some ⟨k, 0, none⟩) 1 1) ∧ w'.cell? ⟨k, 0, none⟩ = some u)
        (first
          | exact ⟨below_drew1 (Below.refl _ _), hc0, hc1, hc2⟩
          | (go_split_ands; exact hold3 (below_step (by assumption) (by assumption)) hc0 hc1 hc2))
        (first
          | (go_at_call 33; with_reducible refine (A.out _ ?hb).mono ?_; (case hb => first | assumption | (go_split_ands; assumption)); rintro e w1 ⟨v1, rfl, ht1, hb1⟩))
      have HT1 := Lib.hid ht1
      have HB : Hid (Below W.heap.size W w1) := Lib.hid (by first | assumption | (go_split_ands; assumption))
      clear ht1 hb1
      go_wp2_with fail
      refine (D.out _ _ HT1.out).mono ?_
      rintro e w2 ⟨v2, rfl, ht2, hb2⟩
      have HT2 := Lib.hid ht2
      have HB2 : Hid (Below W.heap.size W w2) := Lib.hid (below_step HB.out hb2)
      clear ht2 hb2
      go_wp2
      go_ret
      exact ⟨_, rfl, HT2.out, HB2.out⟩

theorem inward_calls : ∀ (t : Tm) (s : Int), s = 0 ∨ s = 62 ∨ s = 94 → ∀ (v : Value) (W : World), TmAt W v t → Gives 33 #[v, .int .u8 s] W (inw t s) := by
  intro t
  induction t with
  | o => intro s _ v W h; exact inward_o s v W h
  | one f a ih =>
    intro s hs v W h
    exact inward_one s hs f a _ (Td.inw a _) (ih (us f) (by cases f <;> simp [us])) v W h
  | two p a b iha ihb =>
    intro s hs v W h
    exact inward_two s hs p a b _ _ (iha s hs) (ihb s hs) v W h

set_option maxRecDepth 100000 in
set_option maxHeartbeats 4000000 in
theorem tidy_calls (t : Tm) (v : Value) (W : World) (h : TmAt W v t) : Gives 24 #[v] W (inw t 0) := by
  obtain ⟨l, rfl⟩ := TmAt.ptr h
  have A := Lib.hid (inward_calls t 0 (.inl rfl) _ W h)
  clear h
  go_enter Try.func24, Try.ntmps24
  go_wp2_with fail
  refine A.out.mono ?_
  rintro e w1 ⟨v1, rfl, ht, hb⟩
  have HT := Lib.hid ht
  have HB := Lib.hid hb
  clear ht hb
  go_wp2
  go_ret
  exact ⟨_, rfl, HT.out, HB.out⟩

end Go.Proofs.Ytmocablibmkebaa.S

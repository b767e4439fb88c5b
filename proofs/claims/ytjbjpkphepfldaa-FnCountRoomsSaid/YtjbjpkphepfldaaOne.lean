import Derived.Test.YtjbjpkphepfldaaWMore
import Derived.Test.YtjbjpkphepfldaaProg
import Derived.WalkKit
import Derived.Lib.Hide
import Derived.IntWalk
import Derived.Deep.QuietTactic
import Derived.BigQuiet
import Derived.KernelRfl
import Derived.Maps.OwnSet
import Derived.Maps.OwnOps
import Derived.Deep.RegionWith
import Derived.Deep.RegionLaw
import Derived.Deep.AppendLies
import Derived.Deep.DeepCutAuto
import Derived.StillTailTactics
/- Rectangles: area and both. -/
namespace Go.Proofs.Ytjbjpkphepfldaa.S
open Go.RowKit Go.Proofs.YtjbjpkphepfldaaW.PrintWords Go.Proofs.YtjbjpkphepfldaaW.PrintMore
attribute [local go_sem] max2_int min2_int max_two min_two   -- for this text's walks alone
set_option linter.unusedVariables false
set_option linter.unusedSimpArgs false

theorem new_at (W : World) (o : Obj) : (W.alloc o).heap[W.heap.size]? = some o := by simpa using heap_alloc_new W o
theorem three (w : World) (A B C : Obj) : (((w.alloc A).alloc B).alloc C).heap[w.heap.size]? = some A ∧ (((w.alloc A).alloc B).alloc C).heap[w.heap.size + 1]? = some B ∧ (((w.alloc A).alloc B).alloc C).heap[w.heap.size + 1 + 1]? = some C ∧ Below w.heap.size w (((w.alloc A).alloc B).alloc C) ∧ (((w.alloc A).alloc B).alloc C).heap.size = w.heap.size + 3 := by
  have e1 : w.heap.size + 1 = (w.alloc A).heap.size := by simp
  have e2 : w.heap.size + 1 + 1 = ((w.alloc A).alloc B).heap.size := by simp
  refine ⟨blk_alloc (blk_alloc (blk_new w A) B) C, ?_, ?_, below_alloc (below_alloc (below_alloc (Below.refl _ _) _) _) _, by simp⟩
  · rw [e1]; exact blk_alloc (blk_new _ B) C
  · rw [e2]; exact blk_new _ C
theorem fin4 {W : World} {g : Nat} {x0 x1 x2 x3 u0 u1 u2 u3 : Value} {t : TypeId} (h : W.heap[g]? = some (Obj.cells #[x0, x1, x2, x3] t (0, 0))) :
    ((((W.setCell ⟨g, 0, none⟩ u0).setCell ⟨g, 1, none⟩ u1).setCell ⟨g, 2, none⟩ u2).setCell ⟨g, 3, none⟩ u3).heap[g]? = some (Obj.cells #[u0, u1, u2, u3] t (0, 0)) :=
  blk_put (blk_put (blk_put (blk_put h 0 u0 rfl) 1 u1 rfl) 2 u2 rfl) 3 u3 rfl
theorem below4 {w W : World} {B g : Nat} {u0 u1 u2 u3 : Value} (h : Below B w W) (hg : B ≤ g) : Below B w ((((W.setCell ⟨g, 0, none⟩ u0).setCell ⟨g, 1, none⟩ u1).setCell ⟨g, 2, none⟩ u2).setCell ⟨g, 3, none⟩ u3) := (((h.setCell hg _).setCell hg _).setCell hg _).setCell hg _

/-- A rectangle: first row, first column, numbers of rows and columns. -/
structure Rc where
  r : Int
  c : Int
  h : Int
  w : Int
/-- Its cells. -/
def Rc.cells (x : Rc) : List Value := [.int .i64 x.r, .int .i64 x.c, .int .i64 x.h, .int .i64 x.w]
def Rc.val (x : Rc) : Value := .agg #[.int .i64 x.r, .int .i64 x.c, .int .i64 x.h, .int .i64 x.w]
/-- It lies in a small plan. -/
def Rc.ok (x : Rc) : Prop := 0 ≤ x.r ∧ 0 ≤ x.c ∧ 0 ≤ x.h ∧ 0 ≤ x.w ∧ x.r + x.h ≤ 1000 ∧ x.c + x.w ≤ 1000
/-- The least rectangle that has two. -/
def Rc.both (x y : Rc) : Rc := ⟨min x.r y.r, min x.c y.c, max (x.r + x.h) (y.r + y.h) - min x.r y.r, max (x.c + x.w) (y.c + y.w) - min x.c y.c⟩

theorem Rc.both_ok {x y : Rc} (hx : x.ok) (hy : y.ok) : (x.both y).ok := by
  obtain ⟨r, c, h, w⟩ := x
  obtain ⟨r2, c2, h2, w2⟩ := y
  simp only [Rc.ok, Rc.both] at *
  omega

set_option maxRecDepth 100000 in
set_option maxHeartbeats 4000000 in
theorem area_calls (x : Rc) (hx : x.ok) (W : World) : Calls Try.prog 54 #[x.val] W fun e w' => e = .returned (.int .i64 (x.h * x.w)) ∧ Below W.heap.size W w' := by
  obtain ⟨r, c, h, w⟩ := x
  obtain ⟨r0, c0, h0, w0, h1', w1'⟩ := hx
  simp only at r0 c0 h0 w0 h1' w1'
  have h1 : h ≤ 1000 := by omega
  have w1 : w ≤ 1000 := by omega
  have hm : h * w ≤ 1000 * 1000 := Int.mul_le_mul h1 w1 w0 (by omega)
  have hm0 : 0 ≤ h * w := Int.mul_nonneg h0 w0
  have e : IntKind.i64.wrap (h * w) = h * w := IntWalk.i64_in _ (by omega)
  show Calls Try.prog 54 #[.agg #[.int .i64 r, .int .i64 c, .int .i64 h, .int .i64 w]] W fun e w' => e = .returned (.int .i64 (h * w)) ∧ Below W.heap.size W w'
  clear hm hm0 h0 h1 w0 w1 r0 c0 h1' w1'
  go_enter Try.func54, Try.ntmps54
  go_wp2
  go_ret
  exact ⟨rfl, below_alloc (Below.refl _ _) _⟩

set_option maxRecDepth 100000 in
set_option maxHeartbeats 4000000 in
theorem both_calls (x y : Rc) (hx : x.ok) (hy : y.ok) (W : World) : Calls Try.prog 53 #[x.val, y.val] W fun e w' => e = .returned (x.both y).val ∧ Below W.heap.size W w' := by
  obtain ⟨r, c, h, w⟩ := x
  obtain ⟨r2, c2, h2, w2⟩ := y
  obtain ⟨a0, a1, a2, a3, a4, a5⟩ := hx
  obtain ⟨b0, b1, b2, b3, b4, b5⟩ := hy
  simp only at a0 a1 a2 a3 a4 a5 b0 b1 b2 b3 b4 b5
  have e1 : IntKind.i64.wrap (r + h) = r + h := IntWalk.i64_in _ (by omega)
  have e2 : IntKind.i64.wrap (r2 + h2) = r2 + h2 := IntWalk.i64_in _ (by omega)
  have e3 : IntKind.i64.wrap (c + w) = c + w := IntWalk.i64_in _ (by omega)
  have e4 : IntKind.i64.wrap (c2 + w2) = c2 + w2 := IntWalk.i64_in _ (by omega)
  obtain ⟨M1, m1⟩ : ∃ M, (if r2 < r then r2 else r) = M := ⟨_, rfl⟩
  obtain ⟨M2, m2⟩ : ∃ M, (if c2 < c then c2 else c) = M := ⟨_, rfl⟩
  obtain ⟨M3, m3⟩ : ∃ M, (if r + h < r2 + h2 then r2 + h2 else r + h) = M := ⟨_, rfl⟩
  obtain ⟨M4, m4⟩ : ∃ M, (if c + w < c2 + w2 then c2 + w2 else c + w) = M := ⟨_, rfl⟩
  have k1 : M1 = min r r2 ∧ 0 ≤ M1 ∧ M1 ≤ 1000 := by rw [← m1]; split <;> omega
  have k2 : M2 = min c c2 ∧ 0 ≤ M2 ∧ M2 ≤ 1000 := by rw [← m2]; split <;> omega
  have k3 : M3 = max (r + h) (r2 + h2) ∧ 0 ≤ M3 ∧ M3 ≤ 2000 := by rw [← m3]; split <;> omega
  have k4 : M4 = max (c + w) (c2 + w2) ∧ 0 ≤ M4 ∧ M4 ≤ 2000 := by rw [← m4]; split <;> omega
  have e5 : IntKind.i64.wrap (M3 - M1) = M3 - M1 := IntWalk.i64_in _ (by omega)
  have e6 : IntKind.i64.wrap (M4 - M2) = M4 - M2 := IntWalk.i64_in _ (by omega)
  show Calls Try.prog 53 #[.agg #[.int .i64 r, .int .i64 c, .int .i64 h, .int .i64 w], .agg #[.int .i64 r2, .int .i64 c2, .int .i64 h2, .int .i64 w2]] W fun e w' => e = .returned (.agg #[.int .i64 (min r r2), .int .i64 (min c c2), .int .i64 (max (r + h) (r2 + h2) - min r r2), .int .i64 (max (c + w) (c2 + w2) - min c c2)]) ∧ Below W.heap.size W w'
  rw [← k1.1, ← k2.1, ← k3.1, ← k4.1]
  clear a0 a1 a2 a3 a4 a5 b0 b1 b2 b3 b4 b5 k1 k2 k3 k4
  go_enter Try.func53, Try.ntmps53
  go_wp2_with fail
  go_quiet (fail)
  go_wp2
  have hk : ((((W.alloc (Obj.cells #[.int .i64 r, .int .i64 c, .int .i64 h, .int .i64 w] 68)).alloc (Obj.cells #[.int .i64 r2, .int .i64 c2, .int .i64 h2, .int .i64 w2] 68)).alloc (Obj.cells #[.int .i64 0, .int .i64 0, .int .i64 0, .int .i64 0] 68))).heap[W.heap.size + 1 + 1]? = some (Obj.cells #[.int .i64 0, .int .i64 0, .int .i64 0, .int .i64 0] 68 (0, 0)) := (three W _ _ _).2.2.1
  refine bodyPost_ret (results_cell_row rfl _ _ (W.heap.size + 1 + 1) 68 #[.int .i64 M1, .int .i64 M2, .int .i64 (M3 - M1), .int .i64 (M4 - M2)] (0, 0) _ rfl (fin4 (blk_drewN hk _)) Try.underlying68 rfl (by kernel_rfl)) rfl ?_
  exact ⟨rfl, below4 (pw_below_drewN (three W _ _ _).2.2.2.1 _) (by omega)⟩
end Go.Proofs.Ytjbjpkphepfldaa.S
/- The map from numbers to their places in the order of first cells. -/
namespace Go.Proofs.Ytjbjpkphepfldaa.S
open Go.RowKit Go.Maps Go.Proofs.YtjbjpkphepfldaaW.PrintWords Go.Proofs.YtjbjpkphepfldaaW.PrintMore
set_option linter.unusedVariables false
set_option linter.unusedSimpArgs false

/-- A number as a key. -/
abbrev ky (x : Int) : Lit := .int .i64 x
/-- The place of a number in a list. -/
def pos (x : Int) : List Int → Nat
  | [] => 0
  | y :: l => if y = x then 0 else pos x l + 1
theorem pos_app_old {x : Int} : ∀ {l r : List Int}, x ∈ l → pos x (l ++ r) = pos x l
  | [], _, h => absurd h (by simp)
  | y :: l, r, h => by
    simp only [List.cons_append, pos]
    by_cases e : y = x
    · rw [if_pos e, if_pos e]
    · rw [if_neg e, if_neg e]
      have : x ∈ l := by
        rcases List.mem_cons.1 h with h | h
        · exact absurd h.symm e
        · exact h
      rw [pos_app_old this]
theorem pos_app_new {x : Int} : ∀ {l : List Int}, x ∉ l → pos x (l ++ [x]) = l.length
  | [], _ => by simp [pos]
  | y :: l, h => by
    simp only [List.cons_append, pos, List.length_cons]
    rw [if_neg (fun e => h (by simp [e])), pos_app_new (fun h2 => h (by simp [h2]))]
theorem pos_lt {x : Int} : ∀ {l : List Int}, x ∈ l → pos x l < l.length
  | [], h => absurd h (by simp)
  | y :: l, h => by
    simp only [pos, List.length_cons]
    by_cases e : y = x
    · rw [if_pos e]; omega
    · rw [if_neg e]
      have : x ∈ l := by
        rcases List.mem_cons.1 h with h | h
        · exact absurd h.symm e
        · exact h
      have := pos_lt this
      omega

/-- What the map holds: each number of the list, with its place. -/
structure IdxOk (D : DataW Unit) (ord : List Int) : Prop where
  tidy : Maps.Tidy D
  size : Maps.size D = ord.length
  has : ∀ x, Maps.has D (ky x) = decide (x ∈ ord)
  at_ : ∀ x, x ∈ ord → D.atKey (ky x) (.lit (.int .i64 0)) = .lit (.int .i64 (pos x ord : Nat))
  nodup : ord.Nodup

theorem isKey (x : Int) : WideAt.IsKeyLit (ky x) := by
  first
    | trivial
    | decide
    | exact .int _ _
    | simp [WideAt.IsKeyLit]

theorem IdxOk.nil : IdxOk (.map []) [] where
  tidy := tidy_empty
  size := rfl
  has := fun x => by simp [has_eq]
  at_ := fun x h => absurd h (by simp)
  nodup := List.nodup_nil

theorem IdxOk.put {D : DataW Unit} {ord : List Int} (h : IdxOk D ord) {x : Int} (hx : x ∉ ord) : IdxOk (D.put (ky x) (.lit (.int .i64 (ord.length : Nat)))) (ord ++ [x]) where
  tidy := h.tidy.put (isKey x) _
  size := by
    rw [size_put h.tidy, h.has x, if_neg (by simp [hx]), h.size, List.length_append]
    rfl
  has := fun y => by
    by_cases e : y = x
    · subst e
      rw [has_put_same h.tidy.isMap (isKey y)]
      simp
    · rw [has_put_other (by intro h; injection h; contradiction), h.has y]
      simp [e]
  at_ := fun y hy => by
    by_cases e : y = x
    · subst e
      rw [atKey_put_same h.tidy.isMap (isKey y), pos_app_new hx]
    · have hy2 : y ∈ ord := by simpa [e] using hy
      rw [atKey_put_other (by intro h; injection h; contradiction), h.at_ y hy2, pos_app_old hy2]
  nodup := by
    rw [List.nodup_append]
    refine ⟨h.nodup, by simp, fun a ha b hb => ?_⟩
    simp only [List.mem_singleton] at hb
    subst hb
    intro e
    subst e
    exact hx ha

theorem law3 : Keyed Try.prog 3 := int_keyed Try.underlying3
theorem zero3 (w : World) : (zeroValue 3).run Try.prog w = .ok (.int .i64 0) w := by kernel_rfl
end Go.Proofs.Ytjbjpkphepfldaa.S
/- What is kept, and how a plan's numbers lie. -/
namespace Go.Proofs.Ytjbjpkphepfldaa.S
open Go.RowKit Go.Proofs.YtjbjpkphepfldaaW.PrintWords Go.Proofs.YtjbjpkphepfldaaW.PrintMore
set_option linter.unusedVariables false
set_option linter.unusedSimpArgs false

/-- Every block of W that S doesn't name lies in W' as it lay. -/
structure KeepS (S : Nat → Prop) (W W' : World) : Prop where
  size : W.heap.size ≤ W'.heap.size
  same : ∀ k, k < W.heap.size → ¬ S k → W'.heap[k]? = W.heap[k]?
  os : W'.os = W.os
  tape : W'.tape = W.tape
  output : W'.output = W.output
theorem KeepS.refl (S : Nat → Prop) (W : World) : KeepS S W W := ⟨Nat.le_refl _, fun _ _ _ => rfl, rfl, rfl, rfl⟩
theorem KeepS.trans {S : Nat → Prop} {A B C : World} (h : KeepS S A B) (k : KeepS S B C) : KeepS S A C :=
  ⟨Nat.le_trans h.size k.size, fun i hi hs => (k.same i (Nat.lt_of_lt_of_le hi h.size) hs).trans (h.same i hi hs), k.os.trans h.os, k.tape.trans h.tape, k.output.trans h.output⟩
theorem KeepS.mono {S S' : Nat → Prop} {A B : World} (h : KeepS S A B) (hs : ∀ k, k < A.heap.size → S k → S' k) : KeepS S' A B :=
  ⟨h.size, fun i hi hn => h.same i hi (fun x => hn (hs i hi x)), h.os, h.tape, h.output⟩
theorem KeepS.alloc (S : Nat → Prop) (W : World) (o : Obj) : KeepS S W (W.alloc o) :=
  ⟨by simp, fun k hk _ => Below.heap_alloc W o k hk, rfl, rfl, rfl⟩
theorem KeepS.setCell {S : Nat → Prop} (W : World) (p : Addr) (v : Value) (h : S p.block ∨ W.heap.size ≤ p.block) : KeepS S W (W.setCell p v) :=
  ⟨by simp, fun k hk hn => Below.heap_setCell W p v k (fun e => by subst e; rcases h with h | h; exact hn h; omega), rfl, rfl, rfl⟩
theorem KeepS.drewN (S : Nat → Prop) (W : World) (n : Nat) : KeepS S W (W.drewN n) := ⟨Nat.le_refl _, fun _ _ _ => rfl, rfl, rfl, rfl⟩
theorem KeepS.drew (S : Nat → Prop) (W : World) : KeepS S W W.drew := ⟨Nat.le_refl _, fun _ _ _ => rfl, rfl, rfl, rfl⟩
theorem KeepS.grown {S : Nat → Prop} {W W' : World} {g : Nat} (h : W.grownBy W' (some g)) (hg : S g) : KeepS S W W' :=
  ⟨h.size, fun k hk hn => h.block k hk (fun e => by injection e with e; subst e; exact hn hg), h.os, h.tape, h.output⟩
theorem KeepS.grown' {S : Nat → Prop} {W W' : World} {r : Option Nat} (h : W.grownBy W' r) (hg : ∀ g, r = some g → S g) : KeepS S W W' :=
  ⟨h.size, fun k hk hn => h.block k hk (fun e => hn (hg k e.symm)), h.os, h.tape, h.output⟩
theorem KeepS.of_below {W W' : World} (S : Nat → Prop) (h : Below W.heap.size W W') : KeepS S W W' :=
  ⟨h.size, fun k hk _ => h.block k hk, h.os, h.tape, h.output⟩
theorem KeepS.below {S : Nat → Prop} {B : Nat} {W W' : World} (h : KeepS S W W') (hB : B ≤ W.heap.size) (hs : ∀ k, S k → B ≤ k) : Below B W W' :=
  ⟨h.os, h.tape, h.output, h.size, fun k hk => h.same k (by omega) (fun x => by have := hs k x; omega)⟩
theorem KeepS.heap {S : Nat → Prop} {W W' : World} (h : KeepS S W W') {k : Nat} {o : Obj} (hk : W.heap[k]? = some o) (hs : ¬ S k) : W'.heap[k]? = some o :=
  (h.same k (blk_lt' hk) hs).trans hk
where blk_lt' {W : World} {k : Nat} {o : Obj} (h : W.heap[k]? = some o) : k < W.heap.size := (Array.getElem?_eq_some_iff.1 h).1
theorem KeepS.cell {S : Nat → Prop} {W W' : World} (h : KeepS S W W') {p : Addr} {v : Value} (hc : W.cell? p = some v) (hs : ¬ S p.block) : W'.cell? p = some v :=
  (World.cell?_of_block (h.same p.block (World.block_lt_of_cell? W p hc) hs)).trans hc

/-- A row of numbers. -/
def RowIn (P : Nat → Prop) (W : World) (v : Value) (l : List Int) : Prop :=
  ∃ A c, v = .slice A l.length c ∧ l.length ≤ c ∧ ∀ (i : Nat) (x : Int), l[i]? = some x → ∃ g, A = some ⟨g, 0, none⟩ ∧ P g ∧ W.cell? ⟨g, i, none⟩ = some (.int .i64 x)
/-- Rows of numbers. -/
def GridIn (P : Nat → Prop) (W : World) (v : Value) (m : List (List Int)) : Prop :=
  ∃ A c, v = .slice A m.length c ∧ m.length ≤ c ∧ ∀ (i : Nat) (l : List Int), m[i]? = some l → ∃ g u, A = some ⟨g, 0, none⟩ ∧ P g ∧ W.cell? ⟨g, i, none⟩ = some u ∧ RowIn P W u l
theorem RowIn.go {P Q : Nat → Prop} {W W' : World} {v : Value} {l : List Int} (h : RowIn P W v l) (hq : ∀ k, P k → k < W.heap.size → Q k ∧ W'.heap[k]? = W.heap[k]?) : RowIn Q W' v l := by
  obtain ⟨A, c, rfl, hc, h⟩ := h
  refine ⟨A, c, rfl, hc, fun i x hx => ?_⟩
  obtain ⟨g, e, p, hg⟩ := h i x hx
  have hl := World.block_lt_of_cell? W _ hg
  exact ⟨g, e, (hq g p hl).1, (World.cell?_of_block (hq g p hl).2).trans hg⟩
theorem GridIn.go {P Q : Nat → Prop} {W W' : World} {v : Value} {m : List (List Int)} (h : GridIn P W v m) (hq : ∀ k, P k → k < W.heap.size → Q k ∧ W'.heap[k]? = W.heap[k]?) : GridIn Q W' v m := by
  obtain ⟨A, c, rfl, hc, h⟩ := h
  refine ⟨A, c, rfl, hc, fun i l hx => ?_⟩
  obtain ⟨g, u, e, p, hg, hr⟩ := h i l hx
  have hl := World.block_lt_of_cell? W _ hg
  exact ⟨g, u, e, (hq g p hl).1, (World.cell?_of_block (hq g p hl).2).trans hg, hr.go hq⟩
end Go.Proofs.Ytjbjpkphepfldaa.S
/- A cell is told: settled's second closure. -/
namespace Go.Proofs.Ytjbjpkphepfldaa.S
open Go.RowKit Go.Maps Go.Proofs.YtjbjpkphepfldaaW.PrintWords Go.Proofs.YtjbjpkphepfldaaW.PrintMore
set_option linter.unusedVariables false
set_option linter.unusedSimpArgs false

/-- Where settled's variables lie: the map, its variable, the cells' variable, the floor, its variable. -/
structure Cx where
  mb : Nat
  mp : Nat
  cb : Nat
  fb : Nat
  fp : Nat
  base : Nat
  cv : Value
/-- What stays. -/
structure Fix (K : Cx) (W : World) : Prop where
  mp : W.heap[K.mp]? = some (.cells #[.map (some K.mb)] 80 (0, 0))
  cb : W.heap[K.cb]? = some (.cells #[K.cv] 49 (0, 0))
  fp : W.heap[K.fp]? = some (.cells #[.pointer (some ⟨K.fb, 0, none⟩)] 34 (0, 0))
/-- The order in memory. -/
structure Lo (K : Cx) : Prop where
  mb : K.mb < K.base
  mp : K.mp < K.base ∧ K.mp ≠ K.mb ∧ K.mp ≠ K.fb
  cb : K.cb < K.base ∧ K.cb ≠ K.mb ∧ K.cb ≠ K.fb
  fb : K.fb < K.base ∧ K.fb ≠ K.mb
  fp : K.fp < K.base ∧ K.fp ≠ K.mb ∧ K.fp ≠ K.fb
/-- The cells of rooms. -/
def flat (l : List Rc) : List Value := l.flatMap Rc.cells
/-- What turns. -/
structure St (K : Cx) (W : World) (cvF rv : Value) (D : DataW Unit) (ord : List Int) (rooms : List Rc) : Prop where
  fb : W.heap[K.fb]? = some (.cells #[cvF, rv] 52 (0, 0))
  idx : IdxOk D ord
  map : W.ownsMap Try.prog 3 (plainElem Try.prog 3) K.mb ord.length D
  row : W.ownsRow K.base 68 4 rv rooms.length (flat rooms)
  len : rooms.length = ord.length
  ok : ∀ x ∈ rooms, x.ok
/-- The blocks that turn. -/
def Tn (K : Cx) (rv : Value) (k : Nat) : Prop := k = K.fb ∨ k = K.mb ∨ rv.ownBlock = some k

theorem flat_len : ∀ l : List Rc, (flat l).length = l.length * 4
  | [] => rfl
  | x :: l => by
    have := flat_len l
    simp only [flat, List.flatMap_cons, List.length_append, List.length_cons] at this ⊢
    rw [this]
    simp [Rc.cells]
    omega
theorem flat_get : ∀ (l : List Rc) (k : Nat) (x : Rc) (j : Nat), l[k]? = some x → j < 4 → (flat l)[k * 4 + j]? = x.cells[j]?
  | [], k, x, j, h, _ => by simp at h
  | y :: l, 0, x, j, h, hj => by
    simp at h
    subst h
    simp only [flat, List.flatMap_cons]
    rw [List.getElem?_append_left (by simp [Rc.cells]; omega)]
    simp
  | y :: l, k + 1, x, j, h, hj => by
    have := flat_get l k x j (by simpa using h) hj
    simp only [flat, List.flatMap_cons] at this ⊢
    rw [List.getElem?_append_right (by simp [Rc.cells]; omega)]
    rw [← this]
    congr 1
    simp [Rc.cells]
    omega
theorem flat_set (l : List Rc) (k : Nat) (hk : k < l.length) (x : Rc) :
    ((((flat l).set (k * 4) (.int .i64 x.r)).set (k * 4 + 1) (.int .i64 x.c)).set (k * 4 + 2) (.int .i64 x.h)).set (k * 4 + 3) (.int .i64 x.w) = flat (l.set k x) := by
  apply List.ext_getElem?
  intro i
  have hl := flat_len l
  have hl2 := flat_len (l.set k x)
  rw [List.length_set] at hl2
  by_cases hi : i < l.length * 4
  · have e : i = i / 4 * 4 + i % 4 := by omega
    have hq : i / 4 < l.length := by omega
    by_cases hk2 : i / 4 = k
    · have h1 : (l.set k x)[i / 4]? = some x := by rw [hk2]; simp [hk]
      have h2 := flat_get (l.set k x) (i / 4) x (i % 4) h1 (by omega)
      rw [← e] at h2
      rw [h2]
      have hm : i % 4 = 0 ∨ i % 4 = 1 ∨ i % 4 = 2 ∨ i % 4 = 3 := by omega
      simp only [List.getElem?_set, List.length_set, hl]
      rcases hm with hm | hm | hm | hm <;> rw [hm] <;> simp only [Rc.cells] <;> (repeat' split) <;> first | rfl | (exfalso; omega)
    · have h1 : (l.set k x)[i / 4]? = l[i / 4]? := by rw [List.getElem?_set_ne (fun h => hk2 h.symm)]
      have h2 := flat_get (l.set k x) (i / 4) (l[i / 4]) (i % 4) (by rw [h1]; simp [hq]) (by omega)
      have h3 := flat_get l (i / 4) (l[i / 4]) (i % 4) (by simp [hq]) (by omega)
      rw [← e] at h2 h3
      rw [h2, ← h3]
      simp only [List.getElem?_set, List.length_set, hl]
      repeat' split
      all_goals first | rfl | omega
  · rw [List.getElem?_eq_none (by simp only [List.length_set]; omega), List.getElem?_eq_none (by omega)]

theorem look_has {W : World} {D : DataW Unit} {ord : List Int} {b n : Nat} (h : IdxOk D ord) (ho : W.ownsMap Try.prog 3 (plainElem Try.prog 3) b n D) {x : Int} (hw : (Lit.int .i64 x).wf = true) (hx : x ∈ ord) :
    (Instr.lookup 80 (.map (some b)) (.int .i64 x) true).run Try.prog W = .ok (.tuple #[.int .i64 (pos x ord : Nat), .bool true]) W := by
  obtain ⟨v, ps, hrun, hv⟩ := ho.look_ok law3 Try.underlying80 (zero3 W) (plainElem_int Try.underlying3 (by decide)) (keyOf_int_mk Try.underlying3 hw)
  obtain ⟨c, rfl, hc, _⟩ := plainElem_int_inv Try.underlying3 hv
  have h1 := h.has x
  have h2 := h.at_ x hx
  simp only [Prod.mk.injEq] at hc
  rw [h2] at hc
  have : c = (pos x ord : Nat) := by
    have := hc.1
    injection this with this
    injection this with _ this
    exact this.symm
  rw [hrun, h1, this]
  simp [hx]
theorem look_new {W : World} {D : DataW Unit} {ord : List Int} {b n : Nat} (h : IdxOk D ord) (ho : W.ownsMap Try.prog 3 (plainElem Try.prog 3) b n D) {x : Int} (hw : (Lit.int .i64 x).wf = true) (hx : x ∉ ord) :
    (Instr.lookup 80 (.map (some b)) (.int .i64 x) true).run Try.prog W = .ok (.tuple #[.int .i64 0, .bool false]) W := by
  obtain ⟨v, ps, hrun, hv⟩ := ho.look_ok law3 Try.underlying80 (zero3 W) (plainElem_int Try.underlying3 (by decide)) (keyOf_int_mk Try.underlying3 hw)
  obtain ⟨c, rfl, hc, _⟩ := plainElem_int_inv Try.underlying3 hv
  have h1 := h.has x
  rw [show decide (x ∈ ord) = false by simp [hx]] at h1
  have h2 := atKey_of_not_has h1 (.lit (.int .i64 0))
  simp only [Prod.mk.injEq] at hc
  rw [h2] at hc
  have : c = 0 := by
    have := hc.1
    injection this with this
    injection this with _ this
    exact this.symm
  rw [hrun, h1, this]
end Go.Proofs.Ytjbjpkphepfldaa.S

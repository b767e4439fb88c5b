/- A range over a function: one law for the caller and the iterator's contract, where a block is kept unless it is named. Over any program. -/
import Derived.RangeFuncNested
import Derived.RangeFuncLeaves
import Derived.WalkKit
import Derived.Deep.Draws
namespace Go.Proofs.Ytjbjpkphepfldaa.R
open Go.RowKit
set_option linter.unusedVariables false

/-- Every block of W that S doesn't name lies in W' as it lay. -/
structure KeepS (S : Nat → Prop) (W W' : World) : Prop where
  size : W.heap.size ≤ W'.heap.size
  same : ∀ k, k < W.heap.size → ¬ S k → W'.heap[k]? = W.heap[k]?
  os : W'.os = W.os
  tape : W'.tape = W.tape
  output : W'.output = W.output

theorem KeepS.refl (S : Nat → Prop) (W : World) : KeepS S W W := ⟨Nat.le_refl _, fun _ _ _ => rfl, rfl, rfl, rfl⟩
theorem KeepS.trans {S : Nat → Prop} {A B C : World} (h : KeepS S A B) (k : KeepS S B C) : KeepS S A C :=
  ⟨Nat.le_trans h.size k.size, fun i hi hs => (k.same i (Nat.lt_of_lt_of_le hi h.size) hs).trans (h.same i hi hs), k.os.trans h.os, k.tape.trans h.tape, k.output.trans h.output⟩
theorem KeepS.mono {S S' : Nat → Prop} {A B : World} (h : KeepS S A B) (hs : ∀ k, k < A.heap.size → S k → S' k) : KeepS S' A B :=
  ⟨h.size, fun i hi hn => h.same i hi (fun x => hn (hs i hi x)), h.os, h.tape, h.output⟩
theorem KeepS.alloc (S : Nat → Prop) (W : World) (o : Obj) : KeepS S W (W.alloc o) :=
  ⟨by simp, fun k hk _ => Below.heap_alloc W o k hk, rfl, rfl, rfl⟩
theorem KeepS.setCell {S : Nat → Prop} (W : World) (p : Addr) (v : Value) (h : S p.block ∨ W.heap.size ≤ p.block) : KeepS S W (W.setCell p v) :=
  ⟨by simp, fun k hk hn => Below.heap_setCell W p v k (fun e => by subst e; rcases h with h | h; exact hn h; omega), rfl, rfl, rfl⟩
theorem KeepS.drewN (S : Nat → Prop) (W : World) (n : Nat) : KeepS S W (W.drewN n) := ⟨Nat.le_refl _, fun _ _ _ => rfl, rfl, rfl, rfl⟩
theorem KeepS.drew (S : Nat → Prop) (W : World) : KeepS S W W.drew := ⟨Nat.le_refl _, fun _ _ _ => rfl, rfl, rfl, rfl⟩
theorem KeepS.putObj {S : Nat → Prop} (W : World) (l : Nat) (o : Obj) (h : S l ∨ W.heap.size ≤ l) : KeepS S W (W.putObj l o) :=
  ⟨by simp, fun k hk hn => World.putObj_heap_other (fun e => by subst e; rcases h with h | h; exact hn h; omega), rfl, rfl, rfl⟩
theorem KeepS.below {S : Nat → Prop} {B : Nat} {W W' : World} (h : KeepS S W W') (hB : B ≤ W.heap.size) (hs : ∀ k, S k → B ≤ k) : Below B W W' :=
  ⟨h.os, h.tape, h.output, h.size, fun k hk => h.same k (by omega) (fun x => by have := hs k x; omega)⟩
theorem KeepS.of_below {W W' : World} (S : Nat → Prop) (h : Below W.heap.size W W') : KeepS S W W' :=
  ⟨h.size, fun k hk _ => h.block k hk, h.os, h.tape, h.output⟩
theorem KeepS.heap {S : Nat → Prop} {W W' : World} (h : KeepS S W W') {k : Nat} {o : Obj} (hk : W.heap[k]? = some o) (hs : ¬ S k) : W'.heap[k]? = some o :=
  (h.same k (Array.getElem?_eq_some_iff.1 hk).1 hs).trans hk
theorem KeepS.cell {S : Nat → Prop} {W W' : World} (h : KeepS S W W') {p : Addr} {v : Value} (hc : W.cell? p = some v) (hs : ¬ S p.block) : W'.cell? p = some v :=
  (World.cell?_of_block (h.same p.block (World.block_lt_of_cell? W p hc) hs)).trans hc
theorem KeepS.frozen {S : Nat → Prop} {W W' : World} (h : KeepS S W W') {p : Addr} (hl : p.block < W.heap.size) (hs : ¬ S p.block) : W'.frozen? p = W.frozen? p :=
  World.frozen?_of_block (h.same p.block hl hs)

theorem KeepS.trans_new {S : Nat → Prop} {A B C : World} {l : Nat} (h : KeepS S A B) (k : KeepS (fun k => S k ∨ k = l) B C) (hl : A.heap.size ≤ l) : KeepS S A C :=
  ⟨Nat.le_trans h.size k.size, fun i hi hs => (k.same i (Nat.lt_of_lt_of_le hi h.size) (fun x => by rcases x with x | x; exact hs x; omega)).trans (h.same i hi hs), k.os.trans h.os, k.tape.trans h.tape, k.output.trans h.output⟩

/-- J looks at blocks below base alone. -/
def Low (base : Nat) (J : World → Prop) : Prop :=
  ∀ W W', J W → KeepS (fun k => base ≤ k) W W' → J W'

theorem Low.mono {b b' : Nat} {J : World → Prop} (h : Low b J) (hb : b ≤ b') : Low b' J :=
  fun W W' hj hk => h W W' hj (hk.mono (fun k _ x => Nat.le_trans hb x))
theorem Low.and {b : Nat} {J K : World → Prop} (h : Low b J) (k : Low b K) : Low b (fun W => J W ∧ K W) :=
  fun W W' hj hk => ⟨h W W' hj.1 hk, k W W' hj.2 hk⟩
theorem Low.pure (b : Nat) (p : Prop) : Low b (fun _ => p) := fun _ _ h _ => h
theorem Low.heap (b k : Nat) (hk : k < b) (o : Obj) : Low b (fun W => W.heap[k]? = some o) :=
  fun W W' h hks => hks.heap h (by omega)
theorem Low.keep (b : Nat) (S : Nat → Prop) (w : World) (hw : w.heap.size ≤ b) : Low b (fun W => KeepS S w W) :=
  fun W W' h hk => ⟨Nat.le_trans h.size hk.size, fun i hi hn => (hk.same i (Nat.lt_of_lt_of_le hi h.size) (by omega)).trans (h.same i hi hn), hk.os.trans h.os, hk.tape.trans h.tape, hk.output.trans h.output⟩
theorem Low.keepLow {b : Nat} {W W' W2 : World} (J : World → Prop) (h : Low b J) (hj : J W) (hk : KeepS (fun k => b ≤ k) W W') : J W' := h W W' hj hk

/-- An iterator's contract, for rounds that always go on: function g, with what it has captured, hands the elements of xs on, one by one, in order; En says how an element is handed over. S: the blocks that a round may write. -/
def Iter1 {α : Type} (P : Program) (g : Nat) (lb : Array Value) (xs : List α) (En : α → Array Value → World → Prop) (S : Nat → Prop) (w : World) : Prop :=
  ∀ (l : Nat) (J : List α → World → Prop) (W : World), w.heap.size ≤ l → l < W.heap.size → Below w.heap.size w W → (∀ s, Low W.heap.size (J s)) →
    (∀ pre x args W1, J pre W1 → x ∈ xs → W.heap.size ≤ W1.heap.size → En x args W1 → YieldAt Fence.wide 0 P l args W1 fun e W' =>
      KeepS (fun k => S k ∨ k = l) W1 W' ∧ e = .returned (.bool true) ∧ J (pre ++ [x]) W') →
    J [] W →
    Calls P g (#[.func (.yield l) #[] #[]] ++ lb) W fun e W' => (∃ v, e = .returned v) ∧ KeepS (fun k => S k ∨ k = l) W W' ∧ J xs W'

/-- A round's body ends in order. -/
def roundPost1 {α : Type} (S : Nat → Prop) (I : List α → World → Prop) (xs : List α) (W : World) : Exit → Act → World → Prop
  | .normal, _, W' => KeepS S W W' ∧ I xs W'
  | _, _, _ => False

/-- The statement 'for .. := range g { .. }', over an iterator that has its contract. -/
theorem range_law1 {α : Type} {P : Program} {g : Operand} {ps : Array Tmp} {assign body : Code} {Q : Exit → Act → World → Prop} {a : Act} {w : World}
    {gf : Nat} {lb : Array Value} (hg : a.eval g = .func (.func gf) #[] lb) (eg : ∀ args w, (callFunc gf args).run P w = .ok (.enter gf args) w)
    {xs : List α} {En : α → Array Value → World → Prop} {S : Nat → Prop} {w0 : World} (hseq : Iter1 P gf lb xs En S w0) (hb0 : Below w0.heap.size w0 w)
    (hSB : ∀ k, S k → k < w.heap.size) (hps : ∀ x args W, En x args W → args.size = ps.size)
    (I : List α → World → Prop) (hI : ∀ s, Low w.heap.size (I s)) (h0 : I [] w)
    (hround : ∀ (l : Nat) (pre : List α) (x : α) (args : Array Value) (W : World), w.heap.size ≤ l → l < W.heap.size → (∃ r, W.heap[l]? = some (.loop r)) → I pre W → x ∈ xs → KeepS S w W → En x args W →
      ∃ Mid : Act → World → Prop,
        (∀ K : Act → World → Prop, (∀ a₁ W1, Mid a₁ W1 → K a₁ W1) →
          assign.wpIn (Fence.wide.inRound l) 0 P (Exit.then K (fun _ _ _ => False)) { tmps := (ps.zip args).foldl (fun t (p, v) => t.setIfInBounds p v) a.tmps, defers := [] } W) ∧
        (∀ a₁ W1, Mid a₁ W1 → KeepS S W W1 ∧ ∀ W2, KeepS (fun k => k = l) W1 W2 → W2.heap.size = W1.heap.size → body.wpIn (Fence.wide.inRound l) 0 P (roundPost1 S I (pre ++ [x]) W2) a₁ W2))
    (hdone : ∀ (D : Nat) (W : World), w.heap.size ≤ D → I xs W → KeepS S w W → W.heap[D]? = some (.deferred (some [])) → Q .normal { a with defers := { target := .collected D, args := #[] } :: a.defers } W) :
    (Code.rangeFunc g ps assign body).wpIn Fence.wide 0 P Q a w := by
  refine wpIn_rangeFunc ?_
  intro fn hfn
  have hro : Fence.wide.round = none := rfl
  rw [hro]
  obtain ⟨rec, hrec⟩ : ∃ rec : LoopState → Option Code → Loop, rec = fun st pe => { state := st, pending := pe, fn, tmps := a.tmps, params := ps, assign, body, defers := w.heap.size } := ⟨_, rfl⟩
  obtain ⟨W1, hW1⟩ : ∃ W1, (w.alloc (.deferred (some []))).alloc (.loop (rec .ready none)) = W1 := ⟨_, rfl⟩
  have hk1 : KeepS S w W1 := by rw [← hW1]; exact (KeepS.alloc S w _).trans (KeepS.alloc S _ _)
  have hs1 : W1.heap.size = w.heap.size + 2 := by rw [← hW1]; simp
  have hL1 : W1.heap[w.heap.size + 1]? = some (.loop (rec .ready none)) := by
    rw [← hW1]; have := World.alloc_heap_new (w.alloc (.deferred (some []))) (.loop (rec .ready none)); rwa [World.size_alloc] at this
  have hK1 : W1.heap[w.heap.size]? = some (.deferred (some [])) := by
    rw [← hW1]; exact (Below.heap_alloc _ _ _ (by simp)).trans (World.alloc_heap_new w _)
  have hkb : KeepS (fun k => w.heap.size ≤ k) w W1 := by rw [← hW1]; exact (KeepS.alloc _ w _).trans (KeepS.alloc _ _ _)
  have hI1 : I [] W1 := hI [] w W1 h0 hkb
  have hb1 : Below w0.heap.size w0 W1 := by
    rw [← hW1]; exact hb0.trans ((((Below.refl _ w).alloc (Nat.le_refl _) _).alloc (by simp) _).mono hb0.size)
  have hnS : ∀ k, w.heap.size ≤ k → ¬ S k := fun k hk hs => by have := hSB k hs; omega
  refine ⟨w.heap.size + 1, [{ target := .collected w.heap.size, args := #[] }], W1, { target := .fn (.func gf) lb, args := #[.func (.yield (w.heap.size + 1)) #[] #[]] }, W1, gf,
    #[.func (.yield (w.heap.size + 1)) #[] #[]] ++ lb, W1, ?_, ?_, ?_, ?_, fun h => by simp [Fence.wide] at h, ?_⟩
  · rw [← hW1, hrec]; exact run_enterLoop_outer _ _ _ _ _
  · simp only [resolve, hg]
    simp [go_sem]
  · intro f' hf'; exact trivial
  · simp [invoke, go_sem, eg]
  · refine callsIn_wide.2 ((hseq (w.heap.size + 1)
      (fun pre W => I pre W ∧ W.heap[w.heap.size + 1]? = some (.loop (rec .ready none)) ∧ W.heap[w.heap.size]? = some (.deferred (some [])) ∧ KeepS S w W)
      W1 (by have := hb0.size; omega) (by omega) hb1
      (fun s => ((hI s).mono (by omega)).and ((Low.heap _ _ (by omega) _).and ((Low.heap _ _ (by omega) _).and (Low.keep _ S w (by omega)))))
      ?_ ⟨hI1, hL1, hK1, hk1⟩).mono ?_)
    · -- one round
      rintro pre x args W ⟨hi, hl, hd, hkw⟩ hx hsz hen
      have hlt : w.heap.size + 1 < W.heap.size := (Array.getElem?_eq_some_iff.1 hl).1
      have hy := run_yield (P := P) (args := args) hl (by rw [hrec]; exact hps x args W hen)
      rw [hrec] at hy
      obtain ⟨Mid, hassign, hbody⟩ := hround (w.heap.size + 1) pre x args W (by omega) hlt ⟨_, hl⟩ hi hx hkw hen
      refine ⟨fn, _, assign, body, hy, roundIn_of_wpIn hfn (hassign _ ?_)⟩
      intro a' Wa hmid
      obtain ⟨hka, hbody⟩ := hbody a' Wa hmid
      have hla := hka.heap hl (hnS _ (by omega))
      have hda := hka.heap hd (hnS _ (Nat.le_refl _))
      have hlta : w.heap.size + 1 < Wa.heap.size := (Array.getElem?_eq_some_iff.1 hla).1
      refine ⟨_, run_beginRound hla (by rw [hrec]), ?_⟩
      have hkp : KeepS (fun k => k = w.heap.size + 1) Wa (Wa.putObj (w.heap.size + 1) (.loop { rec .ready none with state := .busy })) := KeepS.putObj _ _ _ (.inl rfl)
      have hl2 : (Wa.putObj (w.heap.size + 1) (.loop { rec .ready none with state := .busy })).heap[w.heap.size + 1]? = some (.loop { rec .ready none with state := .busy }) := World.putObj_heap_same hlta
      have hd2 : (Wa.putObj (w.heap.size + 1) (.loop { rec .ready none with state := .busy })).heap[w.heap.size]? = some (.deferred (some [])) := (World.putObj_heap_other (by omega)).trans hda
      refine wpIn_mono (hbody _ hkp (by simp)) ?_
      -- the record is put by the law alone: of all else the round's word is the body's
      have fin : ∀ (jump : Option Code) (W3 : World), KeepS S (Wa.putObj (w.heap.size + 1) (.loop { rec .ready none with state := .busy })) W3 →
          (Instr.endRound (w.heap.size + 1) jump).run P W3 = .ok (.bool jump.isNone) (W3.putObj (w.heap.size + 1) (.loop (rec (if jump.isNone then .ready else .done) jump))) ∧
          (W3.putObj (w.heap.size + 1) (.loop (rec (if jump.isNone then .ready else .done) jump))).heap[w.heap.size + 1]? = some (.loop (rec (if jump.isNone then .ready else .done) jump)) ∧
          (W3.putObj (w.heap.size + 1) (.loop (rec (if jump.isNone then .ready else .done) jump))).heap[w.heap.size]? = some (.deferred (some [])) ∧
          KeepS (fun k => S k ∨ k = w.heap.size + 1) W (W3.putObj (w.heap.size + 1) (.loop (rec (if jump.isNone then .ready else .done) jump))) := fun jump W3 hk3 => by
        have hl3 := hk3.heap hl2 (hnS _ (by omega))
        have hd3 := hk3.heap hd2 (hnS _ (Nat.le_refl _))
        have hlt3 : w.heap.size + 1 < W3.heap.size := (Array.getElem?_eq_some_iff.1 hl3).1
        have := run_endRound (P := P) jump hl3
        rw [hrec] at this ⊢
        refine ⟨this, World.putObj_heap_same hlt3, (World.putObj_heap_other (by omega)).trans hd3, ?_⟩
        exact (((hka.mono (fun k _ x => .inl x)).trans (hkp.mono (fun k _ x => .inr x))).trans (hk3.mono (fun k _ x => .inl x))).trans (KeepS.putObj _ _ _ (.inl (.inr rfl)))
      have low : ∀ (J : World → Prop) (jump : Option Code) (W3 : World), Low w.heap.size J → J W3 → J (W3.putObj (w.heap.size + 1) (.loop (rec (if jump.isNone then .ready else .done) jump))) :=
        fun J jump W3 hJ hj => hJ _ _ hj (KeepS.putObj _ _ _ (.inl (by omega)))
      rintro e a3 W3 hp
      cases e with
      | normal =>
        obtain ⟨hk3, hi3⟩ := hp
        obtain ⟨hr, hl4, hd4, hk4⟩ := fin none W3 hk3
        exact ⟨_, _, hr, hk4, rfl, low _ none W3 (hI _) hi3, hl4, hd4, hkw.trans_new hk4 (by omega)⟩
      | ret => exact hp.elim
      | exit id => exact hp.elim
      | goto t => exact hp.elim
      | panic ch => exact hp.elim
      | outgrown => exact hp.elim
    · -- behind the iterator
      rintro e W2 ⟨⟨v, rfl⟩, hkW, hi, hl, hd, hkw⟩
      exact ⟨none, _, by have := run_endLoop (P := P) hl (by rw [hrec]; simp); rw [hrec] at this; exact this, hdone _ _ (Nat.le_refl _) (hI _ _ _ hi (KeepS.putObj _ _ _ (.inl (by omega)))) (Low.keep w.heap.size S w (Nat.le_refl _) _ _ hkw (KeepS.putObj _ _ _ (.inl (by omega)))) ((World.putObj_heap_other (by omega)).trans hd)⟩
end Go.Proofs.Ytjbjpkphepfldaa.R

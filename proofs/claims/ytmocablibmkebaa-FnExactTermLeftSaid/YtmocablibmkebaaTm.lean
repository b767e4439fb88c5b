/- Terms as trees, and how they lie behind pointers (type 35). -/
import Derived.Test.YtmocablibmkebaaQi1
import Derived.WalkKit
import Derived.Lib.Hide
namespace Go.Proofs.Ytmocablibmkebaa.S
open Go.RowKit Go.Proofs.YtmocablibmkebaaW.PrintWords Go.Proofs.YtmocablibmkebaaW.PrintMore Go.Proofs.Ytmocablibmkebaa.Qi
set_option linter.unusedVariables false
set_option linter.unusedSimpArgs false

inductive Tm where
  | o
  | one (f : Bool) (a : Tm)
  | two (v : Bool) (a b : Tm)
/-- The sign in front: ^ or >. -/
def us (f : Bool) : Int := if f then 94 else 62
/-- The sign between: | or -. -/
def bs (v : Bool) : Int := if v then 124 else 45

/-- A byte is taken away. -/
def tk : List UInt8 → Int × List UInt8
  | [] => (0, [])
  | c :: l => ((c.toNat : Int), l)

/-- What the program's reader reads. -/
def rdI : Nat → List UInt8 → Option Tm × List UInt8
  | 0, l => (none, l)
  | n + 1, l =>
    if (tk l).1 = 111 then (some .o, (tk l).2)
    else if (tk l).1 = 62 ∨ (tk l).1 = 94 then (((rdI n (tk l).2).1).map (Tm.one ((tk l).1 == 94)), (rdI n (tk l).2).2)
    else if (tk l).1 = 40 then
      match (rdI n (tk l).2).1, (rdI n (tk (rdI n (tk l).2).2).2).1 with
      | some x, some y =>
        if (tk (rdI n (tk l).2).2).1 = 124 ∨ (tk (rdI n (tk l).2).2).1 = 45 then
          if (tk (rdI n (tk (rdI n (tk l).2).2).2).2).1 = 41 then (some (.two ((tk (rdI n (tk l).2).2).1 == 124) x y), (tk (rdI n (tk (rdI n (tk l).2).2).2).2).2)
          else (none, (tk (rdI n (tk (rdI n (tk l).2).2).2).2).2)
        else (none, (rdI n (tk (rdI n (tk l).2).2).2).2)
      | _, _ => (none, (rdI n (tk (rdI n (tk l).2).2).2).2)
    else (none, (tk l).2)

theorem tk_le (l : List UInt8) : (tk l).2.length ≤ l.length := by
  cases l with
  | nil => exact Nat.le_refl _
  | cons c l => exact Nat.le_succ _
theorem tk_lt (l : List UInt8) (h : (tk l).1 ≠ 0) : (tk l).2.length < l.length := by
  cases l with
  | nil => exact absurd rfl h
  | cons c l => exact Nat.lt_succ_self _
theorem rdI_le : ∀ (n : Nat) (l : List UInt8), (rdI n l).2.length ≤ l.length := by
  intro n
  induction n with
  | zero => intro l; exact Nat.le_refl _
  | succ n ih =>
    intro l
    have t1 := tk_le l
    have h1 := ih (tk l).2
    have t2 := tk_le (rdI n (tk l).2).2
    have h2 := ih (tk (rdI n (tk l).2).2).2
    have t3 := tk_le (rdI n (tk (rdI n (tk l).2).2).2).2
    simp only [rdI]
    split
    · exact t1
    · split
      · simp only; omega
      · split
        · split
          · split
            · split <;> simp only <;> omega
            · simp only; omega
          · simp only; omega
        · exact t1

/-- A term lies behind a pointer. -/
def TmAt (W : World) : Value → Tm → Prop
  | v, .o => ∃ l, v = .pointer (some ⟨l, 0, none⟩) ∧ W.heap[l]? = some (.cells #[.int .u8 111, .slice none 0 0] 51 (0, 0))
  | v, .one f a => ∃ l k u, v = .pointer (some ⟨l, 0, none⟩) ∧ W.heap[l]? = some (.cells #[.int .u8 (us f), .slice (some ⟨k, 0, none⟩) 1 1] 51 (0, 0)) ∧ W.heap[k]? = some (.cells #[u] 35 (0, 0)) ∧ TmAt W u a
  | v, .two s a b => ∃ l k u x, v = .pointer (some ⟨l, 0, none⟩) ∧ W.heap[l]? = some (.cells #[.int .u8 (bs s), .slice (some ⟨k, 0, none⟩) 2 2] 51 (0, 0)) ∧ W.heap[k]? = some (.cells #[u, x] 35 (0, 0)) ∧ TmAt W u a ∧ TmAt W x b

/-- No block of a term's types turns. -/
def Still (W W' : World) : Prop := ∀ (i : Nat) (cs : Array Value) (t : TypeId), (t = 51 ∨ t = 35) → W.heap[i]? = some (Obj.cells cs t (0, 0)) → W'.heap[i]? = some (Obj.cells cs t (0, 0))
theorem Still.refl (W : World) : Still W W := fun _ _ _ _ h => h
theorem Still.trans {A B C : World} (h : Still A B) (k : Still B C) : Still A C := fun i cs t ht h0 => k i cs t ht (h i cs t ht h0)
theorem Still.below {W W' : World} (h : Below W.heap.size W W') : Still W W' := fun i cs t _ h0 => (h.block i (blk_lt h0)).trans h0
theorem Still.keep {W W' : World} {g : Nat} {cs : Array Value} {t : TypeId} {fr : Nat × Nat} (hk : KeepBut W W' g none) (hg : W.heap[g]? = some (.cells cs t fr)) (ht : t ≠ 51 ∧ t ≠ 35) : Still W W' := fun i cs' t' ht' h0 => (hk.2 i (blk_lt h0) (fun e => by
  subst e
  rw [hg] at h0
  injection h0 with h0
  injection h0 with _ e2 _
  rcases ht' with e' | e'
  · exact ht.1 (e2.trans e')
  · exact ht.2 (e2.trans e')) (by simp)).trans h0

theorem TmAt.still {W W' : World} (hs : Still W W') : ∀ {t : Tm} {v : Value}, TmAt W v t → TmAt W' v t := by
  intro t
  induction t with
  | o =>
    rintro v ⟨l, rfl, h⟩
    exact ⟨l, rfl, hs _ _ _ (.inl rfl) h⟩
  | one f a iha =>
    rintro v ⟨l, k, u, rfl, h, h2, ha⟩
    exact ⟨l, k, u, rfl, hs _ _ _ (.inl rfl) h, hs _ _ _ (.inr rfl) h2, iha ha⟩
  | two s a b iha ihb =>
    rintro v ⟨l, k, u, x, rfl, h, h2, ha, hb⟩
    exact ⟨l, k, u, x, rfl, hs _ _ _ (.inl rfl) h, hs _ _ _ (.inr rfl) h2, iha ha, ihb hb⟩
theorem TmAt.below {W W' : World} {t : Tm} {v : Value} (h : TmAt W v t) (hb : Below W.heap.size W W') : TmAt W' v t := TmAt.still (Still.below hb) h
theorem TmAt.ptr {W : World} {t : Tm} {v : Value} (h : TmAt W v t) : ∃ l, v = .pointer (some ⟨l, 0, none⟩) := by
  cases t with
  | o => obtain ⟨l, rfl, _⟩ := h; exact ⟨l, rfl⟩
  | one f a => obtain ⟨l, k, u, rfl, _⟩ := h; exact ⟨l, rfl⟩
  | two s a b => obtain ⟨l, k, u, x, rfl, _⟩ := h; exact ⟨l, rfl⟩
/-- A term, or nil. -/
def PtrAt (W : World) (v : Value) : Option Tm → Prop
  | none => v = .pointer none
  | some t => TmAt W v t
theorem PtrAt.still {W W' : World} (hs : Still W W') {t : Option Tm} {v : Value} (h : PtrAt W v t) : PtrAt W' v t := by
  cases t with
  | none => exact h
  | some t => exact TmAt.still hs h

/-- A reader at block g with the rest l. -/
def Rd (w0 W : World) (g : Nat) (l : List UInt8) : Prop := ∃ s : ByteArray, s.data.toList = l ∧ IsS48 w0 W g s ∧ Below w0.heap.size w0 W
end Go.Proofs.Ytmocablibmkebaa.S

/- Brackets to the left: what (*term).along and (*term).left return. -/
import Derived.Test.YtmocablibmkebaaText
import Derived.Deep.AppendLies
namespace Go.Proofs.Ytmocablibmkebaa.S
open Go.RowKit Go.Proofs.YtmocablibmkebaaW.PrintWords Go.Proofs.YtmocablibmkebaaW.PrintMore Go.Proofs.Ytmocablibmkebaa.Qi
set_option linter.unusedVariables false
set_option linter.unusedSimpArgs false

/-- Terms joined from the left. -/
def joinT (q : Bool) : List Tm → Tm
  | [] => .o
  | x :: xs => xs.foldl (Tm.two q) x
/-- What along returns. -/
def al : Tm → Bool → List Tm
  | .o, _ => [.o]
  | .one f a, _ => [.one f a]
  | .two q a b, p => if q = p then al a p ++ al b p else [joinT q (al a q ++ al b q)]
/-- What left returns. -/
def lf : Tm → Tm
  | .o => .o
  | .one f a => .one f a
  | .two q a b => joinT q (al a q ++ al b q)

/-- A term lies behind a pointer, in blocks of which P holds. -/
def TmIn (P : Nat → Prop) (W : World) : Value → Tm → Prop
  | v, .o => ∃ l, v = .pointer (some ⟨l, 0, none⟩) ∧ P l ∧ W.heap[l]? = some (.cells #[.int .u8 111, .slice none 0 0] 51 (0, 0))
  | v, .one f a => ∃ l k u, v = .pointer (some ⟨l, 0, none⟩) ∧ P l ∧ P k ∧ W.heap[l]? = some (.cells #[.int .u8 (us f), .slice (some ⟨k, 0, none⟩) 1 1] 51 (0, 0)) ∧ W.heap[k]? = some (.cells #[u] 35 (0, 0)) ∧ TmIn P W u a
  | v, .two s a b => ∃ l k u x, v = .pointer (some ⟨l, 0, none⟩) ∧ P l ∧ P k ∧ W.heap[l]? = some (.cells #[.int .u8 (bs s), .slice (some ⟨k, 0, none⟩) 2 2] 51 (0, 0)) ∧ W.heap[k]? = some (.cells #[u, x] 35 (0, 0)) ∧ TmIn P W u a ∧ TmIn P W x b

theorem TmIn.at_ {P : Nat → Prop} {W : World} : ∀ {t : Tm} {v : Value}, TmIn P W v t → TmAt W v t
  | .o, _, ⟨l, h, _, h2⟩ => ⟨l, h, h2⟩
  | .one _ _, _, ⟨l, k, u, h, _, _, h2, h3, h4⟩ => ⟨l, k, u, h, h2, h3, TmIn.at_ h4⟩
  | .two _ _ _, _, ⟨l, k, u, x, h, _, _, h2, h3, h4, h5⟩ => ⟨l, k, u, x, h, h2, h3, TmIn.at_ h4, TmIn.at_ h5⟩
theorem TmAt.in_ {W : World} : ∀ {t : Tm} {v : Value}, TmAt W v t → TmIn (fun b => b < W.heap.size) W v t
  | .o, _, ⟨l, h, h2⟩ => ⟨l, h, blk_lt h2, h2⟩
  | .one _ _, _, ⟨l, k, u, h, h2, h3, h4⟩ => ⟨l, k, u, h, blk_lt h2, blk_lt h3, h2, h3, TmAt.in_ h4⟩
  | .two _ _ _, _, ⟨l, k, u, x, h, h2, h3, h4, h5⟩ => ⟨l, k, u, x, h, blk_lt h2, blk_lt h3, h2, h3, TmAt.in_ h4, TmAt.in_ h5⟩
theorem TmIn.go {P Q : Nat → Prop} {W W' : World} (hq : ∀ b, P b → b < W.heap.size → Q b ∧ W'.heap[b]? = W.heap[b]?) : ∀ {t : Tm} {v : Value}, TmIn P W v t → TmIn Q W' v t
  | .o, _, ⟨l, h, p, h2⟩ => ⟨l, h, (hq l p (blk_lt h2)).1, (hq l p (blk_lt h2)).2.trans h2⟩
  | .one _ _, _, ⟨l, k, u, h, p, p2, h2, h3, h4⟩ => ⟨l, k, u, h, (hq l p (blk_lt h2)).1, (hq k p2 (blk_lt h3)).1, (hq l p (blk_lt h2)).2.trans h2, (hq k p2 (blk_lt h3)).2.trans h3, TmIn.go hq h4⟩
  | .two _ _ _, _, ⟨l, k, u, x, h, p, p2, h2, h3, h4, h5⟩ => ⟨l, k, u, x, h, (hq l p (blk_lt h2)).1, (hq k p2 (blk_lt h3)).1, (hq l p (blk_lt h2)).2.trans h2, (hq k p2 (blk_lt h3)).2.trans h3, TmIn.go hq h4, TmIn.go hq h5⟩
theorem TmIn.below {P : Nat → Prop} {W W' : World} {t : Tm} {v : Value} (h : TmIn P W v t) (hb : Below W.heap.size W W') : TmIn P W' v t := h.go fun b p hl => ⟨p, hb.block b hl⟩
theorem TmIn.ptr {P : Nat → Prop} {W : World} {t : Tm} {v : Value} (h : TmIn P W v t) : ∃ l, v = .pointer (some ⟨l, 0, none⟩) := h.at_.ptr

/-- Each of the values points to its term. -/
def Each (R : Value → Tm → Prop) : List Value → List Tm → Prop
  | [], [] => True
  | v :: vs, t :: ts => R v t ∧ Each R vs ts
  | _, _ => False
theorem Each.imp {R S : Value → Tm → Prop} (h : ∀ v t, R v t → S v t) : ∀ {vs : List Value} {ts : List Tm}, Each R vs ts → Each S vs ts
  | [], [], _ => trivial
  | _ :: _, _ :: _, h2 => ⟨h _ _ h2.1, Each.imp h h2.2⟩
  | [], _ :: _, h2 => h2.elim
  | _ :: _, [], h2 => h2.elim
theorem Each.append {R : Value → Tm → Prop} : ∀ {vs us : List Value} {ts rs : List Tm}, Each R vs ts → Each R us rs → Each R (vs ++ us) (ts ++ rs)
  | [], _, [], _, _, h => h
  | _ :: _, _, _ :: _, _, h, h2 => ⟨h.1, Each.append h.2 h2⟩
  | [], _, _ :: _, _, h, _ => h.elim
  | _ :: _, _, [], _, h, _ => h.elim
theorem Each.length {R : Value → Tm → Prop} : ∀ {vs : List Value} {ts : List Tm}, Each R vs ts → vs.length = ts.length
  | [], [], _ => rfl
  | _ :: _, _ :: _, h => congrArg (· + 1) (Each.length h.2)
  | [], _ :: _, h => h.elim
  | _ :: _, [], h => h.elim
theorem Each.get {R : Value → Tm → Prop} : ∀ {vs : List Value} {ts : List Tm}, Each R vs ts → ∀ (i : Nat) (t : Tm), ts[i]? = some t → ∃ v, vs[i]? = some v ∧ R v t
  | [], [], _, _, _, h => by simp at h
  | v :: _, _ :: _, h, 0, t, h2 => ⟨v, rfl, by simp at h2; subst h2; exact h.1⟩
  | _ :: _, _ :: _, h, i + 1, t, h2 => by simpa using Each.get h.2 i t (by simpa using h2)
  | [], _ :: _, h, _, _, _ => h.elim
  | _ :: _, [], h, _, _, _ => h.elim
theorem Each.one {R : Value → Tm → Prop} : ∀ {vs : List Value} {ts : List Tm}, Each R vs ts → (∀ v t, R v t → v.oneCell' = true) → ∀ u ∈ vs, u.oneCell' = true
  | [], [], _, _, u, h => by simp at h
  | v :: vs, _ :: _, h, k, u, h2 => by
    rcases List.mem_cons.1 h2 with rfl | h3
    · exact k _ _ h.1
    · exact Each.one h.2 k u h3
  | [], _ :: _, h, _, _, _ => h.elim
  | _ :: _, [], h, _, _, _ => h.elim

/-- left's contract at a term. -/
def LeftC (t : Tm) : Prop := ∀ (P : Nat → Prop) (v : Value) (W : World), (∀ b, P b → b < W.heap.size) → TmIn P W v t →
  Calls Try.prog 27 #[v] W fun e w' => ∃ v', e = .returned v' ∧ TmIn (fun b => P b ∨ W.heap.size ≤ b) w' v' (lf t) ∧ Below W.heap.size W w'
/-- along's contract at a term. -/
def AlongC (t : Tm) (q : Bool) : Prop := ∀ (P : Nat → Prop) (v : Value) (W : World), (∀ b, P b → b < W.heap.size) → TmIn P W v t →
  Calls Try.prog 35 #[v, .int .u8 (bs q)] W fun e w' => ∃ g cap vs, e = .returned (.slice (some ⟨g, 0, none⟩) (al t q).length cap) ∧
    w'.ownsRow W.heap.size 35 1 (.slice (some ⟨g, 0, none⟩) (al t q).length cap) (al t q).length vs ∧ Each (TmIn (fun b => P b ∨ (W.heap.size ≤ b ∧ b ≠ g)) w') vs (al t q) ∧ Below W.heap.size W w'

set_option maxRecDepth 100000 in
set_option maxHeartbeats 4000000 in
theorem left_o : LeftC .o := by
  rintro P v W hP ⟨l, rfl, p, hl⟩
  have hc1 : W.cell? ⟨l, 1, none⟩ = some (.slice none 0 0) := (blk_cell hl 1).trans rfl
  have HL := Lib.hid hl
  have HP := Lib.hid p
  clear hl hP p
  go_enter Try.func27, Try.ntmps27
  go_wp2
  go_ret
  exact ⟨_, rfl, ⟨l, rfl, .inl HP.out, HL.out⟩, Below.refl _ _⟩

theorem own_one (w : World) (u : Value) (base : Nat) (hb : base ≤ w.heap.size) : (w.alloc (Obj.cells #[u] 35)).ownsRow base 35 1 (.slice (some ⟨w.heap.size, 0, none⟩) 1 1) 1 [u] :=
  ⟨rfl, .inr ⟨w.heap.size, 1, #[u], rfl, hb, new_at w _, Nat.le_refl _, by decide, rfl, rfl⟩⟩

set_option maxRecDepth 100000 in
set_option maxHeartbeats 4000000 in
theorem along_one (t : Tm) (q : Bool) (c : Int) (hal : al t q = [lf t]) (hL : LeftC t) (hc : c = 111 ∨ c = bs (!q))
    (hs : ∀ (P : Nat → Prop) (W : World) (v : Value), TmIn P W v t → ∃ l, v = .pointer (some ⟨l, 0, none⟩) ∧ W.cell? ⟨l, 0, none⟩ = some (.int .u8 c)) : AlongC t q := by
  intro P v W hP h
  rw [hal]
  have C := Lib.hid (hL P v W hP h)
  obtain ⟨l, rfl, hc0⟩ := hs P W v h
  clear hal hL hs h hP
  rcases hc with rfl | rfl <;> cases q
  all_goals
    simp only [bs, Bool.not_true, Bool.not_false, if_true, if_false, Bool.false_eq_true, reduceIte] at hc0 ⊢
    go_enter Try.func35, Try.ntmps35
    go_wp2_with fail
    refine C.out.mono ?_
    rintro e w1 ⟨v1, rfl, ht, hb⟩
    have HT := Lib.hid ht
    have HB := Lib.hid hb
    obtain ⟨m1, rfl⟩ := ht.ptr
    clear ht hb
    go_wp2
    go_ret
    exact ⟨w1.heap.size, 1, _, rfl, own_one w1 _ _ HB.out.size, ⟨HT.out.go (fun b p hl => ⟨p.elim .inl (fun p => .inr ⟨p, by omega⟩), (below_alloc (Below.refl _ _) _).block b hl⟩), trivial⟩, below_alloc HB.out _⟩

end Go.Proofs.Ytmocablibmkebaa.S

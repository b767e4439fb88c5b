/- The reference's parts: what l11Parts returns. -/
import Derived.Test.YtmocablibmkebaaLeft2
import Derived.Test.YtmocablibmkebaaSpOf
namespace Go.Proofs.Ytmocablibmkebaa.S
open Go.RowKit Go.Proofs.Ytmocablibmkebaa.Qs Go.Proofs.YtmocablibmkebaaW.PrintWords Go.Proofs.YtmocablibmkebaaW.PrintMore Go.Proofs.Ytmocablibmkebaa.Qi
set_option linter.unusedVariables false
set_option linter.unusedSimpArgs false

/-- A tidy term's kids can be read. -/
def SpV (W : World) : Tm → Value → Prop
  | .o, v => ∃ A c, v = .slice A 0 c
  | .one _ _, _ => False
  | .two _ a b, v => ∃ ad c A1 n1 c1 A2 n2 c2, v = .slice (some ad) 2 c ∧ W.cell? ad = some (.int .u8 (enc a).f0) ∧ W.cell? ⟨ad.block, ad.off + 1, none⟩ = some (.slice A1 n1 c1) ∧
      W.cell? ⟨ad.block, ad.off + 2, none⟩ = some (.int .u8 (enc b).f0) ∧ W.cell? ⟨ad.block, ad.off + 2 + 1, none⟩ = some (.slice A2 n2 c2) ∧ SpV W a (.slice A1 n1 c1) ∧ SpV W b (.slice A2 n2 c2)
theorem SpV.below {W W' : World} (hb : Below W.heap.size W W') : ∀ {t : Tm} {v : Value}, SpV W t v → SpV W' t v
  | .o, _, h => h
  | .one _ _, _, h => h.elim
  | .two _ _ _, _, ⟨ad, c, A1, n1, c1, A2, n2, c2, e, h0, h1, h2, h3, ha, hb2⟩ => ⟨ad, c, A1, n1, c1, A2, n2, c2, e, (hb.cell (World.block_lt_of_cell? W _ h0)).trans h0, (hb.cell (World.block_lt_of_cell? W _ h1)).trans h1,
      (hb.cell (World.block_lt_of_cell? W _ h2)).trans h2, (hb.cell (World.block_lt_of_cell? W _ h3)).trans h3, SpV.below hb ha, SpV.below hb hb2⟩
theorem SpV.slice {W : World} : ∀ {t : Tm} {v : Value}, SpV W t v → ∃ A n c, v = .slice A n c
  | .o, _, ⟨A, c, h⟩ => ⟨A, 0, c, h⟩
  | .one _ _, _, h => h.elim
  | .two _ _ _, _, ⟨ad, c, _, _, _, _, _, _, e, _⟩ => ⟨some ad, 2, c, e⟩
theorem SpV.of_C {W : World} : ∀ {t : Tm} {A : Option Addr} {c : Nat}, Td t → Kd.C k32 W A (enc t).f1.length (enc t).f1 → SpV W t (.slice A (enc t).f1.length c)
  | .o, A, c, _, _ => ⟨A, c, rfl⟩
  | .one _ _, _, _, h, _ => h.elim
  | .two p a b, A, c, ht, h => by
    obtain ⟨ad, A1, c1, e1, x0, x1, l1, i1⟩ := at_T32 h 0 (by omega) (by simp [enc])
    obtain ⟨ad', A2, c2, e2, y0, y1, l2, i2⟩ := at_T32 h 1 (by omega) (by simp [enc])
    obtain rfl : ad = ad' := by injection e1.symm.trans e2
    subst e1
    have q0 : rd_T32 (enc (.two p a b)).f1 0 = enc a := rfl
    have q1 : rd_T32 (enc (.two p a b)).f1 1 = enc b := rfl
    rw [q0] at x0 x1 l1 i1
    rw [q1] at y0 y1 l2 i2
    have a0 : ad.add ((0 : Int).toNat * 2) = ad := by rw [show (0 : Int).toNat * 2 = 0 from rfl]; simp [Addr.add]
    have a1 : ad.add ((1 : Int).toNat * 2) = ⟨ad.block, ad.off + 2, none⟩ := by rw [show (1 : Int).toNat * 2 = 2 from rfl]; simp [Addr.add]
    rw [a0] at x0 x1
    rw [a1] at y0 y1
    refine ⟨ad, c, A1, _, c1, A2, _, c2, rfl, x0, ?_, y0, ?_, SpV.of_C ht.1 i1, SpV.of_C ht.2 i2⟩
    · simpa [Addr.add] using x1
    · simpa [Addr.add] using y1

/-- The terms that one sign joins. -/
def pt : Tm → Bool → List Tm
  | .o, _ => [.o]
  | .one f a, _ => [.one f a]
  | .two q a b, p => if q = p then pt a p ++ pt b p else [.two q a b]
/-- The cells of a list of terms. -/
def EachP (W : World) : List Value → List Tm → Prop
  | [], [] => True
  | s :: u :: vs, t :: ts => s = .int .u8 (enc t).f0 ∧ SpV W t u ∧ EachP W vs ts
  | _, _ => False
theorem EachP.below {W W' : World} (hb : Below W.heap.size W W') : ∀ {vs : List Value} {ts : List Tm}, EachP W vs ts → EachP W' vs ts
  | [], [], _ => trivial
  | _ :: _ :: _, _ :: _, h => ⟨h.1, h.2.1.below hb, EachP.below hb h.2.2⟩
  | [], _ :: _, h => h.elim
  | [_], [], h => h.elim
  | _ :: _ :: _, [], h => h.elim
  | [_], _ :: _, h => h.elim
theorem EachP.append {W : World} : ∀ {vs us : List Value} {ts rs : List Tm}, EachP W vs ts → EachP W us rs → EachP W (vs ++ us) (ts ++ rs)
  | [], _, [], _, _, h => h
  | _ :: _ :: _, _, _ :: _, _, h, h2 => ⟨h.1, h.2.1, EachP.append h.2.2 h2⟩
  | [], _, _ :: _, _, h, _ => h.elim
  | [_], _, [], _, h, _ => h.elim
  | _ :: _ :: _, _, [], _, h, _ => h.elim
  | [_], _, _ :: _, _, h, _ => h.elim
theorem EachP.one {W : World} : ∀ {vs : List Value} {ts : List Tm}, EachP W vs ts → ∀ u ∈ vs, u.oneCell' = true
  | [], [], _, u, h => by simp at h
  | s :: v :: vs, _ :: _, h, u, h2 => by
    rcases List.mem_cons.1 h2 with rfl | h3
    · rw [h.1]; rfl
    · rcases List.mem_cons.1 h3 with rfl | h4
      · obtain ⟨A, n, c, e⟩ := h.2.1.slice
        rw [e]; rfl
      · exact EachP.one h.2.2 u h4
  | [], _ :: _, h, _, _ => h.elim
  | [_], [], h, _, _ => h.elim
  | _ :: _ :: _, [], h, _, _ => h.elim
  | [_], _ :: _, h, _, _ => h.elim
theorem EachP.get {W : World} : ∀ {vs : List Value} {ts : List Tm}, EachP W vs ts → ∀ (i : Nat) (t : Tm), ts[i]? = some t → ∃ u, vs[2 * i]? = some (.int .u8 (enc t).f0) ∧ vs[2 * i + 1]? = some u ∧ SpV W t u
  | [], [], _, _, _, h => by simp at h
  | s :: u :: _, _ :: _, h, 0, t, h2 => ⟨u, by simp at h2; subst h2; rw [h.1]; rfl, rfl, by simp at h2; subst h2; exact h.2.1⟩
  | s :: u :: vs, _ :: _, h, i + 1, t, h2 => by
    obtain ⟨w, h3, h4, h5⟩ := EachP.get h.2.2 i t (by simpa using h2)
    exact ⟨w, h3, h4, h5⟩
  | [], _ :: _, h, _, _, _ => h.elim
  | [_], [], h, _, _, _ => h.elim
  | _ :: _ :: _, [], h, _, _, _ => h.elim
  | [_], _ :: _, h, _, _, _ => h.elim

/-- l11Parts' contract at a term. -/
def PartsC (t : Tm) (q : Bool) : Prop := ∀ (v : Value) (R W : World), Below R.heap.size R W → SpV R t v →
  Calls Try.prog 34 #[.agg #[.int .u8 (enc t).f0, v], .int .u8 (bs q)] W fun e w' => ∃ g cap vs, e = .returned (.slice (some ⟨g, 0, none⟩) (pt t q).length cap) ∧
    w'.ownsRow W.heap.size 32 2 (.slice (some ⟨g, 0, none⟩) (pt t q).length cap) (pt t q).length vs ∧ EachP R vs (pt t q) ∧ Below W.heap.size W w'

theorem own_two (w : World) (X : Obj) (s u : Value) (base : Nat) (hb : base ≤ w.heap.size) : ((w.alloc X).alloc (Obj.cells #[s, u] 32)).ownsRow base 32 2 (.slice (some ⟨w.heap.size + 1, 0, none⟩) 1 1) 1 [s, u] := by
  have e : w.heap.size + 1 = (w.alloc X).heap.size := by simp
  rw [e]
  exact ⟨rfl, .inr ⟨(w.alloc X).heap.size, 1, #[s, u], rfl, by rw [← e]; omega, new_at _ _, Nat.le_refl _, by decide, rfl, rfl⟩⟩

set_option maxRecDepth 100000 in
set_option maxHeartbeats 4000000 in
theorem parts_one (t : Tm) (q : Bool) (hpt : pt t q = [t]) (hc : (enc t).f0 = 111 ∨ (enc t).f0 = bs (!q)) : PartsC t q := by
  intro v R W hRW h
  rw [hpt]
  have HV := Lib.hid h
  obtain ⟨A, n, c, rfl⟩ := h.slice
  clear hpt h hRW
  generalize hcc : (enc t).f0 = cc at *
  have HCC := Lib.hid hcc
  clear hcc
  rcases hc with rfl | rfl <;> cases q
  all_goals
    simp only [bs, Bool.not_true, Bool.not_false, if_true, if_false, Bool.false_eq_true, reduceIte] at HCC ⊢
    go_enter Try.func34, Try.ntmps34
    go_wp2
    go_ret
    refine ⟨_, 1, _, rfl, own_two W _ _ _ _ (Nat.le_refl _), ?_, below_alloc (below_alloc (Below.refl _ _) _) _⟩
    exact ⟨by rw [HCC.out], HV.out, trivial⟩
end Go.Proofs.Ytmocablibmkebaa.S

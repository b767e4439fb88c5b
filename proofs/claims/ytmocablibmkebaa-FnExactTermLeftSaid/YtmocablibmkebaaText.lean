/- The text of a tidy term: what (*term).text returns. -/
import Derived.Test.YtmocablibmkebaaInward
import Derived.Deep.QuietTactic
import Derived.BigQuiet
namespace Go.Proofs.Ytmocablibmkebaa.S
open Go.RowKit Go.Proofs.YtmocablibmkebaaW.PrintWords Go.Proofs.YtmocablibmkebaaW.PrintMore Go.Proofs.Ytmocablibmkebaa.Qi
set_option linter.unusedVariables false
set_option linter.unusedSimpArgs false

theorem enc45 : Utf8.encode 45 = ⟨#[45]⟩ := by kernel_rfl
theorem enc124 : Utf8.encode 124 = ⟨#[124]⟩ := by kernel_rfl
/-- The sign between, as a text. -/
def bz (p : Bool) : ByteArray := if p then ⟨#[124]⟩ else ⟨#[45]⟩
/-- The text of a tidy term. -/
def txt : Tm → ByteArray
  | .o => ⟨#[111]⟩
  | .one _ a => txt a
  | .two p a b => (((⟨#[40]⟩ ++ txt a) ++ bz p) ++ txt b) ++ ⟨#[41]⟩

set_option maxRecDepth 100000 in
set_option maxHeartbeats 4000000 in
theorem text_o (v : Value) (W : World) (h : TmAt W v .o) : Calls Try.prog 25 #[v] W fun e w' => e = .returned (.string (txt .o)) ∧ ∃ m, w' = W.drewN m := by
  obtain ⟨l, rfl, hl⟩ := h
  have hc0 : W.cell? ⟨l, 0, none⟩ = some (.int .u8 111) := (blk_cell hl 0).trans rfl
  have hc1 : W.cell? ⟨l, 1, none⟩ = some (.slice none 0 0) := (blk_cell hl 1).trans rfl
  clear hl
  go_enter Try.func25, Try.ntmps25
  go_wp2
  go_ret
  exact ⟨rfl, 0, rfl⟩

set_option maxRecDepth 100000 in
set_option maxHeartbeats 4000000 in
theorem text_two (p : Bool) (a b : Tm) (A B : ByteArray) (hA : A.size ≤ 1000000) (hB : B.size ≤ 1000000)
    (ca : ∀ v W, TmAt W v a → Calls Try.prog 25 #[v] W fun e w' => e = .returned (.string A) ∧ ∃ m, w' = W.drewN m)
    (cb : ∀ v W, TmAt W v b → Calls Try.prog 25 #[v] W fun e w' => e = .returned (.string B) ∧ ∃ m, w' = W.drewN m)
    (v : Value) (W : World) (h : TmAt W v (.two p a b)) :
    Calls Try.prog 25 #[v] W fun e w' => e = .returned (.string ((((⟨#[40]⟩ ++ A) ++ bz p) ++ B) ++ ⟨#[41]⟩)) ∧ ∃ m, w' = W.drewN m := by
  obtain ⟨l, k, u, x, rfl, hl, hk, ha, hb⟩ := h
  have hc0 : W.cell? ⟨l, 0, none⟩ = some (.int .u8 (bs p)) := (blk_cell hl 0).trans rfl
  have hc1 : W.cell? ⟨l, 1, none⟩ = some (.slice (some ⟨k, 0, none⟩) 2 2) := (blk_cell hl 1).trans rfl
  have hc2 : W.cell? ⟨k, 0, none⟩ = some u := (blk_cell hk 0).trans rfl
  have hc3 : W.cell? ⟨k, 1, none⟩ = some x := (blk_cell hk 1).trans rfl
  have CA : Hid (∀ n, Calls Try.prog 25 #[u] (W.drewN n) fun e w' => e = .returned (.string A) ∧ ∃ m, w' = (W.drewN n).drewN m) := Lib.hid (fun n => ca u _ (ha.below (pw_below_drewN (Below.refl _ _) _)))
  have CB : Hid (∀ n, Calls Try.prog 25 #[x] (W.drewN n) fun e w' => e = .returned (.string B) ∧ ∃ m, w' = (W.drewN n).drewN m) := Lib.hid (fun n => cb x _ (hb.below (pw_below_drewN (Below.refl _ _) _)))
  have f1 : (9223372036854775807 < 1 + A.size) = False := eq_false (by omega)
  have u1 : (Utf8.encode 45).size = 1 := by rw [enc45]; rfl
  have u2 : (Utf8.encode 124).size = 1 := by rw [enc124]; rfl
  have f2 : (9223372036854775807 < 1 + A.size + (Utf8.encode 45).size) = False := eq_false (by omega)
  have f3 : (9223372036854775807 < 1 + A.size + (Utf8.encode 45).size + B.size) = False := eq_false (by omega)
  have f4 : (9223372036854775807 < 1 + A.size + (Utf8.encode 45).size + B.size + 1) = False := eq_false (by omega)
  have f5 : (9223372036854775807 < 1 + A.size + (Utf8.encode 124).size) = False := eq_false (by omega)
  have f6 : (9223372036854775807 < 1 + A.size + (Utf8.encode 124).size + B.size) = False := eq_false (by omega)
  have f7 : (9223372036854775807 < 1 + A.size + (Utf8.encode 124).size + B.size + 1) = False := eq_false (by omega)
  clear u1 u2
  clear hl hk ha hb ca cb
  cases p <;> simp only [bs, bz, if_true, if_false, Bool.false_eq_true, reduceIte] at hc0 ⊢
  all_goals
    go_enter Try.func25, Try.ntmps25
    go_wp2_with fail
    go_quiet (first | (go_at_call 25; with_reducible exact Calls.quiet_of (CA.out _)) | (go_at_call 25; with_reducible exact Calls.quiet_of (CB.out _)))
    go_wp2
    go_ret
    exact ⟨by first | (rw [enc45]; rfl) | (rw [enc124]; rfl), _, rfl⟩

theorem txt_size : ∀ (t : Tm), Td t → (txt t).size + 3 = 4 * t.rooms
  | .o, _ => rfl
  | .one _ _, h => h.elim
  | .two p a b, h => by
    have h1 := txt_size a h.1
    have h2 := txt_size b h.2
    have e : (bz p).size = 1 := by cases p <;> rfl
    have e1 : (⟨#[40]⟩ : ByteArray).size = 1 := rfl
    have e2 : (⟨#[41]⟩ : ByteArray).size = 1 := rfl
    simp only [txt, Tm.rooms, ByteArray.size_append, e, e1, e2]
    omega

theorem text_calls : ∀ (t : Tm), Td t → t.rooms ≤ 1000 → ∀ (v : Value) (W : World), TmAt W v t →
    Calls Try.prog 25 #[v] W fun e w' => e = .returned (.string (txt t)) ∧ ∃ m, w' = W.drewN m := by
  intro t
  induction t with
  | o => intro _ _ v W h; exact text_o v W h
  | one f a => intro h; exact h.elim
  | two p a b iha ihb =>
    intro ht hr v W h
    simp only [Tm.rooms] at hr
    have h1 := txt_size a ht.1
    have h2 := txt_size b ht.2
    exact text_two p a b _ _ (by omega) (by omega) (iha ht.1 (by omega)) (ihb ht.2 (by omega)) v W h

end Go.Proofs.Ytmocablibmkebaa.S

/- FnExactTermLeft: the plain law. -/
import Derived.Test.YtmocablibmkebaaQx1
import Derived.Test.YtmocablibmkebaaSpDec
namespace Go.Proofs.Ytmocablibmkebaa.Pure
open Go.RowKit Go.Proofs.Ytmocablibmkebaa.Qs Go.Proofs.Ytmocablibmkebaa.S Go.Proofs.Ytmocablibmkebaa.Qx Go.Proofs.YtmocablibmkebaaW.PrintWords Go.Proofs.YtmocablibmkebaaW.PrintLast

/-- A term's depth. -/
def dp : Tm → Nat
  | .o => 0
  | .one _ a => dp a + 1
  | .two _ a b => dp a + dp b + 1

theorem mv_zero : ∀ (t : Tm), mv 0 t = t
  | .o => rfl
  | .one _ _ => rfl
  | .two v a b => by
    show mk 0 v (mv 0 a) (mv 0 b) = _
    rw [mv_zero a, mv_zero b]
    cases v <;> rfl

theorem inw_mv : ∀ (t : Tm) (s : Int), inw t s = mv s (inw t 0)
  | .o, _ => rfl
  | .one f a, s => by
    show (if s = 0 then inw a (us f) else mv s (inw a (us f))) = mv s (inw a (us f))
    by_cases h : s = 0
    · rw [if_pos h, h, mv_zero]
    · rw [if_neg h]
  | .two v a b, s => by
    have e : inw (.two v a b) 0 = .two v (inw a 0) (inw b 0) := by cases v <;> rfl
    rw [e]
    show mk s v (inw a s) (inw b s) = mk s v (mv s (inw a 0)) (mv s (inw b 0))
    rw [inw_mv a s, inw_mv b s]

/-- One turn, and one flip. -/
abbrev rt (t : Tm) : Tm := mv 62 t
abbrev fp (t : Tm) : Tm := mv 94 t
theorem rt_bar (a b : Tm) : rt (.two true a b) = .two false (rt a) (rt b) := rfl
theorem rt_dash (a b : Tm) : rt (.two false a b) = .two true (rt b) (rt a) := rfl
theorem fp_bar (a b : Tm) : fp (.two true a b) = .two true (fp b) (fp a) := rfl
theorem fp_dash (a b : Tm) : fp (.two false a b) = .two false (fp a) (fp b) := rfl
theorem rt4 : ∀ (t : Tm), Td t → rt (rt (rt (rt t))) = t
  | .o, _ => rfl
  | .one _ _, h => h.elim
  | .two v a b, h => by
    cases v <;> simp only [rt_bar, rt_dash, rt4 a h.1, rt4 b h.2]
theorem fp2 : ∀ (t : Tm), Td t → fp (fp t) = t
  | .o, _ => rfl
  | .one _ _, h => h.elim
  | .two v a b, h => by
    cases v <;> simp only [fp_bar, fp_dash, fp2 a h.1, fp2 b h.2]
theorem fprt : ∀ (t : Tm), Td t → fp (rt t) = rt (rt (rt (fp t)))
  | .o, _ => rfl
  | .one _ _, h => h.elim
  | .two v a b, h => by
    cases v <;> simp only [rt_bar, rt_dash, fp_bar, fp_dash, fprt a h.1, fprt b h.2]

/-- n turns behind a flip. -/
def act (n : Nat) (fl : Bool) (t : Tm) : Tm :=
  match n with
  | 0 => if fl then fp t else t
  | 1 => rt (if fl then fp t else t)
  | 2 => rt (rt (if fl then fp t else t))
  | _ => rt (rt (rt (if fl then fp t else t)))

theorem act_rt (n : Nat) (hn : n < 4) (t : Tm) (ht : Td t) : act n true (rt t) = act ((n + 3) % 4) true t ∧ act n false (rt t) = act ((n + 1) % 4) false t := by
  have h1 := fprt t ht
  have h2 : rt (rt (rt (rt (fp t)))) = fp t := rt4 _ (Td.mv ht)
  have h3 := rt4 t ht
  rcases n with _ | _ | _ | _ | n
  · exact ⟨h1, rfl⟩
  · refine ⟨?_, rfl⟩
    show rt (fp (rt t)) = fp t
    rw [h1, h2]
  · refine ⟨?_, rfl⟩
    show rt (rt (fp (rt t))) = rt (fp t)
    rw [h1, h2]
  · refine ⟨?_, ?_⟩
    · show rt (rt (rt (fp (rt t)))) = rt (rt (fp t))
      rw [h1, h2]
    · show rt (rt (rt (rt t))) = t
      exact h3
  · omega
theorem act_fp (n : Nat) (fl : Bool) (t : Tm) (ht : Td t) : act n fl (fp t) = act n (!fl) t := by
  have h := fp2 t ht
  rcases n with _ | _ | _ | n <;> cases fl
  · rfl
  · exact h
  · rfl
  · exact congrArg rt h
  · rfl
  · exact congrArg (fun x => rt (rt x)) h
  · rfl
  · exact congrArg (fun x => rt (rt (rt x))) h

theorem s32_eta (x : S32) : (⟨x.f0, x.f1⟩ : S32) = x := by cases x; rfl

theorem tidy_spec : ∀ (t : Tm) (n : Nat) (fl : Bool) (k : Nat), n < 4 → dp t + 8 ≤ k →
    spec_l11Tidy.f k (enc t).f0 (enc t).f1 (n : Int) fl = some ((enc (act n fl (inw t 0))).f0, (enc (act n fl (inw t 0))).f1) := by
  intro t
  induction t with
  | o =>
    intro n fl k hn hk
    obtain ⟨k, rfl⟩ : ∃ m, k = m + 1 := ⟨k - 1, by omega⟩
    have e : act n fl (inw .o 0) = .o := by
      rcases n with _ | _ | _ | n <;> cases fl <;> rfl
    rw [e]
    rfl
  | one f a ih =>
    intro n fl k hn hk
    simp only [dp] at hk
    obtain ⟨k, rfl⟩ : ∃ m, k = m + 1 := ⟨k - 1, by omega⟩
    have e : inw (.one f a) 0 = mv (us f) (inw a 0) := inw_mv a (us f)
    have ht := Td.inw a 0
    have i0 : ∀ m : Nat, m < 4 → ∀ fl', spec_l11Tidy.f k (rd_T32 [enc a] 0).f0 (rd_T32 [enc a] 0).f1 (m : Int) fl' = some ((enc (act m fl' (inw a 0))).f0, (enc (act m fl' (inw a 0))).f1) := fun m hm fl' => ih m fl' k hm (by omega)
    rw [e]
    have w1 : Int.tmod (wrap64 ((n : Int) + 1)) 4 = (((n + 1) % 4 : Nat) : Int) := by
      have hw : wrap64 ((n : Int) + 1) = (n : Int) + 1 := by unfold wrap64; omega
      rw [hw, Int.tmod_eq_emod_of_nonneg (by omega)]
      omega
    have w3 : Int.tmod (wrap64 ((n : Int) + 3)) 4 = (((n + 3) % 4 : Nat) : Int) := by
      have hw : wrap64 ((n : Int) + 3) = (n : Int) + 3 := by unfold wrap64; omega
      rw [hw, Int.tmod_eq_emod_of_nonneg (by omega)]
      omega
    cases f with
    | false =>
      have h := act_rt n hn _ ht
      show spec_l11Tidy.f (k + 1) 62 [enc a] (n : Int) fl = some ((enc (act n fl (rt (inw a 0)))).f0, (enc (act n fl (rt (inw a 0)))).f1)
      simp only [spec_l11Tidy.f]
      rw [if_pos trivial]
      cases fl with
      | true =>
        rw [if_pos rfl, if_pos (by simp), w3, i0 _ (by omega), Option.bind_some, h.1]
      | false =>
        rw [if_neg (by simp), if_pos (by simp), w1, i0 _ (by omega), Option.bind_some, h.2]
    | true =>
      show spec_l11Tidy.f (k + 1) 94 [enc a] (n : Int) fl = some ((enc (act n fl (fp (inw a 0)))).f0, (enc (act n fl (fp (inw a 0)))).f1)
      simp only [spec_l11Tidy.f]
      rw [if_neg (by decide), if_pos trivial, if_pos (by simp), i0 _ hn, Option.bind_some, act_fp _ _ _ ht]
  | two v a b iha ihb =>
    intro n fl k hn hk
    simp only [dp] at hk
    obtain ⟨k, rfl⟩ : ∃ m, k = m + 1 := ⟨k - 1, by omega⟩
    have e : inw (.two v a b) 0 = .two v (inw a 0) (inw b 0) := by cases v <;> rfl
    have ia := iha n fl k hn (by omega)
    have ib := ihb n fl k hn (by omega)
    rw [e]
    generalize inw a 0 = A at *
    generalize inw b 0 = B at *
    show spec_l11Tidy.f (k + 1) (bs v) [enc a, enc b] (n : Int) fl = _
    simp only [spec_l11Tidy.f]
    have ia' : spec_l11Tidy.f k (rd_T32 [enc a, enc b] 0).f0 (rd_T32 [enc a, enc b] 0).f1 (n : Int) fl = _ := ia
    have ib' : spec_l11Tidy.f k (rd_T32 [enc a, enc b] 1).f0 (rd_T32 [enc a, enc b] 1).f1 (n : Int) fl = _ := ib
    rw [if_neg (by cases v <;> decide), if_neg (by cases v <;> decide), if_neg (by cases v <;> decide), if_pos (by simp), ia', Option.bind_some]
    simp only
    rw [if_pos (by simp), ib', Option.bind_some]
    simp only
    obtain ⟨k, rfl⟩ : ∃ m, k = m + 6 := ⟨k - 6, by omega⟩
    clear ia ib ia' ib' iha ihb e
    rcases n with _ | _ | _ | _ | n
    · cases fl <;> cases v <;> (simp only [spec_l11Tidy.j0, spec_l11Tidy.l0, bs, wrap64]; simp (decide := true) only [reduceIte, Bool.not_true, Bool.not_false, s32_eta]; first | done | rfl)
    · cases fl <;> cases v <;> (simp only [spec_l11Tidy.j0, spec_l11Tidy.l0, bs, wrap64]; simp (decide := true) only [reduceIte, Bool.not_true, Bool.not_false, s32_eta]; first | done | rfl)
    · cases fl <;> cases v <;> (simp only [spec_l11Tidy.j0, spec_l11Tidy.l0, bs, wrap64]; simp (decide := true) only [reduceIte, Bool.not_true, Bool.not_false, s32_eta]; first | done | rfl)
    · cases fl <;> cases v <;> (simp only [spec_l11Tidy.j0, spec_l11Tidy.l0, bs, wrap64]; simp (decide := true) only [reduceIte, Bool.not_true, Bool.not_false, s32_eta]; first | done | rfl)
    · omega

theorem FnExactTermLeft : laws_FnExactTermLeft.Pure := by
  intro a0 _
  refine ⟨dp (ofS a0).1 + 20, ?_⟩
  unfold laws_FnExactTermLeft.f
  by_cases h : (a0.size : Int) > 1048576
  · rw [if_pos h]
  rw [if_neg h]
  have e := of_agree a0
  have hr : ∀ t, ofI a0.data.toList = some t → t.rooms ≤ 60 := fun t h => ofI_rooms h
  generalize hk : dp (ofS a0).1 + 20 = k at *
  simp only [spec_TermLeft.f, spec_l11Of.f, impl_TermLeft.f, Option.bind_some]
  generalize ofS a0 = x at *
  obtain ⟨t, ok⟩ := x
  simp only at e hk ⊢
  cases ok with
  | false =>
    rw [if_neg (by decide)] at e
    rw [e]
    simp
  | true =>
    rw [if_pos rfl] at e
    have hr := hr t e
    rw [e, if_pos rfl]
    have h1 := tidy_spec t 0 false k (by omega) (by omega)
    have h2 := spec_l11Left.tells k (inw t 0) (Td.inw t 0) (by rw [inw_rooms]; omega)
    have h3 : act 0 false (inw t 0) = inw t 0 := rfl
    rw [h3] at h1
    rw [show (0 : Int) = ((0 : Nat) : Int) from rfl, h1, Option.bind_some]
    simp only
    rw [h2]
    simp
end Go.Proofs.Ytmocablibmkebaa.Pure

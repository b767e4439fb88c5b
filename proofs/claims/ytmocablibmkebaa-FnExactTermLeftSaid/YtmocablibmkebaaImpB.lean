/- The contracts of impl.TermTidy and impl.TermLeft. -/
import Derived.Test.YtmocablibmkebaaLeft2
import Derived.Test.YtmocablibmkebaaAgree
namespace Go.Proofs.Ytmocablibmkebaa.S
open Go.RowKit Go.Proofs.YtmocablibmkebaaW.PrintWords Go.Proofs.YtmocablibmkebaaW.PrintMore
set_option linter.unusedVariables false
set_option linter.unusedSimpArgs false

theorem mk_rooms (s : Int) (v : Bool) (x y : Tm) : (mk s v x y).rooms = x.rooms + y.rooms := by
  unfold mk
  split
  · split <;> simp only [Tm.rooms]; omega
  · split <;> simp only [Tm.rooms]; omega
theorem mv_rooms (s : Int) : ∀ (t : Tm), (mv s t).rooms = t.rooms
  | .o => rfl
  | .one _ _ => rfl
  | .two v a b => by
    show (mk s v (mv s a) (mv s b)).rooms = a.rooms + b.rooms
    rw [mk_rooms, mv_rooms s a, mv_rooms s b]
theorem inw_rooms : ∀ (t : Tm) (s : Int), (inw t s).rooms = t.rooms
  | .o, _ => rfl
  | .one f a, s => by
    unfold inw
    split
    · exact inw_rooms a _
    · rw [mv_rooms]; exact inw_rooms a _
  | .two v a b, s => by
    show (mk s v (inw a s) (inw b s)).rooms = a.rooms + b.rooms
    rw [mk_rooms, inw_rooms a s, inw_rooms b s]

def sumR : List Tm → Nat
  | [] => 0
  | t :: ts => t.rooms + sumR ts
theorem sumR_app : ∀ (l r : List Tm), sumR (l ++ r) = sumR l + sumR r
  | [], r => by simp [sumR]
  | t :: l, r => by simp only [List.cons_append, sumR, sumR_app l r]; omega
theorem foldl_rooms (q : Bool) : ∀ (l : List Tm) (x : Tm), (l.foldl (Tm.two q) x).rooms = x.rooms + sumR l
  | [], x => by simp [sumR]
  | t :: l, x => by rw [List.foldl_cons, foldl_rooms q l]; simp only [Tm.rooms, sumR]; omega
theorem foldl_td (q : Bool) : ∀ (l : List Tm) (x : Tm), Td x → (∀ t ∈ l, Td t) → Td (l.foldl (Tm.two q) x)
  | [], x, h, _ => h
  | t :: l, x, h, h2 => foldl_td q l _ ⟨h, h2 t (by simp)⟩ (fun u hu => h2 u (by simp [hu]))
theorem join_rooms (q : Bool) (l : List Tm) (h : 0 < l.length) : (joinT q l).rooms = sumR l := by
  cases l with
  | nil => simp at h
  | cons x xs => exact foldl_rooms q xs x
theorem join_td (q : Bool) (l : List Tm) (h : ∀ t ∈ l, Td t) : Td (joinT q l) := by
  cases l with
  | nil => exact trivial
  | cons x xs => exact foldl_td q xs x (h x (by simp)) (fun t ht => h t (by simp [ht]))
theorem al_both : ∀ (t : Tm) (q : Bool), Td t → sumR (al t q) = t.rooms ∧ ∀ x ∈ al t q, Td x
  | .o, _, _ => ⟨rfl, fun x hx => by simp only [al, List.mem_singleton] at hx; subst hx; trivial⟩
  | .one _ _, _, h => h.elim
  | .two p a b, q, h => by
    have key : ∀ r, sumR (al a r ++ al b r) = a.rooms + b.rooms ∧ ∀ x ∈ al a r ++ al b r, Td x := fun r => by
      have h1 := al_both a r h.1
      have h2 := al_both b r h.2
      refine ⟨by rw [sumR_app, h1.1, h2.1], fun x hx => ?_⟩
      rcases List.mem_append.1 hx with hx | hx
      · exact h1.2 x hx
      · exact h2.2 x hx
    unfold al
    simp only [Tm.rooms]
    split
    · exact key q
    · have k := key p
      have hp : 0 < (al a p ++ al b p).length := by rw [List.length_append]; have := al_pos a p; omega
      refine ⟨?_, fun x hx => ?_⟩
      · simp only [sumR, Nat.add_zero]
        rw [join_rooms _ _ hp, k.1]
      · simp only [List.mem_singleton] at hx
        subst hx
        exact join_td _ _ k.2
theorem lf_td : ∀ (t : Tm), Td t → Td (lf t)
  | .o, _ => trivial
  | .one _ _, h => h.elim
  | .two p a b, h => by
    have := (al_both (.two p a b) p h).2
    rw [show al (.two p a b) p = al a p ++ al b p from if_pos rfl] at this
    exact join_td p _ this
theorem lf_rooms : ∀ (t : Tm), Td t → (lf t).rooms = t.rooms
  | .o, _ => rfl
  | .one _ _, h => h.elim
  | .two p a b, h => by
    have := (al_both (.two p a b) p h).1
    rw [show al (.two p a b) p = al a p ++ al b p from if_pos rfl] at this
    have hp : 0 < (al a p ++ al b p).length := by rw [List.length_append]; have := al_pos a p; omega
    show (joinT p (al a p ++ al b p)).rooms = _
    rw [join_rooms _ _ hp, this]

def impl_TermTidy.f (a0 : ByteArray) : Option (ByteArray × Bool) :=
  some (((ofI a0.data.toList).map fun t => txt (inw t 0)).getD ⟨#[]⟩, (ofI a0.data.toList).isSome)
def impl_TermLeft.f (a0 : ByteArray) : Option (ByteArray × Bool) :=
  some (((ofI a0.data.toList).map fun t => txt (lf (inw t 0))).getD ⟨#[]⟩, (ofI a0.data.toList).isSome)

set_option maxRecDepth 100000 in
set_option maxHeartbeats 4000000 in
theorem TermTidy_calls (s : ByteArray) (w : World) :
    Calls Try.prog 14 #[.string s] w fun e w' => e = .returned (.tuple #[.string (((ofI s.data.toList).map fun t => txt (inw t 0)).getD ⟨#[]⟩), .bool (ofI s.data.toList).isSome]) ∧ Below w.heap.size w w' := by
  have T := Lib.hid (termOf_calls s w)
  go_enter Try.func14, Try.ntmps14
  go_wp2_with fail
  refine T.out.mono ?_
  rintro e w2 ⟨v, rfl, hP, hB⟩
  have HB := Lib.hid hB
  clear hB T
  obtain ⟨x, hx⟩ : ∃ x, x = ofI s.data.toList := ⟨_, rfl⟩
  rw [← hx] at hP
  have HX := Lib.hid hx
  clear hx
  cases x with
  | none =>
    obtain rfl : v = .pointer none := hP
    go_wp2
    go_ret2
    rw [← HX.out]
    exact ⟨rfl, HB.out⟩
  | some x =>
    obtain ⟨k, rfl⟩ := TmAt.ptr hP
    have R := Lib.hid (tidy_calls x _ _ hP)
    have hr := ofI_rooms HX.out.symm
    have HR : Hid (x.rooms ≤ 1000) := Lib.hid (by omega)
    clear hP hr
    go_wp2_with fail
    refine R.out.mono ?_
    rintro e w3 ⟨v3, rfl, ht3, hb3⟩
    have T3 := Lib.hid (text_calls _ (Td.inw x 0) (by rw [inw_rooms]; exact HR.out) _ _ ht3)
    have HB3 := Lib.hid (below_step HB.out hb3)
    clear ht3 hb3
    go_wp2_with fail
    refine T3.out.mono ?_
    rintro e w4 ⟨rfl, m, rfl⟩
    go_wp2
    go_ret2
    rw [← HX.out]
    exact ⟨rfl, pw_below_drewN HB3.out _⟩

set_option maxRecDepth 100000 in
set_option maxHeartbeats 4000000 in
theorem TermLeft_calls (s : ByteArray) (w : World) :
    Calls Try.prog 16 #[.string s] w fun e w' => e = .returned (.tuple #[.string (((ofI s.data.toList).map fun t => txt (lf (inw t 0))).getD ⟨#[]⟩), .bool (ofI s.data.toList).isSome]) ∧ Below w.heap.size w w' := by
  have T := Lib.hid (termOf_calls s w)
  go_enter Try.func16, Try.ntmps16
  go_wp2_with fail
  refine T.out.mono ?_
  rintro e w2 ⟨v, rfl, hP, hB⟩
  have HB := Lib.hid hB
  clear hB T
  obtain ⟨x, hx⟩ : ∃ x, x = ofI s.data.toList := ⟨_, rfl⟩
  rw [← hx] at hP
  have HX := Lib.hid hx
  clear hx
  cases x with
  | none =>
    obtain rfl : v = .pointer none := hP
    go_wp2
    go_ret2
    rw [← HX.out]
    exact ⟨rfl, HB.out⟩
  | some x =>
    obtain ⟨k, rfl⟩ := TmAt.ptr hP
    have R := Lib.hid (tidy_calls x _ _ hP)
    have hr := ofI_rooms HX.out.symm
    have HR : Hid (x.rooms ≤ 1000) := Lib.hid (by omega)
    clear hP hr
    go_wp2_with fail
    refine R.out.mono ?_
    rintro e w3 ⟨v3, rfl, ht3, hb3⟩
    have T3 := Lib.hid (left_calls _ (Td.inw x 0) (by rw [inw_rooms]; exact HR.out) _ _ ht3)
    have HB3 := Lib.hid (below_step HB.out hb3)
    clear ht3 hb3
    go_wp2_with fail
    refine T3.out.mono ?_
    rintro e w4 ⟨v4, rfl, ht4, hb4⟩
    have T4 := Lib.hid (text_calls _ (lf_td _ (Td.inw x 0)) (by rw [lf_rooms _ (Td.inw x 0), inw_rooms]; exact HR.out) _ _ ht4)
    have HB4 := Lib.hid (below_step HB3.out hb4)
    clear ht4 hb4
    go_wp2_with fail
    refine T4.out.mono ?_
    rintro e w5 ⟨rfl, m, rfl⟩
    go_wp2
    go_ret2
    rw [← HX.out]
    exact ⟨rfl, pw_below_drewN HB4.out _⟩

theorem impl_TermTidy.calls (a0 : ByteArray) (r1 : ByteArray) (r2 : Bool) (w : World) (h : impl_TermTidy.f a0 = some (r1, r2)) :
    Calls Try.prog 14 #[.string a0] w fun e w' => e = .returned (.tuple #[.string r1, .bool r2]) ∧ Below w.heap.size w w' := by
  simp only [impl_TermTidy.f, Option.some.injEq, Prod.mk.injEq] at h
  obtain ⟨rfl, rfl⟩ := h
  exact TermTidy_calls a0 w
theorem impl_TermLeft.calls (a0 : ByteArray) (r1 : ByteArray) (r2 : Bool) (w : World) (h : impl_TermLeft.f a0 = some (r1, r2)) :
    Calls Try.prog 16 #[.string a0] w fun e w' => e = .returned (.tuple #[.string r1, .bool r2]) ∧ Below w.heap.size w w' := by
  simp only [impl_TermLeft.f, Option.some.injEq, Prod.mk.injEq] at h
  obtain ⟨rfl, rfl⟩ := h
  exact TermLeft_calls a0 w
end Go.Proofs.Ytmocablibmkebaa.S

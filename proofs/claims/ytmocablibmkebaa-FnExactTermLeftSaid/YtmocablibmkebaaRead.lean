/- The walk of (*impl.reader).term: it reads what rdI reads. -/
import Derived.Test.YtmocablibmkebaaTm
import Derived.Lib.Strings
import Derived.WalkKit
import Derived.Shelf.Abstract
import Derived.Outline
import Derived.Lib.Hide
namespace Go.Proofs.Ytmocablibmkebaa.S
open Go.RowKit Go.Proofs.YtmocablibmkebaaW.PrintWords Go.Proofs.YtmocablibmkebaaW.PrintMore Go.Proofs.Ytmocablibmkebaa.Qi
set_option linter.unusedVariables false
set_option linter.unusedSimpArgs false

theorem take_f (s : ByteArray) : ∃ s', impl_reader_take.f s = some ((tk s.data.toList).1, s') ∧ s'.data.toList = (tk s.data.toList).2 := by
  unfold impl_reader_take.f
  by_cases h : s.toList = []
  · rw [if_pos h]
    have hd : s.data.toList = [] := by rw [← h]; exact (Go.Lib.toList_data s).symm
    exact ⟨s, by rw [hd]; rfl, by rw [hd]; rfl⟩
  · rw [if_neg h]
    have hd : s.data.toList ≠ [] := by intro e; exact h ((Go.Lib.toList_data s).trans e)
    obtain ⟨c, l, hl⟩ := List.exists_cons_of_ne_nil hd
    have hs : s.size = l.length + 1 := by
      have : s.data.toList.length = s.size := by simp
      rw [← this, hl]; rfl
    rw [if_pos (show 0 < (s.size : Int) by omega), if_pos (show 1 ≤ (s.size : Int) by omega)]
    refine ⟨s.extract 1 s.size, ?_, ?_⟩
    · rw [hl]
      have : bt s 0 = (c.toNat : Int) := by
        rw [← bt_at s 0 (by simp; omega)]
        have e : s.data.toList[0]? = some c := by rw [hl]; rfl
        have e2 : s[(0 : Int).toNat]'(by simp; omega) = c := by
          have h3 := List.getElem?_eq_some_iff.1 e
          obtain ⟨_, h4⟩ := h3
          exact h4
        rw [e2]
      rw [this]; rfl
    · rw [Go.Lib.extract_data, hl, hs]
      simp [tk]

theorem take_calls {w0 W : World} {g : Nat} {l : List UInt8} (h : Rd w0 W g l) :
    Calls Try.prog 39 #[.pointer (some ⟨g, 0, none⟩)] W fun e W' => e = .returned (.int .u8 (tk l).1) ∧ Rd w0 W' g (tk l).2 ∧ KeepBut W W' g none := by
  obtain ⟨s, rfl, hI, hB⟩ := h
  obtain ⟨s', hf, hs'⟩ := take_f s
  refine (impl_reader_take.calls g s _ s' w0 W hI hB hf).mono ?_
  rintro e W' ⟨rfl, h1, h2, h3⟩
  exact ⟨rfl, ⟨s', hs', h1, h2⟩, h3⟩

theorem Rd.below {w0 W W' : World} {g : Nat} {l : List UInt8} (h : Rd w0 W g l) (hb : Below W.heap.size W W') : Rd w0 W' g l := by
  obtain ⟨s, hs, hI, hB⟩ := h
  exact ⟨s, hs, hI.below hb, hB.trans (hb.mono hB.size)⟩
theorem Rd.still {w0 W W' : World} {g : Nat} {l : List UInt8} (h : Rd w0 W g l) (hk : KeepBut W W' g none) : Still W W' := by
  obtain ⟨s, hs, hI, hB⟩ := h
  exact Still.keep hk hI.1 ⟨by decide, by decide⟩

theorem info51 : (Try.prog.info? 51).map (fun i => (i.zero, i.size, i.bytes)) = some (some (.agg #[(.int .u8 0), (.slice none 0 0)]), 2, 32) := by kernel_rfl

theorem keep_tr {A B C : World} {g : Nat} (h : KeepBut A B g none) (k : KeepBut B C g none) : KeepBut A C g none := h.trans k (.inl rfl)

theorem Rd.alloc {w0 W : World} {g : Nat} {l : List UInt8} (h : Rd w0 W g l) (o : Obj) : Rd w0 (W.alloc o) g l := h.below (below_alloc (Below.refl _ _) o)
theorem TmAt.alloc {W : World} {v : Value} {t : Tm} (h : TmAt W v t) (o : Obj) : TmAt (W.alloc o) v t := h.below (below_alloc (Below.refl _ _) o)
theorem new_at (W : World) (o : Obj) : (W.alloc o).heap[W.heap.size]? = some o := by simpa using heap_alloc_new W o
theorem TmAt.new_o (W : World) : TmAt (W.alloc (Obj.cells #[.int .u8 111, .slice none 0 0] 51)) (.pointer (some ⟨W.heap.size, 0, none⟩)) .o :=
  ⟨W.heap.size, rfl, new_at W _⟩
theorem TmAt.new_one {W : World} {u : Value} {a : Tm} {f : Bool} {c : Int} (hc : c = us f) (h : TmAt W u a) : TmAt ((W.alloc (Obj.cells #[u] 35)).alloc (Obj.cells #[.int .u8 c, .slice (some ⟨W.heap.size, 0, none⟩) 1 1] 51)) (.pointer (some ⟨W.heap.size + 1, 0, none⟩)) (.one f a) := by
  subst hc
  rw [show W.heap.size + 1 = (W.alloc (Obj.cells #[u] 35)).heap.size by simp]
  exact ⟨_, W.heap.size, u, rfl, new_at _ _, ((below_alloc (Below.refl _ (W.alloc (Obj.cells #[u] 35))) _).block _ (by simp)).trans (new_at W _), (h.alloc _).alloc _⟩
theorem TmAt.new_two {W : World} {u x : Value} {a b : Tm} {s : Bool} {c : Int} (hc : c = bs s) (h : TmAt W u a) (h2 : TmAt W x b) : TmAt ((W.alloc (Obj.cells #[u, x] 35)).alloc (Obj.cells #[.int .u8 c, .slice (some ⟨W.heap.size, 0, none⟩) 2 2] 51)) (.pointer (some ⟨W.heap.size + 1, 0, none⟩)) (.two s a b) := by
  subst hc
  rw [show W.heap.size + 1 = (W.alloc (Obj.cells #[u, x] 35)).heap.size by simp]
  exact ⟨_, W.heap.size, u, x, rfl, new_at _ _, ((below_alloc (Below.refl _ (W.alloc (Obj.cells #[u, x] 35))) _).block _ (by simp)).trans (new_at W _), (h.alloc _).alloc _, (h2.alloc _).alloc _⟩

set_option maxRecDepth 100000 in
set_option maxHeartbeats 4000000 in
theorem term_calls (w0 : World) (g : Nat) : ∀ (n : Nat) (l : List UInt8) (W : World), l.length < n → Rd w0 W g l →
    Calls Try.prog 30 #[.pointer (some ⟨g, 0, none⟩)] W fun e W' => ∃ v, e = .returned v ∧ PtrAt W' v (rdI n l).1 ∧ Rd w0 W' g (rdI n l).2 ∧ KeepBut W W' g none := by
  intro n
  induction n with
  | zero => intro l W h; exact absurd h (by omega)
  | succ n ih =>
    intro l W hlt hR
    have IH := Lib.hid ih
    have T1 := Lib.hid (take_calls hR)
    have hlen := fun h => tk_lt l h
    have HLT := Lib.hid hlt
    have HLEN := Lib.hid hlen
    generalize hres : rdI (n + 1) l = res
    simp only [rdI] at hres
    clear ih hR hlen hlt
    generalize hq : tk l = q at *
    obtain ⟨c, r⟩ := q
    simp only at hres HLEN T1
    have HE := Lib.hid hres
    clear hres hq
    go_enter Try.func30, Try.ntmps30
    go_wp2_with fail
    refine T1.out.mono ?_
    rintro e W1 ⟨rfl, hR1, hK1⟩
    have HR1 := Lib.hid hR1
    have HK1 := Lib.hid hK1
    clear hR1 hK1 T1
    by_cases h111 : c = 111
    · subst h111
      have he := HE.out
      rw [if_pos rfl] at he
      subst he
      clear HE
      go_wp2
      go_ret
      exact ⟨_, rfl, TmAt.new_o W1, HR1.out.alloc _, keep_alloc HK1.out _⟩
    have e111 : (c == 111) = false := beq_eq_false_iff_ne.mpr h111
    by_cases h62 : c = 62 ∨ c = 94
    · have he := HE.out
      rw [if_neg h111, if_pos h62] at he
      have HE2 := Lib.hid he
      clear he HE h111
      have IH2 := Lib.hid (IH.out r W1 (by have := HLEN.out (by rcases h62 with e | e <;> rw [e] <;> decide); have := HLT.out; omega) HR1.out)
      clear IH HLEN HLT
      rcases h62 with rfl | rfl <;> (
        go_wp2_with fail
        refine IH2.out.mono ?_
        rintro e W2 ⟨v, rfl, hP, hR2, hK2⟩
        have HR2 := Lib.hid hR2
        have HK2 := Lib.hid (keep_tr HK1.out hK2)
        clear hR2 hK2 IH2 HK1 HR1
        obtain ⟨res2, hres2⟩ : ∃ q, q = rdI n r := ⟨_, rfl⟩
        rw [← hres2] at hP HR2 HE2
        obtain ⟨x, r2⟩ := res2
        clear hres2
        have he := HE2.out
        clear HE2
        cases x with
        | none =>
          obtain rfl : v = .pointer none := hP
          subst he
          go_wp2
          go_ret
          exact ⟨_, rfl, rfl, HR2.out, HK2.out⟩
        | some x =>
          obtain ⟨k, rfl⟩ := TmAt.ptr hP
          have HP := Lib.hid hP
          subst he
          clear hP
          go_wp2
          go_ret
          refine ⟨_, rfl, TmAt.new_one ?_ HP.out, (HR2.out.alloc _).alloc _, keep_alloc (keep_alloc HK2.out _) _⟩
          rfl)
    have he := HE.out
    rw [if_neg h111, if_neg h62] at he
    have e62 : (c == 62) = false := beq_eq_false_iff_ne.mpr (fun h => h62 (.inl h))
    have e94 : (c == 94) = false := beq_eq_false_iff_ne.mpr (fun h => h62 (.inr h))
    have HE2 := Lib.hid he
    clear he HE h111 h62
    by_cases h40 : c = 40
    · subst h40
      have he := HE2.out
      rw [if_pos rfl] at he
      have HE := Lib.hid he
      clear he HE2
      have hrl : r.length < n := by have := HLEN.out (by decide); have := HLT.out; omega
      have HRL := Lib.hid hrl
      have IH2 := Lib.hid (IH.out r W1 hrl HR1.out)
      clear HLEN HLT hrl e111 e62 e94
      go_wp2_with fail
      refine IH2.out.mono ?_
      rintro e W2 ⟨v, rfl, hP, hR2, hK2⟩
      have HR2 := Lib.hid hR2
      have HS1 := Lib.hid (Still.refl W2)
      have HP := Lib.hid hP
      have HK2 := Lib.hid (keep_tr HK1.out hK2)
      have T2 := Lib.hid (take_calls hR2)
      clear hR2 hK2 hP IH2 HK1 HR1
      go_wp2_with fail
      refine T2.out.mono ?_
      rintro e W3 ⟨rfl, hR3, hK3⟩
      have HS3 := Lib.hid (HR2.out.still hK3)
      have HK3 := Lib.hid (keep_tr HK2.out hK3)
      have IH3 := Lib.hid (IH.out _ W3 (by have := HRL.out; have h1 := rdI_le n r; have h2 := tk_le (rdI n r).2; omega) hR3)
      have HR3 := Lib.hid hR3
      clear hR3 hK3 IH T2 HK2 HR2 HRL
      go_wp2_with fail
      refine IH3.out.mono ?_
      rintro e W4 ⟨v2, rfl, hP4, hR4, hK4⟩
      have HS4 := Lib.hid (HS3.out.trans (HR3.out.still hK4))
      have HP2 := Lib.hid (PtrAt.still HS4.out HP.out)
      have HP4 := Lib.hid hP4
      have HK4 := Lib.hid (keep_tr HK3.out hK4)
      have HR4 := Lib.hid hR4
      have T4 := Lib.hid (take_calls hR4)
      clear hR4 hK4 hP4 HS4 HS3 HS1 HP HK3 HR3 IH3
      generalize rdI n r = ra at *
      obtain ⟨xa, ra⟩ := ra
      simp only at HP2 HP4 HE HR4 T4 ⊢
      generalize tk ra = qa at *
      obtain ⟨ca, qa⟩ := qa
      simp only at HP2 HP4 HE HR4 T4 ⊢
      generalize rdI n qa = rb at *
      obtain ⟨xb, rb⟩ := rb
      simp only at HP2 HP4 HE HR4 T4 ⊢
      generalize tk rb = qb at *
      obtain ⟨cb, qb⟩ := qb
      simp only at HP2 HP4 HE HR4 T4 ⊢
      have he := HE.out
      clear HE
      cases xa with
      | none =>
        obtain rfl : v = .pointer none := HP2.out
        clear HP2
        simp only at he
        subst he
        go_wp2
        go_ret
        exact ⟨_, rfl, rfl, HR4.out, HK4.out⟩
      | some xa =>
        obtain ⟨k, rfl⟩ := TmAt.ptr HP2.out
        cases xb with
        | none =>
          obtain rfl : v2 = .pointer none := HP4.out
          clear HP4
          simp only at he
          subst he
          go_wp2
          go_ret
          exact ⟨_, rfl, rfl, HR4.out, HK4.out⟩
        | some xb =>
          obtain ⟨k2, rfl⟩ := TmAt.ptr HP4.out
          simp only at he
          by_cases hca : ca = 124 ∨ ca = 45
          · rw [if_pos hca] at he
            have HE := Lib.hid he
            clear he
            rcases hca with rfl | rfl <;> (
              go_wp2_with fail
              refine T4.out.mono ?_
              rintro e W5 ⟨rfl, hR5, hK5⟩
              have HS5 := Lib.hid (HR4.out.still hK5)
              have HP5 := Lib.hid (PtrAt.still HS5.out HP2.out)
              have HP6 := Lib.hid (PtrAt.still HS5.out HP4.out)
              have HR5 := Lib.hid hR5
              have HK5 := Lib.hid (keep_tr HK4.out hK5)
              clear hR5 hK5 HS5 HP2 HP4 T4 HR4 HK4
              have he := HE.out
              clear HE
              by_cases h41 : cb = 41
              · subst h41
                rw [if_pos rfl] at he
                subst he
                go_wp2
                go_ret
                refine ⟨_, rfl, TmAt.new_two ?_ HP5.out HP6.out, (HR5.out.alloc _).alloc _, keep_alloc (keep_alloc HK5.out _) _⟩
                rfl
              · rw [if_neg h41] at he
                subst he
                have e41 : (cb == 41) = false := beq_eq_false_iff_ne.mpr h41
                clear h41
                go_wp2
                go_ret
                exact ⟨_, rfl, rfl, HR5.out, HK5.out⟩)
          · rw [if_neg hca] at he
            have e1 : (ca == 124) = false := beq_eq_false_iff_ne.mpr (fun h => hca (.inl h))
            have e2 : (ca == 45) = false := beq_eq_false_iff_ne.mpr (fun h => hca (.inr h))
            clear hca
            subst he
            go_wp2
            go_ret
            exact ⟨_, rfl, rfl, HR4.out, HK4.out⟩
    · have he := HE2.out
      rw [if_neg h40] at he
      subst he
      have e40 : (c == 40) = false := beq_eq_false_iff_ne.mpr h40
      clear HE2 h40 IH HLEN HLT
      go_wp2
      go_ret
      exact ⟨_, rfl, rfl, HR1.out, HK1.out⟩
end Go.Proofs.Ytmocablibmkebaa.S

import Derived.Test.YtmocablibmkebaaQt1
import Derived.Test.YtmocablibmkebaaAgree
namespace Go.Proofs.Ytmocablibmkebaa.Pure
open Go.RowKit Go.Proofs.Ytmocablibmkebaa.S Go.Proofs.Ytmocablibmkebaa.Qt Go.Proofs.YtmocablibmkebaaW.PrintWords Go.Proofs.YtmocablibmkebaaW.PrintLast

theorem q_rooms_l0 (s : ByteArray) (hs : s.size ≤ 60) : ∀ (d k i : Nat) (a : Int), i ≤ s.size → s.size - i = d → d < k → 0 ≤ a → a ≤ 60 - d →
    spec_l11Rooms.l0 k s a (i : Nat) = some (a + (Lib.countByte (s.data.toList.drop i) 111 : Nat)) := by
  intro d
  induction d with
  | zero =>
    intro k i a hi hd hk h0 h1
    obtain ⟨k, rfl⟩ : ∃ j, k = j + 1 := ⟨k - 1, by omega⟩
    have e : i = s.size := by omega
    subst e
    simp only [spec_l11Rooms.l0]
    rw [if_neg (by omega), List.drop_of_length_le (by rw [← Lib.size_eq]; exact Nat.le_refl _)]
    simp [Lib.countByte]
  | succ d ih =>
    intro k i a hi hd hk h0 h1
    obtain ⟨k, rfl⟩ : ∃ j, k = j + 1 := ⟨k - 1, by omega⟩
    have hlt : i < s.size := by omega
    have hl2 : i < s.data.toList.length := by rw [← Lib.size_eq]; exact hlt
    simp only [spec_l11Rooms.l0]
    rw [if_pos (by omega), if_pos (by omega)]
    have w1 : wrap64 ((i : Int) + 1) = ((i + 1 : Nat) : Int) := by unfold wrap64; omega
    have w2 : wrap64 (a + 1) = a + 1 := by unfold wrap64; omega
    rw [w1, w2, List.drop_eq_getElem_cons hl2]
    have hb : bt s (i : Nat) = ((s.data.toList[i]'hl2).toNat : Int) := by
      rw [← bt_at s (i : Nat) hlt]
      rfl
    have hc : Lib.countByte (s.data.toList[i]'hl2 :: s.data.toList.drop (i + 1)) 111 = Lib.countByte (s.data.toList.drop (i + 1)) 111 + (if bt s (i : Nat) = 111 then 1 else 0) := by
      rw [hb]
      unfold Lib.countByte
      rw [List.count_cons]
      congr 1
      by_cases h : s.data.toList[i]'hl2 = 111
      · rw [h]; rfl
      · rw [if_neg (by simpa using h), if_neg (fun h2 => h (UInt8.toNat_inj.1 (by have : (111 : UInt8).toNat = 111 := rfl; omega)))]
    rw [hc]
    by_cases h : bt s (i : Nat) = 111
    · rw [if_pos h, if_pos h, ih k (i + 1) (a + 1) (by omega) (by omega) (by omega) (by omega) (by omega)]
      congr 1
      push_cast
      omega
    · rw [if_neg h, if_neg h, ih k (i + 1) a (by omega) (by omega) (by omega) (by omega) (by omega)]
      rfl
theorem q_rooms_f (s : ByteArray) (hs : s.size ≤ 60) : spec_l11Rooms.f 70 s = some ((Lib.countByte s.data.toList 111 : Nat) : Int) := by
  have h := q_rooms_l0 s hs s.size 70 0 0 (Nat.zero_le _) (by omega) (by omega) (by omega) (by omega)
  unfold spec_l11Rooms.f
  rw [show ((0 : Nat) : Int) = 0 from rfl] at h
  rw [h]
  simp


theorem tk_count (l : List UInt8) : Lib.countByte l 111 = Lib.countByte (tk l).2 111 + (if (tk l).1 = 111 then 1 else 0) := by
  cases l with
  | nil => rfl
  | cons c l =>
    unfold Lib.countByte tk
    rw [List.count_cons]
    congr 1
    simp only
    by_cases h : c = 111
    · subst h; rfl
    · rw [if_neg (by simpa using h), if_neg (fun h2 => h (UInt8.toNat_inj.1 (by have : (111 : UInt8).toNat = 111 := rfl; omega)))]
theorem rdI_count : ∀ (n : Nat) (l : List UInt8) (t : Tm), (rdI n l).1 = some t → Lib.countByte l 111 = t.rooms + Lib.countByte (rdI n l).2 111 := by
  intro n
  induction n with
  | zero => intro l t h; simp [rdI] at h
  | succ n ih =>
    intro l t h
    have t1 := tk_count l
    simp only [rdI] at h ⊢
    by_cases c1 : (tk l).1 = 111
    · rw [if_pos c1] at h ⊢
      obtain rfl := Option.some.inj h
      rw [t1, if_pos c1]
      simp only [Tm.rooms]; omega
    rw [if_neg c1] at h ⊢ t1
    by_cases c2 : (tk l).1 = 62 ∨ (tk l).1 = 94
    · rw [if_pos c2] at h ⊢
      cases hx : (rdI n (tk l).2).1 with
      | none => rw [hx] at h; simp at h
      | some x =>
        rw [hx] at h
        obtain rfl := Option.some.inj h
        have := ih _ _ hx
        simp only [Tm.rooms]; omega
    rw [if_neg c2] at h ⊢
    by_cases c3 : (tk l).1 = 40
    · rw [if_pos c3] at h ⊢
      cases hx : (rdI n (tk l).2).1 with
      | none => rw [hx] at h; simp at h
      | some x =>
        cases hy : (rdI n (tk (rdI n (tk l).2).2).2).1 with
        | none => rw [hx, hy] at h; simp at h
        | some y =>
          rw [hx, hy] at h
          simp only at h ⊢
          have i1 := ih _ _ hx
          have i2 := ih _ _ hy
          have t2 := tk_count (rdI n (tk l).2).2
          have t3 := tk_count (rdI n (tk (rdI n (tk l).2).2).2).2
          by_cases c4 : (tk (rdI n (tk l).2).2).1 = 124 ∨ (tk (rdI n (tk l).2).2).1 = 45
          · rw [if_pos c4] at h ⊢
            rw [if_neg (by rcases c4 with e | e <;> rw [e] <;> decide)] at t2
            by_cases c5 : (tk (rdI n (tk (rdI n (tk l).2).2).2).2).1 = 41
            · rw [if_pos c5] at h ⊢
              rw [if_neg (by rw [c5]; decide)] at t3
              obtain rfl := Option.some.inj h
              simp only [Tm.rooms]; omega
            · rw [if_neg c5] at h; simp at h
          · rw [if_neg c4] at h; simp at h
    · rw [if_neg c3] at h; simp at h
theorem ofI_count {s : List UInt8} {t : Tm} (h : ofI s = some t) : t.rooms = Lib.countByte s 111 ∧ s.length ≤ 60 := by
  unfold ofI at h
  by_cases c1 : 60 < s.length ∨ 7 < Lib.countByte s 111
  · rw [if_pos c1] at h; simp at h
  · rw [if_neg c1] at h
    by_cases c2 : (rdI 62 s).2 = []
    · rw [if_pos c2] at h
      have := rdI_count 62 s t h
      rw [c2] at this
      simp [Lib.countByte] at this ⊢
      exact ⟨this.symm, by omega⟩
    · rw [if_neg c2] at h; simp at h

theorem FnExactTermRooms : laws_FnExactTermRooms.Pure := by
  intro a0 _
  refine ⟨70, ?_⟩
  unfold laws_FnExactTermRooms.f
  by_cases h : (a0.size : Int) > 1048576
  · rw [if_pos h]
  · rw [if_neg h]
    have e := of_agree a0
    by_cases hk : (ofS a0).2 = true
    · rw [if_pos hk] at e
      obtain ⟨h1, h2⟩ := ofI_count e
      have hr := q_rooms_f a0 (by rw [Lib.size_eq]; exact h2)
      simp only [spec_TermRooms.f, spec_TermIn.f, spec_l11Of.f, impl_TermRooms.f, Option.bind_some, e, hk, hr, Option.map_some, Option.getD_some, Option.isSome_some, if_true, h1]
      rfl
    · have hk2 : (ofS a0).2 = false := by simpa using hk
      rw [if_neg hk] at e
      simp only [spec_TermRooms.f, spec_TermIn.f, spec_l11Of.f, impl_TermRooms.f, Option.bind_some, e, hk2]
      rfl
end Go.Proofs.Ytmocablibmkebaa.Pure

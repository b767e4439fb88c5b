/- The walk of spec.l11Of. -/
import Derived.Test.YtmocablibmkebaaSpRead
import Derived.Lib.Strings
namespace Go.Proofs.Ytmocablibmkebaa.S
open Go.RowKit Go.Proofs.YtmocablibmkebaaW.PrintWords Go.Proofs.YtmocablibmkebaaW.PrintMore Go.Proofs.Ytmocablibmkebaa.Qs
set_option linter.unusedVariables false
set_option linter.unusedSimpArgs false

theorem rooms_l0 (s : ByteArray) (hs : s.size ≤ 60) : ∀ (d k i : Nat) (a : Int), i ≤ s.size → s.size - i = d → d < k → 0 ≤ a → a ≤ 60 - d →
    Qi.spec_l11Rooms.l0 k s a (i : Nat) = some (a + (Lib.countByte (s.data.toList.drop i) 111 : Nat)) := by
  intro d
  induction d with
  | zero =>
    intro k i a hi hd hk h0 h1
    obtain ⟨k, rfl⟩ : ∃ j, k = j + 1 := ⟨k - 1, by omega⟩
    have e : i = s.size := by omega
    subst e
    simp only [Qi.spec_l11Rooms.l0]
    rw [if_neg (by omega), List.drop_of_length_le (by rw [← Lib.size_eq]; exact Nat.le_refl _)]
    simp [Lib.countByte]
  | succ d ih =>
    intro k i a hi hd hk h0 h1
    obtain ⟨k, rfl⟩ : ∃ j, k = j + 1 := ⟨k - 1, by omega⟩
    have hlt : i < s.size := by omega
    have hl2 : i < s.data.toList.length := by rw [← Lib.size_eq]; exact hlt
    simp only [Qi.spec_l11Rooms.l0]
    rw [if_pos (by omega), if_pos (by omega)]
    have w1 : wrap64 ((i : Int) + 1) = ((i + 1 : Nat) : Int) := by unfold wrap64; omega
    have w2 : wrap64 (a + 1) = a + 1 := by unfold wrap64; omega
    rw [w1, w2, List.drop_eq_getElem_cons hl2]
    have hb : bt s (i : Nat) = ((s.data.toList[i]'hl2).toNat : Int) := by
      rw [← bt_at s (i : Nat) hlt]
      rfl
    have hc : Lib.countByte (s.data.toList[i]'hl2 :: s.data.toList.drop (i + 1)) 111 = Lib.countByte (s.data.toList.drop (i + 1)) 111 + (if bt s (i : Nat) = 111 then 1 else 0) := by
      rw [hb]
      unfold Lib.countByte
      rw [List.count_cons]
      congr 1
      by_cases h : s.data.toList[i]'hl2 = 111
      · rw [h]; rfl
      · rw [if_neg (by simpa using h), if_neg (fun h2 => h (UInt8.toNat_inj.1 (by have : (111 : UInt8).toNat = 111 := rfl; omega)))]
    rw [hc]
    by_cases h : bt s (i : Nat) = 111
    · rw [if_pos h, if_pos h, ih k (i + 1) (a + 1) (by omega) (by omega) (by omega) (by omega) (by omega)]
      congr 1
      push_cast
      omega
    · rw [if_neg h, if_neg h, ih k (i + 1) a (by omega) (by omega) (by omega) (by omega) (by omega)]
      rfl
theorem rooms_f (s : ByteArray) (hs : s.size ≤ 60) : Qi.spec_l11Rooms.f 70 s = some ((Lib.countByte s.data.toList 111 : Nat) : Int) := by
  have h := rooms_l0 s hs s.size 70 0 0 (Nat.zero_le _) (by omega) (by omega) (by omega) (by omega)
  unfold Qi.spec_l11Rooms.f
  rw [show ((0 : Nat) : Int) = 0 from rfl] at h
  rw [h]
  simp

theorem snd_new (w : World) (A B : Obj) : ((w.alloc A).alloc B).heap[w.heap.size + 1]? = some B := by
  have e : w.heap.size + 1 = (w.alloc A).heap.size := by simp
  rw [e]
  exact blk_new _ B

def spec_l11Of.f (k : Nat) (s : ByteArray) : Option (Int × List S32 × Bool) := some ((enc (ofS s).1).f0, (enc (ofS s).1).f1, (ofS s).2)
theorem spec_l11Of.mono : ∀ a0 k, LeO (spec_l11Of.f k a0) (spec_l11Of.f (k + 1) a0) := fun _ _ => LeO.refl _
set_option maxRecDepth 100000 in
set_option maxHeartbeats 4000000 in
theorem spec_l11Of.calls (k : Nat) (s : ByteArray) (r0 : Int) (l1 : List S32) (r2 : Bool) (w : World) (h : spec_l11Of.f k s = some (r0, l1, r2)) :
    Calls Try.prog 17 #[.string s] w fun e w' => ∃ v, e = .returned (.tuple #[.agg #[.int .u8 r0, v], .bool r2]) ∧ Kd.R k32 32 w' w.heap.size (fun _ => True) v l1 ∧ Below w.heap.size w w' := by
  simp only [spec_l11Of.f, Option.some.injEq, Prod.mk.injEq] at h
  obtain ⟨rfl, rfl, rfl⟩ := h
  generalize hres : ofS s = res
  unfold ofS at hres
  by_cases h60 : 60 < s.size
  · rw [if_pos (.inl h60)] at hres
    subst hres
    have q1 : decide ((60 : Int) < (s.size : Int)) = true := decide_eq_true (by omega)
    clear h60
    go_enter Try.func17, Try.ntmps17
    go_wp2_with fail
    refine bodyPost_ret (results_ct rfl _ _ w.heap.size 32 #[.int .u8 111, .slice (some ⟨w.heap.size + 1, 0, none⟩) 0 0] (0, 0) _ rfl (blk_alloc (blk_new w _) _) Try.underlying32 rfl (by kernel_rfl)) rfl ?_
    exact ⟨_, rfl, sp_o _ _ _ (Nat.le_succ _) (snd_new w _ _), below_alloc (below_alloc (Below.refl _ _) _) _⟩
  have q1 : decide ((60 : Int) < (s.size : Int)) = false := decide_eq_false (by omega)
  have RC := Lib.hid (fun W => Qi.spec_l11Rooms.calls 70 s _ W (rooms_f s (by omega)))
  have HSZ := Lib.hid (show s.size ≤ 60 by omega)
  generalize hc : Lib.countByte s.data.toList 111 = c at *
  have HE := Lib.hid hres
  clear hres h60 hc
  go_enter Try.func17, Try.ntmps17
  go_wp2_with fail
  refine (RC.out _).mono ?_
  rintro e W1 ⟨rfl, nd, rfl⟩
  have hA := Lib.hid (blk_drewN (blk_new w (Obj.cells #[.int .u8 0, .slice none 0 0] 32)) nd)
  have hB := Lib.hid (pw_below_drewN (below_alloc (Below.refl w.heap.size w) (Obj.cells #[.int .u8 0, .slice none 0 0] 32)) nd)
  have hL : w.heap.size < ((w.alloc (Obj.cells #[.int .u8 0, .slice none 0 0] 32)).drewN nd).heap.size := blk_lt hA.out
  generalize (w.alloc (Obj.cells #[.int .u8 0, .slice none 0 0] 32)).drewN nd = W1 at *
  have HL := Lib.hid hL
  clear hL RC
  by_cases h7 : 7 < c
  · have he := HE.out
    rw [if_pos (.inr h7)] at he
    subst he
    have q2 : decide ((7 : Int) < (c : Int)) = true := decide_eq_true (by omega)
    have hc0 : ∀ X : Obj, (W1.alloc X).cell? ⟨w.heap.size, 0, none⟩ = some (.int .u8 0) := fun X => (blk_cell (blk_alloc hA.out X) 0).trans rfl
    have hc1 : ∀ X : Obj, (W1.alloc X).cell? ⟨w.heap.size, 1, none⟩ = some (.slice none 0 0) := fun X => (blk_cell (blk_alloc hA.out X) 1).trans rfl
    have hf0 : ∀ X : Obj, (W1.alloc X).frozen? ⟨w.heap.size, 0, none⟩ = false := fun X => blk_frozen (blk_alloc hA.out X) 0
    have hf1 : ∀ X : Obj, (W1.alloc X).frozen? ⟨w.heap.size, 1, none⟩ = false := fun X => blk_frozen (blk_alloc hA.out X) 1
    clear h7 HE
    go_wp2_with fail
    refine bodyPost_ret (results_ct rfl _ _ w.heap.size 32 #[.int .u8 111, .slice (some ⟨W1.heap.size, 0, none⟩) 0 0] (0, 0) _ rfl (fin2 (blk_alloc hA.out _)) Try.underlying32 rfl (by kernel_rfl)) rfl ?_
    exact ⟨_, rfl, sp_far (sp_o _ W1.heap.size _ (Nat.le_refl _) (blk_new _ _)) HL.out (Nat.le_of_lt HL.out), below_far (below_alloc hB.out _) (Nat.le_refl _)⟩
  · have he := HE.out
    rw [if_neg (fun h => h.elim (by have := HSZ.out; omega) h7)] at he
    have q2 : decide ((7 : Int) < (c : Int)) = false := decide_eq_false (by omega)
    have CALL := Lib.hid (l11Read_calls s HSZ.out 62 0 W1 (by have := HSZ.out; omega) (Nat.zero_le _))
    have HP := Lib.hid (rdS_le s 62 0)
    clear h7 HE
    generalize rdS s 62 0 = r at *
    obtain ⟨t, p⟩ := r
    obtain ⟨bb, hbb⟩ : ∃ bb, bb = decide (0 < p ∧ p = s.size) := ⟨_, rfl⟩
    simp only at he
    rw [← hbb] at he
    have HBB := Lib.hid hbb
    clear hbb
    go_wp2_with fail
    refine CALL.out.mono ?_
    rintro e W2 ⟨v, rfl, hS, hb2⟩
    obtain ⟨A, cp, rfl⟩ := Kd.R_slice hS
    have HS := Lib.hid hS
    have HA := Lib.hid (fun X => blk_alloc (blk_below hA.out hb2) X)
    have HB := Lib.hid (hB.out.trans (hb2.mono hB.out.size))
    have hc0 : ∀ X : Obj, (W2.alloc X).cell? ⟨w.heap.size, 0, none⟩ = some (.int .u8 0) := fun X => (blk_cell (HA.out X) 0).trans rfl
    have hc1 : ∀ X : Obj, (W2.alloc X).cell? ⟨w.heap.size, 1, none⟩ = some (.slice none 0 0) := fun X => (blk_cell (HA.out X) 1).trans rfl
    have hf0 : ∀ X : Obj, (W2.alloc X).frozen? ⟨w.heap.size, 0, none⟩ = false := fun X => blk_frozen (HA.out X) 0
    have hf1 : ∀ X : Obj, (W2.alloc X).frozen? ⟨w.heap.size, 1, none⟩ = false := fun X => blk_frozen (HA.out X) 1
    clear hS hb2 CALL hA hB
    subst he
    by_cases hp : 0 < p
    · have q3 : decide ((0 : Int) < (p : Int)) = true := decide_eq_true (by omega)
      have q4 : ((p : Int) == (s.size : Int)) = bb := by
        rw [HBB.out]
        by_cases h : p = s.size
        · rw [h, beq_self_eq_true, decide_eq_true ⟨by omega, rfl⟩]
        · rw [beq_eq_false_iff_ne.mpr (by omega), decide_eq_false (fun x => h x.2)]
      have q5 : (0 < p) = True := eq_true hp
      have q6 : (p == s.size) = bb := by
        rw [HBB.out]
        by_cases h : p = s.size
        · rw [h, beq_self_eq_true, decide_eq_true ⟨by omega, rfl⟩]
        · rw [beq_eq_false_iff_ne.mpr (by omega), decide_eq_false (fun x => h x.2)]
      clear hp
      go_wp2_with fail
      refine bodyPost_ret (results_ct rfl _ _ w.heap.size 32 #[_, .slice A _ cp] (0, 0) _ rfl (fin2 (HA.out _)) Try.underlying32 rfl (by kernel_rfl)) rfl ?_
      exact ⟨_, rfl, sp_far (Kd.R_alloc HS.out _) HL.out (Nat.le_of_lt HL.out), below_far (below_alloc HB.out _) (Nat.le_refl _)⟩
    · have hp0 : p = 0 := by omega
      subst hp0
      obtain rfl : bb = false := HBB.out.trans (decide_eq_false (fun x => absurd x.1 (by omega)))
      clear hp
      go_wp2_with fail
      refine bodyPost_ret (results_ct rfl _ _ w.heap.size 32 #[_, .slice A _ cp] (0, 0) _ rfl (fin2 (HA.out _)) Try.underlying32 rfl (by kernel_rfl)) rfl ?_
      exact ⟨_, rfl, sp_far (Kd.R_alloc HS.out _) HL.out (Nat.le_of_lt HL.out), below_far (below_alloc HB.out _) (Nat.le_refl _)⟩
end Go.Proofs.Ytmocablibmkebaa.S

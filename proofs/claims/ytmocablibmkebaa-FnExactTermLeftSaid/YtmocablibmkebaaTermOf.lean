/- The walks of impl.termOf, TermIn, (*term).rooms and TermRooms. -/
import Derived.Test.YtmocablibmkebaaRead
import Derived.Lib.Bytealg
import Derived.Laws.Externs
import Derived.Laws.Strings3
namespace Go.Proofs.Ytmocablibmkebaa.S
open Go.RowKit Go.Proofs.YtmocablibmkebaaW.PrintWords Go.Proofs.YtmocablibmkebaaW.PrintMore Go.Proofs.Ytmocablibmkebaa.Qi
set_option linter.unusedVariables false
set_option linter.unusedSimpArgs false

set_option maxRecDepth 100000 in
set_option maxHeartbeats 4000000 in
theorem count_calls (s : ByteArray) (w : World) :
    Calls Try.prog 29 #[.string s, .string ⟨#[111]⟩] w fun e w' => e = .returned (.int .i64 (Lib.countByte s.data.toList 111)) ∧ w' = w := by
  go_enter Try.func29, Try.ntmps29
  go_wp2
  rw [run_callFunc_extern Try.func37 (by kernel_rfl) (by kernel_rfl) (by kernel_rfl) (e := Extern.BytealgCount.count) (by kernel_rfl), Lib.run_countString]
  simp only [Result.andThen]
  rw [Oper.upon_value]
  go_wp2
  go_ret
  exact ⟨rfl, rfl⟩

/-- The term that a text is, as the program tells it. -/
def ofI (s : List UInt8) : Option Tm :=
  if 60 < s.length ∨ 7 < Lib.countByte s 111 then none else if (rdI 62 s).2 = [] then (rdI 62 s).1 else none

theorem Below.of_keep {w0 W : World} : Below w0.heap.size w0 W → Below w0.heap.size w0 W := id

set_option maxRecDepth 100000 in
set_option maxHeartbeats 4000000 in
theorem termOf_calls (s : ByteArray) (w : World) :
    Calls Try.prog 18 #[.string s] w fun e w' => ∃ v, e = .returned v ∧ PtrAt w' v (ofI s.data.toList) ∧ Below w.heap.size w w' := by
  have hsz : s.size = s.data.toList.length := Lib.size_eq s
  generalize hres : ofI s.data.toList = res
  unfold ofI at hres
  by_cases h60 : 60 < s.data.toList.length
  · rw [if_pos (.inl h60)] at hres
    subst hres
    have h : decide ((60 : Int) < (s.size : Int)) = true := decide_eq_true (by omega)
    clear h60 hsz
    go_enter Try.func18, Try.ntmps18
    go_wp2
    go_ret
    exact ⟨_, rfl, rfl, Below.refl _ _⟩
  have h : decide ((60 : Int) < (s.size : Int)) = false := decide_eq_false (by omega)
  have C := Lib.hid (count_calls s w)
  by_cases h7 : 7 < Lib.countByte s.data.toList 111
  · rw [if_pos (.inr h7)] at hres
    subst hres
    have h2 : decide ((7 : Int) < (Lib.countByte s.data.toList 111 : Int)) = true := decide_eq_true (by omega)
    clear h60 hsz h7
    go_enter Try.func18, Try.ntmps18
    go_wp2_with fail
    refine C.out.mono ?_
    rintro e w1 ⟨rfl, rfl⟩
    go_wp2
    go_ret
    exact ⟨_, rfl, rfl, Below.refl _ _⟩
  rw [if_neg (fun h => h.elim h60 h7)] at hres
  have h2 : decide ((7 : Int) < (Lib.countByte s.data.toList 111 : Int)) = false := decide_eq_false (by omega)
  have HL := Lib.hid (show s.data.toList.length < 62 by omega)
  clear h60 hsz h7
  have HE := Lib.hid hres
  clear hres
  go_enter Try.func18, Try.ntmps18
  go_wp2_with fail
  refine C.out.mono ?_
  rintro e w1 ⟨rfl, rfl⟩
  clear C
  go_wp2_with fail
  have hR : Rd w1 (w1.alloc (Obj.cells #[.string s] 48)) w1.heap.size s.data.toList := ⟨s, rfl, IsS48.new w1 w1 s (Below.refl _ _), below_alloc (Below.refl _ _) _⟩
  refine (term_calls w1 w1.heap.size 62 _ _ HL.out hR).mono ?_
  rintro e w2 ⟨v, rfl, hP, ⟨s2, hs2, hI2, hB2⟩, hK⟩
  have hc := cellS48_0 hI2.1
  have HP := Lib.hid hP
  have HB := Lib.hid hB2
  clear hP hB2 hK hR hI2
  have he := HE.out
  clear HE
  rw [← hs2] at he
  by_cases hn : s2.data.toList = []
  · rw [if_pos hn] at he
    subst he
    have e1 : s2.toList.isEmpty = true := by rw [Lib.toList_data, hn]; rfl
    clear hn hs2
    go_wp2
    go_ret
    exact ⟨_, rfl, HP.out, HB.out⟩
  · rw [if_neg hn] at he
    subst he
    have e1 : s2.toList.isEmpty = false := by
      rw [Lib.toList_data]
      cases h : s2.data.toList with
      | nil => exact absurd h hn
      | cons => rfl
    clear hn hs2
    go_wp2
    go_ret
    exact ⟨_, rfl, rfl, HB.out⟩

set_option maxRecDepth 100000 in
set_option maxHeartbeats 4000000 in
theorem TermIn_calls (s : ByteArray) (w : World) :
    Calls Try.prog 9 #[.string s] w fun e w' => e = .returned (.bool (ofI s.data.toList).isSome) ∧ Below w.heap.size w w' := by
  have T := Lib.hid (termOf_calls s w)
  go_enter Try.func9, Try.ntmps9
  go_wp2_with fail
  refine T.out.mono ?_
  rintro e w2 ⟨v, rfl, hP, hB⟩
  have HB := Lib.hid hB
  clear hB T
  obtain ⟨x, hx⟩ : ∃ x, x = ofI s.data.toList := ⟨_, rfl⟩
  rw [← hx] at hP
  have HX := Lib.hid hx
  clear hx
  cases x with
  | none =>
    obtain rfl : v = .pointer none := hP
    go_wp2
    go_ret
    rw [← HX.out]
    exact ⟨rfl, HB.out⟩
  | some x =>
    obtain ⟨k, rfl⟩ := TmAt.ptr hP
    clear hP
    go_wp2
    go_ret
    rw [← HX.out]
    exact ⟨rfl, HB.out⟩

def Tm.rooms : Tm → Nat
  | .o => 1
  | .one _ a => a.rooms
  | .two _ a b => a.rooms + b.rooms

set_option maxRecDepth 100000 in
set_option maxHeartbeats 4000000 in
theorem rooms_calls : ∀ (t : Tm) (v : Value) (W : World), TmAt W v t → t.rooms ≤ 1000000 →
    Calls Try.prog 20 #[v] W fun e w' => e = .returned (.int .i64 (t.rooms : Nat)) ∧ w' = W := by
  intro t
  induction t with
  | o =>
    rintro v W ⟨l, rfl, hl⟩ _
    have hc0 : W.cell? ⟨l, 0, none⟩ = some (.int .u8 111) := (blk_cell hl 0).trans rfl
    have hc1 : W.cell? ⟨l, 1, none⟩ = some (.slice none 0 0) := (blk_cell hl 1).trans rfl
    clear hl
    go_enter Try.func20, Try.ntmps20
    go_wp2
    go_ret
    exact ⟨rfl, rfl⟩
  | one f a ih =>
    rintro v W ⟨l, k, u, rfl, hl, hk, ha⟩ hr
    simp only [Tm.rooms] at hr
    have hc0 : W.cell? ⟨l, 0, none⟩ = some (.int .u8 (us f)) := (blk_cell hl 0).trans rfl
    have hc1 : W.cell? ⟨l, 1, none⟩ = some (.slice (some ⟨k, 0, none⟩) 1 1) := (blk_cell hl 1).trans rfl
    have hc2 : W.cell? ⟨k, 0, none⟩ = some u := (blk_cell hk 0).trans rfl
    have C := Lib.hid (ih u W ha hr)
    have hw : IntKind.i64.wrap (a.rooms : Int) = (a.rooms : Int) := IntWalk.i64_in _ (by omega)
    have hw2 : IntKind.i64.wrap (0 + (a.rooms : Int)) = (a.rooms : Int) := by rw [Int.zero_add]; exact hw
    show Calls Try.prog 20 #[.pointer (some ⟨l, 0, none⟩)] W fun e w' => e = .returned (.int .i64 (a.rooms : Nat)) ∧ w' = W
    generalize a.rooms = A at *
    clear hl hk ha ih hr
    go_enter Try.func20, Try.ntmps20
    go_wp2_with fail
    go_loopw [3, 17] (fun sv kv wr => W = wr ∧ ((sv = .int .i64 0 ∧ kv = .int .i64 0) ∨ (sv = .int .i64 (A : Nat) ∧ kv = .int .i64 1))) (fun _ kv _ => 5 - (Go.RowKit.intOf kv).toNat)
    case atStart => exact ⟨rfl, .inl ⟨rfl, rfl⟩⟩
    case round =>
      obtain ⟨rfl, ⟨rfl, rfl⟩ | ⟨rfl, rfl⟩⟩ := hrel
      · go_wp2_with fail
        refine C.out.mono ?_
        rintro e w' ⟨rfl, rfl⟩
        go_wp2
        go_roundw
        case rel => exact ⟨trivial, .inr ⟨by go_num, rfl⟩⟩
        case measure => decide
      · go_wp2
        go_ret
        exact ⟨rfl, rfl⟩
  | two s a b iha ihb =>
    rintro v W ⟨l, k, u, x, rfl, hl, hk, ha, hb⟩ hr
    simp only [Tm.rooms] at hr
    have hc0 : W.cell? ⟨l, 0, none⟩ = some (.int .u8 (bs s)) := (blk_cell hl 0).trans rfl
    have hc1 : W.cell? ⟨l, 1, none⟩ = some (.slice (some ⟨k, 0, none⟩) 2 2) := (blk_cell hl 1).trans rfl
    have hc2 : W.cell? ⟨k, 0, none⟩ = some u := (blk_cell hk 0).trans rfl
    have hc3 : W.cell? ⟨k, 1, none⟩ = some x := (blk_cell hk 1).trans rfl
    have C := Lib.hid (iha u W ha (by omega))
    have C2 := Lib.hid (ihb x W hb (by omega))
    have hw : IntKind.i64.wrap (a.rooms : Int) = (a.rooms : Int) := IntWalk.i64_in _ (by omega)
    have hw2 : IntKind.i64.wrap (0 + (a.rooms : Int)) = (a.rooms : Int) := by rw [Int.zero_add]; exact hw
    have hw3 : IntKind.i64.wrap ((a.rooms : Int) + (b.rooms : Int)) = (a.rooms : Int) + (b.rooms : Int) := IntWalk.i64_in _ (by omega)
    show Calls Try.prog 20 #[.pointer (some ⟨l, 0, none⟩)] W fun e w' => e = .returned (.int .i64 ((a.rooms + b.rooms : Nat) : Int)) ∧ w' = W
    generalize a.rooms = A at *
    generalize b.rooms = B at *
    clear hl hk ha hb iha ihb hr
    go_enter Try.func20, Try.ntmps20
    go_wp2_with fail
    go_loopw [3, 17] (fun sv kv wr => W = wr ∧ ((sv = .int .i64 0 ∧ kv = .int .i64 0) ∨ (sv = .int .i64 (A : Nat) ∧ kv = .int .i64 1) ∨ (sv = .int .i64 ((A : Int) + (B : Int)) ∧ kv = .int .i64 2))) (fun _ kv _ => 5 - (Go.RowKit.intOf kv).toNat)
    case atStart => exact ⟨rfl, .inl ⟨rfl, rfl⟩⟩
    case round =>
      obtain ⟨rfl, ⟨rfl, rfl⟩ | ⟨rfl, rfl⟩ | ⟨rfl, rfl⟩⟩ := hrel
      · go_wp2_with fail
        refine C.out.mono ?_
        rintro e w' ⟨rfl, rfl⟩
        go_wp2
        go_roundw
        case rel => exact ⟨trivial, .inr (.inl ⟨by go_num, rfl⟩)⟩
        case measure => decide
      · go_wp2_with fail
        refine C2.out.mono ?_
        rintro e w' ⟨rfl, rfl⟩
        go_wp2
        go_roundw
        case rel => exact ⟨trivial, .inr (.inr ⟨by go_num, rfl⟩)⟩
        case measure => decide
      · go_wp2
        go_ret
        exact ⟨by push_cast; rfl, rfl⟩

/-- A term's signs o are among the bytes. -/
theorem rdI_rooms : ∀ (n : Nat) (l : List UInt8) (t : Tm), (rdI n l).1 = some t → t.rooms + (rdI n l).2.length ≤ l.length := by
  intro n
  induction n with
  | zero => intro l t h; simp [rdI] at h
  | succ n ih =>
    intro l t h
    have t1 := tk_lt l
    simp only [rdI] at h ⊢
    by_cases c1 : (tk l).1 = 111
    · rw [if_pos c1] at h ⊢
      obtain rfl := Option.some.inj h
      have := t1 (by rw [c1]; decide)
      simp only [Tm.rooms]; omega
    rw [if_neg c1] at h ⊢
    by_cases c2 : (tk l).1 = 62 ∨ (tk l).1 = 94
    · rw [if_pos c2] at h ⊢
      have := t1 (by rcases c2 with e | e <;> rw [e] <;> decide)
      cases hx : (rdI n (tk l).2).1 with
      | none => rw [hx] at h; simp at h
      | some x =>
        rw [hx] at h
        obtain rfl := Option.some.inj h
        have := ih _ _ hx
        simp only [Tm.rooms]; omega
    rw [if_neg c2] at h ⊢
    by_cases c3 : (tk l).1 = 40
    · rw [if_pos c3] at h ⊢
      have := t1 (by rw [c3]; decide)
      cases hx : (rdI n (tk l).2).1 with
      | none => rw [hx] at h; simp at h
      | some x =>
        cases hy : (rdI n (tk (rdI n (tk l).2).2).2).1 with
        | none => rw [hx, hy] at h; simp at h
        | some y =>
          rw [hx, hy] at h
          simp only at h ⊢
          have i1 := ih _ _ hx
          have i2 := ih _ _ hy
          have t2 := tk_le (rdI n (tk l).2).2
          have t3 := tk_le (rdI n (tk (rdI n (tk l).2).2).2).2
          by_cases c4 : (tk (rdI n (tk l).2).2).1 = 124 ∨ (tk (rdI n (tk l).2).2).1 = 45
          · rw [if_pos c4] at h ⊢
            by_cases c5 : (tk (rdI n (tk (rdI n (tk l).2).2).2).2).1 = 41
            · rw [if_pos c5] at h ⊢
              obtain rfl := Option.some.inj h
              simp only [Tm.rooms]; omega
            · rw [if_neg c5] at h; simp at h
          · rw [if_neg c4] at h; simp at h
    · rw [if_neg c3] at h; simp at h
theorem ofI_rooms {s : List UInt8} {t : Tm} (h : ofI s = some t) : t.rooms ≤ 60 := by
  unfold ofI at h
  by_cases c1 : 60 < s.length ∨ 7 < Lib.countByte s 111
  · rw [if_pos c1] at h; simp at h
  · rw [if_neg c1] at h
    by_cases c2 : (rdI 62 s).2 = []
    · rw [if_pos c2] at h
      have := rdI_rooms 62 s t h
      omega
    · rw [if_neg c2] at h; simp at h

set_option maxRecDepth 100000 in
set_option maxHeartbeats 4000000 in
theorem TermRooms_calls (s : ByteArray) (w : World) :
    Calls Try.prog 11 #[.string s] w fun e w' => e = .returned (.tuple #[.int .i64 (((ofI s.data.toList).map Tm.rooms).getD 0 : Nat), .bool (ofI s.data.toList).isSome]) ∧ Below w.heap.size w w' := by
  have T := Lib.hid (termOf_calls s w)
  go_enter Try.func11, Try.ntmps11
  go_wp2_with fail
  refine T.out.mono ?_
  rintro e w2 ⟨v, rfl, hP, hB⟩
  have HB := Lib.hid hB
  clear hB T
  obtain ⟨x, hx⟩ : ∃ x, x = ofI s.data.toList := ⟨_, rfl⟩
  rw [← hx] at hP
  have HX := Lib.hid hx
  clear hx
  cases x with
  | none =>
    obtain rfl : v = .pointer none := hP
    go_wp2
    go_ret2
    rw [← HX.out]
    exact ⟨rfl, HB.out⟩
  | some x =>
    obtain ⟨k, rfl⟩ := TmAt.ptr hP
    have R := Lib.hid (rooms_calls x _ _ hP (by have := ofI_rooms HX.out.symm; omega))
    clear hP
    go_wp2_with fail
    refine R.out.mono ?_
    rintro e w3 ⟨rfl, rfl⟩
    go_wp2
    go_ret2
    rw [← HX.out]
    exact ⟨rfl, HB.out⟩
end Go.Proofs.Ytmocablibmkebaa.S

import Derived.Test.YtoghadcjjmaneaaThree
import Derived.Test.YtoghadcjjmaneaaQe1
import Derived.Laws.Strings
/- A plan's numbers are few; two lists of texts. -/
namespace Go.Proofs.Ytoghadcjjmaneaa.S
open Go.RowKit Go.Maps Go.Proofs.YtoghadcjjmaneaaW.PrintWords Go.Proofs.YtoghadcjjmaneaaW.PrintMore Go.Proofs.Ytoghadcjjmaneaa.Qe
set_option linter.unusedVariables false
set_option linter.unusedSimpArgs false

theorem run_two (m : List (List Int)) (Wd : Nat) : ∀ i, (run m Wd i).1.length = (run m Wd i).2.length
  | 0 => rfl
  | i + 1 => by
    have := run_two m Wd i
    simp only [run, stp]
    split
    · simpa using this
    · simp [this]
theorem stp_sub (s : List Int × List Rc) (x : Int) (r c : Nat) : s.1.length ≤ (stp s x r c).1.length := by
  simp only [stp]
  split
  · exact Nat.le_refl _
  · simp
theorem run_grows (m : List (List Int)) (Wd i : Nat) : ∀ d, (run m Wd i).1.length ≤ (run m Wd (i + d)).1.length
  | 0 => Nat.le_refl _
  | d + 1 => Nat.le_trans (run_grows m Wd i d) (stp_sub _ _ _ _)
theorem run_has (m : List (List Int)) (Wd i : Nat) : gat m (i / Wd) (i % Wd) ∈ (run m Wd (i + 1)).1 := by
  simp only [run, stp]
  split
  · assumption
  · simp
theorem vals_bound {m : List (List Int)} {r c : Nat} (hr : r < m.length) (hc : c < wid m) : 0 ≤ vals m (wid m) r c ∧ vals m (wid m) r c < (roomsOf m).length := by
  have hp : 0 < wid m := by omega
  have e1 : (r * wid m + c) / wid m = r := by
    rw [Nat.mul_comm, Nat.mul_add_div hp, Nat.div_eq_of_lt hc, Nat.add_zero]
  have e2 : (r * wid m + c) % wid m = c := by
    rw [Nat.mul_comm, Nat.mul_add_mod, Nat.mod_eq_of_lt hc]
  have h1 := run_has m (wid m) (r * wid m + c)
  rw [e1, e2] at h1
  have h2 := pos_lt h1
  have hle : r * wid m + c + 1 ≤ m.length * wid m := by
    have : (r + 1) * wid m ≤ m.length * wid m := Nat.mul_le_mul_right _ hr
    rw [Nat.succ_mul] at this
    omega
  have h3 := run_grows m (wid m) (r * wid m + c + 1) (m.length * wid m - (r * wid m + c + 1))
  rw [Nat.add_sub_cancel' hle] at h3
  have h4 := run_two m (wid m) (m.length * wid m)
  unfold vals roomsOf
  omega
theorem numsOf_len (m : List (List Int)) : (numsOf m).length = m.length := by simp [numsOf]
theorem numsOf_row {m : List (List Int)} {l : List Int} (h : l ∈ numsOf m) : ∃ r, r < m.length ∧ l = (List.range (wid m)).map fun c => vals m (wid m) r c := by
  simp only [numsOf, List.mem_map, List.mem_range] at h
  obtain ⟨r, hr, rfl⟩ := h
  exact ⟨r, hr, rfl⟩
theorem numsOf_low {m : List (List Int)} (hf : fine m = true) : (∀ l ∈ numsOf m, ∀ k ∈ l, 0 ≤ k ∧ k ≤ 25) ∧ (∀ l ∈ numsOf m, l ≠ []) ∧ (numsOf m).length ≤ 1000 ∧ (∀ l ∈ numsOf m, l.length ≤ 1000) := by
  obtain ⟨h1, h2, h3, h4, h5, h6, h7⟩ := of_decide_eq_true hf
  refine ⟨fun l hl k hk => ?_, fun l hl e => ?_, by rw [numsOf_len]; omega, fun l hl => ?_⟩
  · obtain ⟨r, hr, rfl⟩ := numsOf_row hl
    simp only [List.mem_map, List.mem_range] at hk
    obtain ⟨c, hc, rfl⟩ := hk
    have := vals_bound hr hc
    omega
  · obtain ⟨r, hr, rfl⟩ := numsOf_row hl
    have := congrArg List.length e
    simp at this
    omega
  · obtain ⟨r, hr, rfl⟩ := numsOf_row hl
    simp
    omega

/-! ### two lists of texts -/
theorem wr64 (x : Int) (h : -9223372036854775808 ≤ x ∧ x ≤ 9223372036854775807) : wrap64 x = x := by unfold wrap64; omega
theorem bytes_ext {a b : ByteArray} : a.toList = b.toList ↔ a = b := by
  rw [ByteArray.toList_eq, ByteArray.toList_eq]
  refine ⟨fun h => ?_, fun h => by rw [h]⟩
  cases a
  cases b
  simpa [Array.toList_inj] using h
theorem rd_str {l : List ByteArray} {i : Nat} (h : i < l.length) : rdOf ByteArray.empty l (i : Int) = l[i] := by
  simp [rdOf, List.getD_eq_getElem?_getD, h]
theorem drop_two {α : Type} {p q : List α} {i : Nat} (h1 : i < p.length) (h2 : i < q.length) : p.drop i = q.drop i ↔ p[i] = q[i] ∧ p.drop (i + 1) = q.drop (i + 1) := by
  rw [List.drop_eq_getElem_cons h1, List.drop_eq_getElem_cons h2]
  exact List.cons_eq_cons
theorem equal_l0 (p q : List ByteArray) (h : p.length = q.length) (hb : p.length ≤ 4000000) : ∀ (n i k : Nat), i + n = p.length → n < k → slices_Equal_string_string.l0 k p q (p.length : Nat) (i : Nat) = some (decide (p.drop i = q.drop i))
  | 0, i, k + 1, e, _ => by
    unfold slices_Equal_string_string.l0
    rw [if_neg (by omega), List.drop_eq_nil_of_le (by omega), List.drop_eq_nil_of_le (by omega)]
    simp
  | n + 1, i, k + 1, e, hk => by
    have hi : i < p.length := by omega
    unfold slices_Equal_string_string.l0
    rw [if_pos (by omega), if_pos (by omega), if_pos (by omega), if_pos (by omega), rd_str hi, rd_str (h ▸ hi)]
    have hd := drop_two hi (h ▸ hi)
    by_cases c : p[i] = q[i]'(h ▸ hi)
    · rw [if_pos (bytes_ext.2 c), wr64 _ (by omega)]
      have := equal_l0 p q h hb n (i + 1) k (by omega) (by omega)
      rw [Int.natCast_add] at this
      refine this.trans ?_
      congr 1
      exact decide_eq_decide.2 ⟨fun x => hd.2 ⟨c, x⟩, fun x => (hd.1 x).2⟩
    · rw [if_neg (fun x => c (bytes_ext.1 x))]
      congr 1
      exact (decide_eq_false (fun x => c (hd.1 x).1)).symm
theorem equal_ends (p q : List ByteArray) (hb : p.length ≤ 4000000) : ∃ k, slices_Equal_string_string.f k p q = some (decide (p = q)) := by
  refine ⟨p.length + 1, ?_⟩
  unfold slices_Equal_string_string.f
  by_cases h : p.length = q.length
  · rw [if_pos (by omega)]
    exact equal_l0 p q h hb p.length 0 _ (by omega) (by omega)
  · rw [if_neg (by omega)]
    congr 1
    exact (decide_eq_false (fun x => h (by rw [x]))).symm

/-! ### texts in memory -/
theorem strin_of {W : World} {A : Option Addr} {ps : List ByteArray} (h : Kd.C Kd.string W A ps.length ps) : StrIn W A ps := fun i s hs => by
  have hi : i < ps.length := (List.getElem?_eq_some_iff.1 hs).1
  obtain ⟨ad, e, hc⟩ := Kd.at_string h (i : Int) (by omega) (by omega)
  rw [rd_str hi] at hc
  rw [List.getElem?_eq_getElem hi] at hs
  obtain rfl := Option.some.inj hs
  exact ⟨ad, e, hc⟩
theorem R_texts {W : World} {base : Nat} {v : Value} {ps : List ByteArray} (h : W.ownsRow base 9 1 v ps.length (ps.map .string)) : Kd.R Kd.string 9 W base (fun _ => True) v ps := Kd.R_of_own h (fun _ _ => trivial)
theorem FloorAt.below {base : Nat} {w w' : World} {v : Value} {nums : List (List Int)} {rooms : List Rc} (h : FloorAt base w v nums rooms) (hb : Below w.heap.size w w') : FloorAt base w' v nums rooms := by
  obtain ⟨fb, cv, rv, rfl, hfb, hh, hg, ho⟩ := h
  have hk : KeepS (fun _ => False) w w' := KeepS.of_below _ hb
  exact ⟨fb, cv, rv, rfl, hfb, hk.heap hh (fun x => x), hg.keep hk (fun _ _ x => x), own_keepV ho hk (fun _ _ x => x)⟩
end Go.Proofs.Ytoghadcjjmaneaa.S
/- floorOf: a plan that is given by its own letters. -/
namespace Go.Proofs.Ytoghadcjjmaneaa.S
open Go.RowKit Go.Maps Go.Proofs.YtoghadcjjmaneaaW.PrintWords Go.Proofs.YtoghadcjjmaneaaW.PrintMore Go.Proofs.Ytoghadcjjmaneaa.Qe
set_option linter.unusedVariables false
set_option linter.unusedSimpArgs false

/-- The rows anew. -/
def rowTexts (ps : List ByteArray) : List ByteArray := (numsOf (ps.map bnum)).map rowText
/-- Whether texts are a plan. -/
def ffine (ps : List ByteArray) : Bool := rfine ps && decide (rowTexts ps = ps)
def FloorPost (ps : List ByteArray) (W : World) (e : Ending) (w' : World) : Prop :=
  ∃ v, e = .returned (.tuple #[v, .bool (ffine ps)]) ∧ (ffine ps = true → FloorAt W.heap.size w' v (numsOf (ps.map bnum)) (roomsOf (ps.map bnum))) ∧ Below W.heap.size W w'
theorem low_below {B : Nat} {w w' : World} (h : Below w.heap.size w w') (hs : B ≤ w.heap.size) : Below B w w' := ⟨h.os, h.tape, h.output, h.size, fun k hk => h.block k (Nat.lt_of_lt_of_le hk hs)⟩
theorem rfine_fine {ps : List ByteArray} (h : rfine ps = true) : fine (ps.map bnum) = true := by
  unfold rfine at h
  rw [Bool.and_eq_true] at h
  exact h.2

set_option maxRecDepth 100000 in
set_option maxHeartbeats 4000000 in
theorem floorOf_calls (ps : List ByteArray) (A : Option Addr) (c : Nat) (W : World) (hr : Kd.C Kd.string W A ps.length ps) (hc0 : ps.length ≤ c) (hn : ps.length ≤ 4000000) (hs : ∀ s ∈ ps, s.size ≤ 4000000) :
    Calls Try.prog 28 #[.slice A ps.length c] W (FloorPost ps W) := by
  have RC := Lib.hid (read_calls ps A c W (strin_of hr) hn hs)
  have HR := Lib.hid hr
  have HN := Lib.hid hn
  have HC0 := Lib.hid hc0
  clear hr hn hs hc0
  cases hf : rfine ps with
  | false =>
    have HF := Lib.hid hf
    clear hf
    go_enter Try.func28, Try.ntmps28
    go_wp2_with fail
    refine RC.out.mono ?_
    rintro e w1 ⟨v, rfl, -, hb⟩
    rw [HF.out]
    have HB := Lib.hid hb
    clear hb
    go_wp2
    go_ret2
    have hx : ffine ps = false := by unfold ffine; rw [HF.out]; rfl
    exact ⟨v, by rw [hx]; rfl, fun h => by rw [hx] at h; (cases h), HB.out⟩
  | true =>
    have HF := Lib.hid hf
    clear hf
    go_enter Try.func28, Try.ntmps28
    go_wp2_with fail
    refine RC.out.mono ?_
    rintro e w1 ⟨v, rfl, hfl, hb⟩
    have hfa := hfl HF.out
    rw [HF.out]
    obtain ⟨g1, g2, g3, g4⟩ := numsOf_low (rfine_fine HF.out)
    have TC := Lib.hid (text_calls W.heap.size v _ _ w1 hfa g1 g2 g3 g4)
    have HFA := Lib.hid hfa
    have HB := Lib.hid hb
    clear hb hfa hfl g1 g2 g3 g4
    go_wp2_with fail
    refine TC.out.mono ?_
    rintro e w2 ⟨o, rfl, ho, hb2⟩
    have e1 : (rowTexts ps).length = (numsOf (ps.map bnum)).length := by unfold rowTexts; simp
    have e2 : (numsOf (ps.map bnum)).map (fun l => Value.string (rowText l)) = (rowTexts ps).map .string := by unfold rowTexts; simp
    rw [e2, ← e1] at ho
    rw [← e1]
    have hR := R_texts ho
    obtain ⟨A', c', e', hc', hC⟩ := Kd.R_reads hR
    injection e' with e3 e4 e5
    subst e3
    subst e5
    have hb02 : Below W.heap.size W w2 := HB.out.trans (low_below hb2 HB.out.size)
    obtain ⟨k, hk⟩ := equal_ends (rowTexts ps) ps (by
      rw [e1, numsOf_len]
      have h1 := HN.out
      simpa using h1)
    have QC := Lib.hid (slices_Equal_string_string.calls k _ _ (rowTexts ps) A c ps _ w2 hC hc' (Kd.C_below HR.out hb02) HC0.out hk)
    have HFB := Lib.hid (HFA.out.below hb2)
    have HB2 := Lib.hid hb02
    clear hb02 hb2 hk hC hR ho e1 e2 e4 hc'
    go_wp2_with fail
    refine QC.out.mono ?_
    rintro e w3 ⟨rfl, hd⟩
    have HB3 : Hid (Below W.heap.size W w3) := Lib.hid (HB2.out.trans (low_below hd.below HB2.out.size))
    have HFD := Lib.hid (HFB.out.below hd.below)
    clear hd
    have hx : ffine ps = decide (rowTexts ps = ps) := by unfold ffine; rw [HF.out]; rfl
    have HX := Lib.hid hx
    clear hx
    generalize decide (rowTexts ps = ps) = b at *
    cases b
    · go_wp2
      go_ret2
      exact ⟨v, by rw [HX.out]; rfl, fun h => by rw [HX.out] at h; (cases h), HB3.out⟩
    · go_wp2
      go_ret2
      exact ⟨v, by rw [HX.out]; rfl, fun h => HFD.out, HB3.out⟩
end Go.Proofs.Ytoghadcjjmaneaa.S
/- The functions of plans that read: PlanIn, PlanRooms, PlanRoom, PlanName. -/
namespace Go.Proofs.Ytoghadcjjmaneaa.S
open Go.RowKit Go.Maps Go.Proofs.YtoghadcjjmaneaaW.PrintWords Go.Proofs.YtoghadcjjmaneaaW.PrintMore
set_option linter.unusedVariables false
set_option linter.unusedSimpArgs false

/-- Texts of a bounded size. -/
def small (ps : List ByteArray) : Bool := decide (ps.length ≤ 4000000 ∧ ∀ s ∈ ps, s.size ≤ 4000000)
def roomsT (ps : List ByteArray) : List Rc := roomsOf (ps.map bnum)

/-- What a floor's rooms tell. -/
theorem FloorAt.room {base : Nat} {w : World} {v : Value} {nums : List (List Int)} {rooms : List Rc} (h : FloorAt base w v nums rooms) :
    ∃ fb A9 c9, v = .pointer (some ⟨fb, 0, none⟩) ∧ base ≤ fb ∧ w.cell? ⟨fb, 1, none⟩ = some (.slice A9 rooms.length c9) ∧
      ∀ J y, rooms[J]? = some y → ∃ gr, A9 = some ⟨gr, 0, none⟩ ∧ w.cell? ⟨gr, J * 4, none⟩ = some (.int .i64 y.r) ∧ w.cell? ⟨gr, J * 4 + 1, none⟩ = some (.int .i64 y.c) ∧ w.cell? ⟨gr, J * 4 + 2, none⟩ = some (.int .i64 y.h) ∧ w.cell? ⟨gr, J * 4 + 3, none⟩ = some (.int .i64 y.w) := by
  obtain ⟨fb, cv, rv, rfl, hfb, hh, _, ho⟩ := h
  obtain ⟨A9, cap9, rfl⟩ : ∃ A c, rv = .slice A rooms.length c := by
    obtain ⟨_, ⟨e, e2⟩ | ⟨g', cap', cur, e, _⟩⟩ := ho
    · exact ⟨none, 0, by rw [e2]; exact e⟩
    · exact ⟨_, cap', e⟩
  refine ⟨fb, A9, cap9, rfl, hfb, (blk_cell hh 1).trans rfl, fun J y hy => ?_⟩
  have hlt : J < rooms.length := (List.getElem?_eq_some_iff.1 hy).1
  obtain ⟨gr, rfl⟩ : ∃ gr, A9 = some ⟨gr, 0, none⟩ := by
    obtain ⟨_, ⟨e, e2⟩ | ⟨g', cap', cur, e, _⟩⟩ := ho
    · omega
    · injection e with e _ _
      exact ⟨g', e⟩
  have hc4 : ∀ j, j < 4 → w.cell? ⟨gr, J * 4 + j, none⟩ = y.cells[j]? := fun j hj => (ho.cellAt (J * 4 + j) (by omega)).trans (flat_get rooms J y j hy hj)
  exact ⟨gr, rfl, hc4 0 (by omega), hc4 1 (by omega), hc4 2 (by omega), hc4 3 (by omega)⟩

theorem both_nat (r c : Nat) (h : r ≤ 999 ∧ c ≤ 999) : (⟨r, c, 1, 1⟩ : Rc).ok := by
  simp only [Rc.ok]
  omega
theorem run_ok (m : List (List Int)) (Wd : Nat) (h0 : 0 < Wd) (hW : Wd ≤ 6) : ∀ i, i ≤ 36 → ∀ x ∈ (run m Wd i).2, x.ok
  | 0, _ => fun x hx => absurd hx (by simp [run])
  | i + 1, hi => by
    have ih := run_ok m Wd h0 hW i (by omega)
    have hb : (⟨(i / Wd : Nat), (i % Wd : Nat), 1, 1⟩ : Rc).ok := both_nat _ _ ⟨by have := Nat.div_le_self i Wd; omega, by have := Nat.mod_lt i h0; omega⟩
    intro x hx
    simp only [run, stp] at hx
    split at hx
    · rename_i hm
      rcases List.mem_or_eq_of_mem_set hx with hx | rfl
      · exact ih x hx
      · have hp := pos_lt hm
        rw [run_two] at hp
        refine Rc.both_ok (ih _ ?_) hb
        rw [List.getD_eq_getElem?_getD, List.getElem?_eq_getElem hp]
        exact List.getElem_mem hp
    · rcases List.mem_append.1 hx with hx | hx
      · exact ih x hx
      · rw [List.mem_singleton.1 hx]
        exact Rc.both_ok hb hb
theorem rooms_ok {m : List (List Int)} (hf : fine m = true) : (∀ x ∈ roomsOf m, x.ok) ∧ (roomsOf m).length ≤ 9 := by
  obtain ⟨h1, h2, h3, h4, h5, h6, h7⟩ := of_decide_eq_true hf
  exact ⟨run_ok m _ h3 h4 _ (Nat.mul_le_mul h2 h4), h6⟩
theorem ffine_fine {ps : List ByteArray} (h : ffine ps = true) : fine (ps.map bnum) = true := by
  unfold ffine at h
  rw [Bool.and_eq_true] at h
  exact rfine_fine h.1
theorem small_out {ps : List ByteArray} (h : small ps = true) : ps.length ≤ 4000000 ∧ ∀ s ∈ ps, s.size ≤ 4000000 := of_decide_eq_true h

/-! ### PlanIn -/
def impl_PlanIn.f (ps : List ByteArray) : Option Bool := if small ps = true then some (ffine ps) else none
set_option maxRecDepth 100000 in
set_option maxHeartbeats 4000000 in
theorem impl_PlanIn.calls (A0 : Option Addr) (c0 : Nat) (l0 : List ByteArray) (r : Bool) (w : World) (hr0 : Kd.C Kd.string w A0 l0.length l0) (hc0 : l0.length ≤ c0) (h : impl_PlanIn.f l0 = some r) :
    Calls Try.prog 18 #[.slice A0 l0.length c0] w fun e w' => e = .returned (.bool r) ∧ Below w.heap.size w w' := by
  unfold impl_PlanIn.f at h
  split at h
  case isFalse => cases h
  rename_i hs
  obtain rfl := Option.some.inj h
  have FC := Lib.hid (floorOf_calls l0 A0 c0 w hr0 hc0 (small_out hs).1 (small_out hs).2)
  clear h hs hr0 hc0
  go_enter Try.func18, Try.ntmps18
  go_wp2_with fail
  refine FC.out.mono ?_
  rintro e w1 ⟨v, rfl, -, hb⟩
  have HB := Lib.hid hb
  clear hb
  go_wp2
  go_ret
  exact ⟨rfl, HB.out⟩

/-! ### PlanRooms -/
def impl_PlanRooms.f (ps : List ByteArray) : Option (Int × Bool) := if small ps = true then (if ffine ps = true then some (((roomsT ps).length : Nat), true) else some (0, false)) else none
set_option maxRecDepth 100000 in
set_option maxHeartbeats 4000000 in
theorem impl_PlanRooms.calls (A0 : Option Addr) (c0 : Nat) (l0 : List ByteArray) (r1 : Int) (r2 : Bool) (w : World) (hr0 : Kd.C Kd.string w A0 l0.length l0) (hc0 : l0.length ≤ c0) (h : impl_PlanRooms.f l0 = some (r1, r2)) :
    Calls Try.prog 20 #[.slice A0 l0.length c0] w fun e w' => e = .returned (.tuple #[.int .i64 r1, .bool r2]) ∧ Below w.heap.size w w' := by
  unfold impl_PlanRooms.f at h
  split at h
  case isFalse => cases h
  rename_i hs
  have FC := Lib.hid (floorOf_calls l0 A0 c0 w hr0 hc0 (small_out hs).1 (small_out hs).2)
  clear hs hr0 hc0
  split at h
  · rename_i hf
    have h2 := Option.some.inj h
    injection h2 with h3 h4
    subst h3
    subst h4
    have HF := Lib.hid hf
    clear h hf
    go_enter Try.func20, Try.ntmps20
    go_wp2_with fail
    refine FC.out.mono ?_
    rintro e w1 ⟨v, rfl, hfl, hb⟩
    obtain ⟨fb, A9, c9, rfl, _, hc, _⟩ := (hfl HF.out).room
    rw [HF.out]
    have HB := Lib.hid hb
    clear hb hfl
    go_wp2
    go_ret2
    exact ⟨rfl, HB.out⟩
  · rename_i hf
    have h2 := Option.some.inj h
    injection h2 with h3 h4
    subst h3
    subst h4
    have HF := Lib.hid (Bool.eq_false_iff.2 hf)
    clear h hf
    go_enter Try.func20, Try.ntmps20
    go_wp2_with fail
    refine FC.out.mono ?_
    rintro e w1 ⟨v, rfl, -, hb⟩
    rw [HF.out]
    have HB := Lib.hid hb
    clear hb
    go_wp2
    go_ret2
    exact ⟨rfl, HB.out⟩

/-! ### PlanRoom -/
set_option maxRecDepth 100000 in
set_option maxHeartbeats 4000000 in
theorem has_calls (fb : Nat) (A : Option Addr) (n c : Nat) (a : Int) (W : World) (h : W.cell? ⟨fb, 1, none⟩ = some (.slice A n c)) : Calls Try.prog 36 #[.pointer (some ⟨fb, 0, none⟩), .int .i64 a] W fun e w' => e = .returned (.bool (decide (0 ≤ a ∧ a < (n : Int)))) ∧ Below W.heap.size W w' := by
  by_cases h0 : 0 ≤ a
  · by_cases h1 : a < (n : Int)
    · have hd : decide (0 ≤ a ∧ a < (n : Int)) = true := decide_eq_true ⟨h0, h1⟩
      have d0 : decide (0 ≤ a) = true := decide_eq_true h0
      have d1 : decide (a < (n : Int)) = true := decide_eq_true h1
      rw [hd]
      clear hd h0 h1
      go_enter Try.func36, Try.ntmps36
      go_wp2
      go_ret
      exact ⟨rfl, Below.refl _ _⟩
    · have hd : decide (0 ≤ a ∧ a < (n : Int)) = false := decide_eq_false (fun x => h1 x.2)
      have d0 : decide (0 ≤ a) = true := decide_eq_true h0
      have d1 : decide (a < (n : Int)) = false := decide_eq_false h1
      rw [hd]
      clear hd h0 h1
      go_enter Try.func36, Try.ntmps36
      go_wp2
      go_ret
      exact ⟨rfl, Below.refl _ _⟩
  · have hd : decide (0 ≤ a ∧ a < (n : Int)) = false := decide_eq_false (fun x => h0 x.1)
    have d0 : decide (0 ≤ a) = false := decide_eq_false h0
    rw [hd]
    clear hd h0
    go_enter Try.func36, Try.ntmps36
    go_wp2
    go_ret
    exact ⟨rfl, Below.refl _ _⟩

def impl_PlanRoom.f (ps : List ByteArray) (a : Int) : Option (Int × Int × Int × Int × Bool) :=
  if small ps = true then (if ffine ps = true ∧ 0 ≤ a ∧ a < ((roomsT ps).length : Int) then some (((roomsT ps).getD a.toNat ⟨0, 0, 0, 0⟩).r, ((roomsT ps).getD a.toNat ⟨0, 0, 0, 0⟩).c, ((roomsT ps).getD a.toNat ⟨0, 0, 0, 0⟩).h, ((roomsT ps).getD a.toNat ⟨0, 0, 0, 0⟩).w, true) else some (0, 0, 0, 0, false)) else none
set_option maxRecDepth 100000 in
set_option maxHeartbeats 4000000 in
theorem impl_PlanRoom.calls (A0 : Option Addr) (c0 : Nat) (l0 : List ByteArray) (a1 : Int) (r1 r2 r3 r4 : Int) (r5 : Bool) (w : World) (hr0 : Kd.C Kd.string w A0 l0.length l0) (hc0 : l0.length ≤ c0) (h : impl_PlanRoom.f l0 a1 = some (r1, r2, r3, r4, r5)) :
    Calls Try.prog 22 #[.slice A0 l0.length c0, .int .i64 a1] w fun e w' => e = .returned (.tuple #[.int .i64 r1, .int .i64 r2, .int .i64 r3, .int .i64 r4, .bool r5]) ∧ Below w.heap.size w w' := by
  unfold impl_PlanRoom.f at h
  split at h
  case isFalse => cases h
  rename_i hs
  have FC := Lib.hid (floorOf_calls l0 A0 c0 w hr0 hc0 (small_out hs).1 (small_out hs).2)
  clear hs hr0 hc0
  split at h
  · rename_i hf
    obtain ⟨hf, h0, h1⟩ := hf
    obtain ⟨J, rfl⟩ : ∃ J : Nat, a1 = (J : Int) := ⟨a1.toNat, by omega⟩
    have h2 := Option.some.inj h
    simp only [Prod.mk.injEq] at h2
    obtain ⟨rfl, rfl, rfl, rfl, rfl⟩ := h2
    have HF := Lib.hid hf
    have HJ := Lib.hid h1
    have q1 := h1
    have q2 := h0
    have hj : J < (roomsT l0).length := by omega
    obtain ⟨y, hy⟩ : ∃ y, (roomsT l0)[J]? = some y := ⟨_, List.getElem?_eq_getElem hj⟩
    have e5 : (roomsT l0).getD J ⟨0, 0, 0, 0⟩ = y := by rw [List.getD_eq_getElem?_getD, hy]; rfl
    have e4 : ((J : Int)).toNat = J := by omega
    rw [e4, e5]
    have HY := Lib.hid hy
    clear h hf h0 h1 hj hy e4 e5
    go_enter Try.func22, Try.ntmps22
    go_wp2_with fail
    refine FC.out.mono ?_
    rintro e w1 ⟨v, rfl, hfl, hb⟩
    obtain ⟨fb, A9, c9, rfl, _, hc, hrm⟩ := (hfl HF.out).room
    rw [HF.out]
    obtain ⟨gr, rfl, e0, e1, e2, e3⟩ := hrm J _ HY.out
    have HC := Lib.hid (has_calls fb _ _ c9 (J : Int) w1 hc)
    have HB := Lib.hid hb
    have hcc : Hid (∀ w2, Below w1.heap.size w1 w2 → (w2.cell? ⟨fb, 1, none⟩ = some (.slice (some ⟨gr, 0, none⟩) (roomsOf (l0.map bnum)).length c9) ∧ w2.cell? ⟨gr, J * 4, none⟩ = some (.int .i64 y.r) ∧ w2.cell? ⟨gr, J * 4 + 1, none⟩ = some (.int .i64 y.c) ∧ w2.cell? ⟨gr, J * 4 + 2, none⟩ = some (.int .i64 y.h) ∧ w2.cell? ⟨gr, J * 4 + 3, none⟩ = some (.int .i64 y.w))) := Lib.hid (fun w2 hb2 =>
      ⟨(hb2.cell (World.block_lt_of_cell? w1 _ hc)).trans hc, (hb2.cell (World.block_lt_of_cell? w1 _ e0)).trans e0, (hb2.cell (World.block_lt_of_cell? w1 _ e1)).trans e1, (hb2.cell (World.block_lt_of_cell? w1 _ e2)).trans e2, (hb2.cell (World.block_lt_of_cell? w1 _ e3)).trans e3⟩)
    clear hb hfl hc hrm e0 e1 e2 e3
    have hd : decide (0 ≤ (J : Int) ∧ (J : Int) < ((roomsOf (l0.map bnum)).length : Int)) = true := decide_eq_true ⟨q2, q1⟩
    rw [hd] at HC
    have q3 : (J : Int) < ((roomsOf (l0.map bnum)).length : Int) := q1
    clear hd q1 HJ
    generalize (roomsOf (l0.map bnum)).length = n at *
    go_wp2_with fail
    refine HC.out.mono ?_
    rintro e w2 ⟨rfl, hb2⟩
    obtain ⟨k0, k1, k2, k3, k4⟩ := hcc.out w2 hb2
    have HB2 : Hid (Below w.heap.size w w2) := Lib.hid (HB.out.trans (low_below hb2 HB.out.size))
    clear hb2
    go_wp2_with fail
    go_quiet (fail)
    go_wp2
    (try simp only [Exit.inBlock, Exit.then]); refine bodyPost_ret (results_list (rs := [.tmp 4, .tmp 5, .tmp 6, .tmp 7, .tmp 8]) rfl (by simp) (.tmp (.tmp (.tmp (.tmp (.tmp .nil)))))) rfl ?_
    exact ⟨rfl, pw_below_drewN (below_alloc HB2.out _) _⟩
  · rename_i hf
    have h2 := Option.some.inj h
    simp only [Prod.mk.injEq] at h2
    obtain ⟨rfl, rfl, rfl, rfl, rfl⟩ := h2
    have HF := Lib.hid hf
    clear h hf
    go_enter Try.func22, Try.ntmps22
    go_wp2_with fail
    refine FC.out.mono ?_
    rintro e w1 ⟨v, rfl, hfl, hb⟩
    cases hff : ffine l0 with
    | false =>
      have HB := Lib.hid hb
      clear hb hfl HF
      go_wp2
      (try simp only [Exit.inBlock, Exit.then]); refine bodyPost_ret (results_list (rs := [.tmp 4, .tmp 5, .tmp 6, .tmp 7, .tmp 8]) rfl (by simp) (.tmp (.tmp (.tmp (.tmp (.tmp .nil)))))) rfl ?_
      exact ⟨rfl, HB.out⟩
    | true =>
      obtain ⟨fb, A9, c9, rfl, _, hc, hrm⟩ := (hfl hff).room
      have HC := Lib.hid (has_calls fb _ _ c9 a1 w1 hc)
      have hd : decide (0 ≤ a1 ∧ a1 < ((roomsOf (l0.map bnum)).length : Int)) = false := decide_eq_false (fun x => HF.out ⟨hff, x⟩)
      rw [hd] at HC
      have HB := Lib.hid hb
      clear hb hfl HF hd hff hc hrm
      go_wp2_with fail
      refine HC.out.mono ?_
      rintro e w2 ⟨rfl, hb2⟩
      have HB2 : Hid (Below w.heap.size w w2) := Lib.hid (HB.out.trans (low_below hb2 HB.out.size))
      clear hb2
      go_wp2
      (try simp only [Exit.inBlock, Exit.then]); refine bodyPost_ret (results_list (rs := [.tmp 4, .tmp 5, .tmp 6, .tmp 7, .tmp 8]) rfl (by simp) (.tmp (.tmp (.tmp (.tmp (.tmp .nil)))))) rfl ?_
      exact ⟨rfl, HB2.out⟩
end Go.Proofs.Ytoghadcjjmaneaa.S
/- PlanName and PlanAreas. -/
namespace Go.Proofs.Ytoghadcjjmaneaa.S
open Go.RowKit Go.Maps Go.Proofs.YtoghadcjjmaneaaW.PrintWords Go.Proofs.YtoghadcjjmaneaaW.PrintMore
set_option linter.unusedVariables false
set_option linter.unusedSimpArgs false

def impl_PlanName.f (ps : List ByteArray) : Option (List ByteArray × Bool) := if small ps = true then (if rfine ps = true then some (rowTexts ps, true) else some ([], false)) else none
set_option maxRecDepth 100000 in
set_option maxHeartbeats 4000000 in
theorem impl_PlanName.calls (A0 : Option Addr) (c0 : Nat) (l0 : List ByteArray) (r1 : List ByteArray) (r2 : Bool) (w : World) (hr0 : Kd.C Kd.string w A0 l0.length l0) (hc0 : l0.length ≤ c0) (h : impl_PlanName.f l0 = some (r1, r2)) :
    Calls Try.prog 24 #[.slice A0 l0.length c0] w fun e w' => ∃ v0_ : Value, e = .returned (.tuple #[v0_, .bool r2]) ∧ Kd.R Kd.string 9 w' w.heap.size (fun _ => True) v0_ r1 ∧ Below w.heap.size w w' := by
  unfold impl_PlanName.f at h
  split at h
  case isFalse => cases h
  rename_i hs
  have RC := Lib.hid (read_calls l0 A0 c0 w (strin_of hr0) (small_out hs).1 (small_out hs).2)
  clear hs hr0 hc0
  split at h
  · rename_i hf
    have h2 := Option.some.inj h
    injection h2 with h3 h4
    subst h3
    subst h4
    have HF := Lib.hid hf
    clear h hf
    go_enter Try.func24, Try.ntmps24
    go_wp2_with fail
    refine RC.out.mono ?_
    rintro e w1 ⟨v, rfl, hfl, hb⟩
    have hfa := hfl HF.out
    rw [HF.out]
    obtain ⟨g1, g2, g3, g4⟩ := numsOf_low (rfine_fine HF.out)
    have TC := Lib.hid (text_calls w.heap.size v _ _ w1 hfa g1 g2 g3 g4)
    have HB := Lib.hid hb
    clear hb hfa hfl g1 g2 g3 g4
    go_wp2_with fail
    refine TC.out.mono ?_
    rintro e w2 ⟨o, rfl, ho, hb2⟩
    have e1 : (rowTexts l0).length = (numsOf (l0.map bnum)).length := by unfold rowTexts; simp
    have e2 : (numsOf (l0.map bnum)).map (fun l => Value.string (rowText l)) = (rowTexts l0).map .string := by unfold rowTexts; simp
    rw [e2, ← e1] at ho
    have HR := Lib.hid (Kd.R_lower (R_texts ho) HB.out.size)
    have HB2 : Hid (Below w.heap.size w w2) := Lib.hid (HB.out.trans (low_below hb2 HB.out.size))
    have HE := Lib.hid e1
    clear e1 e2 ho hb2
    go_wp2
    go_ret2
    refine ⟨_, rfl, ?_, HB2.out⟩
    have hr := HR.out
    rw [HE.out] at hr
    exact hr
  · rename_i hf
    have h2 := Option.some.inj h
    injection h2 with h3 h4
    subst h3
    subst h4
    have HF := Lib.hid (Bool.eq_false_iff.2 hf)
    clear h hf
    go_enter Try.func24, Try.ntmps24
    go_wp2_with fail
    refine RC.out.mono ?_
    rintro e w1 ⟨v, rfl, -, hb⟩
    rw [HF.out]
    have HB := Lib.hid hb
    clear hb
    go_wp2
    go_ret2
    exact ⟨_, rfl, Kd.R_nil _ _ _ _ _, HB.out⟩

def areas (ps : List ByteArray) : List Int := (roomsT ps).map fun x => x.h * x.w
def impl_PlanAreas.f (ps : List ByteArray) : Option (List Int × Bool) := if small ps = true then (if ffine ps = true then some (areas ps, true) else some ([], false)) else none
set_option maxRecDepth 100000 in
set_option maxHeartbeats 8000000 in
theorem impl_PlanAreas.calls (A0 : Option Addr) (c0 : Nat) (l0 : List ByteArray) (r1 : List Int) (r2 : Bool) (w : World) (hr0 : Kd.C Kd.string w A0 l0.length l0) (hc0 : l0.length ≤ c0) (h : impl_PlanAreas.f l0 = some (r1, r2)) :
    Calls Try.prog 11 #[.slice A0 l0.length c0] w fun e w' => ∃ v0_ : Value, e = .returned (.tuple #[v0_, .bool r2]) ∧ Kd.R (Kd.int .i64) 3 w' w.heap.size (fun _ => True) v0_ r1 ∧ Below w.heap.size w w' := by
  unfold impl_PlanAreas.f at h
  split at h
  case isFalse => cases h
  rename_i hs
  have FC := Lib.hid (floorOf_calls l0 A0 c0 w hr0 hc0 (small_out hs).1 (small_out hs).2)
  clear hs hr0 hc0
  split at h
  · rename_i hf
    have h2 := Option.some.inj h
    injection h2 with h3 h4
    subst h3
    subst h4
    obtain ⟨i3, hi3, hz30, hz31, hz32⟩ := info_parts info3
    have HF := Lib.hid hf
    have HO := Lib.hid (rooms_ok (ffine_fine hf))
    clear h hf
    go_enter Try.func11, Try.ntmps11
    go_wp2_with fail
    refine FC.out.mono ?_
    rintro e w1 ⟨v, rfl, hfl, hb⟩
    obtain ⟨fb, A9, c9, rfl, hfbb, hc, hrm⟩ := (hfl HF.out).room
    rw [HF.out]
    have HB := Lib.hid hb
    have HRM := Lib.hid hrm
    have p0 : (roomsOf (l0.map bnum)).length ≤ 9 := HO.out.2
    have p1 : i3.bytes * (roomsOf (l0.map bnum)).length ≤ 281474976710656 := by rw [hz32]; omega
    have p2 : (roomsOf (l0.map bnum)).length ≤ maxLen := Nat.le_trans p0 (by decide)
    have hrn : (roomsOf (l0.map bnum)).length = (roomsT l0).length := rfl
    have HRN := Lib.hid hrn
    clear hb hfl hrm hrn hfbb
    generalize (roomsOf (l0.map bnum)).length = n at *
    go_wp2_with (first | (refine wpList_make_full _ rfl _ _ 24 rfl w1.heap.size 3 i3 _ 1 Try.underlying24 hi3 hz30 hz31 .i64 .i64 _ _ n rfl rfl rfl rfl p1 p2 (Nat.le_refl _) ?_; intro w2 hown2 hg2; have g0 := (pw_cell_below (Below.grown (Below.refl w1.heap.size w1) hg2 (Nat.le_refl _) (by simp)) hc)))
    have HB2 : Hid (Below w1.heap.size w1 w2) := Lib.hid (Below.grown (Below.refl w1.heap.size w1) hg2 (Nat.le_refl _) (by simp))
    have HO2 : Hid (∃ vs, w2.ownsRow w1.heap.size 3 1 (.slice (some ⟨w1.heap.size, 0, none⟩) n n) n vs) := Lib.hid ⟨_, hown2⟩
    clear hown2 hg2
    go_loopw [27] (fun kv wr => ∃ (J : Nat) (wl : World) (vs : List Value), wl = wr ∧ J ≤ n ∧ kv = .int .i64 (J : Nat) ∧ Hid (wl.ownsRow w1.heap.size 3 1 (.slice (some ⟨w1.heap.size, 0, none⟩) n n) n vs) ∧ Hid (Below w1.heap.size w1 wl) ∧ Hid (∀ (i : Nat) (y : Rc), i < J → (roomsT l0)[i]? = some y → vs[i]? = some (.int .i64 (y.h * y.w)))) (fun kv _ => n + 1 - (Go.RowKit.intOf kv).toNat)
    case atStart => obtain ⟨vs, hvs⟩ := HO2.out; exact ⟨0, w2, vs, rfl, Nat.zero_le _, rfl, hvs, HB2, fun i l h => absurd h (by omega)⟩
    case round =>
      obtain ⟨J, wl, vs, rfl, hJ, rfl, HOW, HBL, HV⟩ := hrel
      clear HO2 HB2
      by_cases hlt : J < n
      · obtain ⟨y, hy⟩ : ∃ y, (roomsT l0)[J]? = some y := ⟨_, List.getElem?_eq_getElem (by have := HRN.out; omega)⟩
        obtain ⟨gr, rfl, e0, e1, e2, e3⟩ := HRM.out J y hy
        have hyo : y.ok := HO.out.1 y (List.mem_of_getElem? hy)
        have x0 := (HBL.out.cell (World.block_lt_of_cell? w1 _ e0)).trans e0
        have x1 := (HBL.out.cell (World.block_lt_of_cell? w1 _ e1)).trans e1
        have x2 := (HBL.out.cell (World.block_lt_of_cell? w1 _ e2)).trans e2
        have x3 := (HBL.out.cell (World.block_lt_of_cell? w1 _ e3)).trans e3
        have AC : Hid (∀ W', Calls Try.prog 29 #[.agg #[.int .i64 y.r, .int .i64 y.c, .int .i64 y.h, .int .i64 y.w]] W' fun e w' => e = .returned (.int .i64 (y.h * y.w)) ∧ Below W'.heap.size W' w') := Lib.hid (fun W' => area_calls y hyo W')
        have q1 : (J : Int) < (n : Int) := by omega
        have q2 : (0 : Int) ≤ (J : Int) := by omega
        have HLT := Lib.hid hlt
        have HY := Lib.hid hy
        have hbm : Below wl.heap.size wl (wl.alloc (Obj.cells #[.int .i64 y.r, .int .i64 y.c, .int .i64 y.h, .int .i64 y.w] 49)) := below_alloc (Below.refl _ _) _
        have HBM := Lib.hid hbm
        clear hy hyo e0 e1 e2 e3 hlt hbm
        go_wp2_with fail
        refine (AC.out _).mono ?_
        rintro e w9 ⟨rfl, hb9⟩
        have hbl2 : Below wl.heap.size wl w9 := HBM.out.trans (low_below hb9 HBM.out.size)
        have ho9 := own_keepV HOW.out (KeepS.of_below (fun _ => False) hbl2) (fun _ _ e => e)
        have z2 := ho9.frozenAt J
        have hvl : vs.length = n := by have h := ho9.1; rw [Nat.mul_one] at h; exact h
        obtain ⟨uu, c9'⟩ : ∃ u, w9.cell? ⟨w1.heap.size, J, none⟩ = some u := ⟨_, (ho9.cellAt J (by have := HLT.out; omega)).trans (List.getElem?_eq_getElem (by have := HLT.out; omega))⟩
        have HO9 := Lib.hid ho9
        have HBL9 := Lib.hid hbl2
        have HVL := Lib.hid hvl
        clear ho9 hbl2 hb9 hvl HBM
        go_wp2_with fail
        go_roundw
        case rel =>
          have hvl : vs.length = n := HVL.out
          have hbw : Below w1.heap.size w1 w9 := HBL.out.trans (low_below HBL9.out HBL.out.size)
          refine ⟨J + 1, _, vs.set J (.int .i64 (y.h * y.w)), rfl, HLT.out, by push_cast; rfl, (HO9.out.stored J _).1, hbw.setCell (p := ⟨w1.heap.size, J, none⟩) (Nat.le_refl _) _, fun i l' hi hl' => ?_⟩
          by_cases e : i = J
          · subst e
            rw [HY.out] at hl'
            obtain rfl := Option.some.inj hl'
            rw [List.getElem?_set_self (by have := HLT.out; omega)]
          · rw [List.getElem?_set_ne (fun x => e x.symm)]
            exact HV.out i l' (by omega) hl'
        case measure => exact meas _ _ HLT.out
      · obtain rfl : J = n := by omega
        have hvs : vs = (areas l0).map (Value.int .i64) := by
          unfold areas
          rw [List.map_map]
          apply List.ext_getElem?
          intro i
          have hvl : vs.length = (roomsT l0).length := by have h := HOW.out.1; rw [Nat.mul_one] at h; have := HRN.out; omega
          by_cases hi : i < (roomsT l0).length
          · rw [HV.out i _ (by have := HRN.out; omega) (List.getElem?_eq_getElem hi), List.getElem?_map, List.getElem?_eq_getElem hi]
            rfl
          · rw [List.getElem?_eq_none (by omega), List.getElem?_eq_none (by simp; omega)]
        have hoo := HOW.out
        rw [hvs] at hoo
        have hal : J = (areas l0).length := by unfold areas; rw [List.length_map]; exact HRN.out
        have HOO := Lib.hid hoo
        have HAL := Lib.hid hal
        clear hvs hoo hal
        go_wp2
        go_ret2
        have hoo := HOO.out
        refine ⟨_, rfl, Kd.R_of_own (own_less (by rw [← HAL.out]; exact hoo) HB.out.size) (fun _ _ => trivial), HB.out.trans (low_below HBL.out HB.out.size)⟩
  · rename_i hf
    have h2 := Option.some.inj h
    injection h2 with h3 h4
    subst h3
    subst h4
    have HF := Lib.hid (Bool.eq_false_iff.2 hf)
    clear h hf
    go_enter Try.func11, Try.ntmps11
    go_wp2_with fail
    refine FC.out.mono ?_
    rintro e w1 ⟨v, rfl, -, hb⟩
    rw [HF.out]
    have HB := Lib.hid hb
    clear hb
    go_wp2
    go_ret2
    exact ⟨_, rfl, Kd.R_nil _ _ _ _ _, HB.out⟩
end Go.Proofs.Ytoghadcjjmaneaa.S

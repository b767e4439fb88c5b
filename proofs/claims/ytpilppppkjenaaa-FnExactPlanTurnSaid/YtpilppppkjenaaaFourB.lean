import Derived.Test.YtpilppppkjenaaaThree
import Derived.Test.YtpilppppkjenaaaQe1
import Derived.Laws.Strings
/- A plan's numbers are few; two lists of texts. -/
namespace Go.Proofs.Ytpilppppkjenaaa.S
open Go.RowKit Go.Maps Go.Proofs.YtpilppppkjenaaaW.PrintWords Go.Proofs.YtpilppppkjenaaaW.PrintMore Go.Proofs.Ytpilppppkjenaaa.Qe
set_option linter.unusedVariables false
set_option linter.unusedSimpArgs false

theorem run_two (m : List (List Int)) (Wd : Nat) : ∀ i, (run m Wd i).1.length = (run m Wd i).2.length
  | 0 => rfl
  | i + 1 => by
    have := run_two m Wd i
    simp only [run, stp]
    split
    · simpa using this
    · simp [this]
theorem stp_sub (s : List Int × List Rc) (x : Int) (r c : Nat) : s.1.length ≤ (stp s x r c).1.length := by
  simp only [stp]
  split
  · exact Nat.le_refl _
  · simp
theorem run_grows (m : List (List Int)) (Wd i : Nat) : ∀ d, (run m Wd i).1.length ≤ (run m Wd (i + d)).1.length
  | 0 => Nat.le_refl _
  | d + 1 => Nat.le_trans (run_grows m Wd i d) (stp_sub _ _ _ _)
theorem run_has (m : List (List Int)) (Wd i : Nat) : gat m (i / Wd) (i % Wd) ∈ (run m Wd (i + 1)).1 := by
  simp only [run, stp]
  split
  · assumption
  · simp
theorem vals_bound {m : List (List Int)} {r c : Nat} (hr : r < m.length) (hc : c < wid m) : 0 ≤ vals m (wid m) r c ∧ vals m (wid m) r c < (roomsOf m).length := by
  have hp : 0 < wid m := by omega
  have e1 : (r * wid m + c) / wid m = r := by
    rw [Nat.mul_comm, Nat.mul_add_div hp, Nat.div_eq_of_lt hc, Nat.add_zero]
  have e2 : (r * wid m + c) % wid m = c := by
    rw [Nat.mul_comm, Nat.mul_add_mod, Nat.mod_eq_of_lt hc]
  have h1 := run_has m (wid m) (r * wid m + c)
  rw [e1, e2] at h1
  have h2 := pos_lt h1
  have hle : r * wid m + c + 1 ≤ m.length * wid m := by
    have : (r + 1) * wid m ≤ m.length * wid m := Nat.mul_le_mul_right _ hr
    rw [Nat.succ_mul] at this
    omega
  have h3 := run_grows m (wid m) (r * wid m + c + 1) (m.length * wid m - (r * wid m + c + 1))
  rw [Nat.add_sub_cancel' hle] at h3
  have h4 := run_two m (wid m) (m.length * wid m)
  unfold vals roomsOf
  omega
theorem numsOf_len (m : List (List Int)) : (numsOf m).length = m.length := by simp [numsOf]
theorem numsOf_row {m : List (List Int)} {l : List Int} (h : l ∈ numsOf m) : ∃ r, r < m.length ∧ l = (List.range (wid m)).map fun c => vals m (wid m) r c := by
  simp only [numsOf, List.mem_map, List.mem_range] at h
  obtain ⟨r, hr, rfl⟩ := h
  exact ⟨r, hr, rfl⟩
theorem numsOf_low {m : List (List Int)} (hf : fine m = true) : (∀ l ∈ numsOf m, ∀ k ∈ l, 0 ≤ k ∧ k ≤ 25) ∧ (∀ l ∈ numsOf m, l ≠ []) ∧ (numsOf m).length ≤ 1000 ∧ (∀ l ∈ numsOf m, l.length ≤ 1000) := by
  obtain ⟨h1, h2, h3, h4, h5, h6, h7⟩ := of_decide_eq_true hf
  refine ⟨fun l hl k hk => ?_, fun l hl e => ?_, by rw [numsOf_len]; omega, fun l hl => ?_⟩
  · obtain ⟨r, hr, rfl⟩ := numsOf_row hl
    simp only [List.mem_map, List.mem_range] at hk
    obtain ⟨c, hc, rfl⟩ := hk
    have := vals_bound hr hc
    omega
  · obtain ⟨r, hr, rfl⟩ := numsOf_row hl
    have := congrArg List.length e
    simp at this
    omega
  · obtain ⟨r, hr, rfl⟩ := numsOf_row hl
    simp
    omega

/-! ### two lists of texts -/
theorem wr64 (x : Int) (h : -9223372036854775808 ≤ x ∧ x ≤ 9223372036854775807) : wrap64 x = x := by unfold wrap64; omega
theorem bytes_ext {a b : ByteArray} : a.toList = b.toList ↔ a = b := by
  rw [ByteArray.toList_eq, ByteArray.toList_eq]
  refine ⟨fun h => ?_, fun h => by rw [h]⟩
  cases a
  cases b
  simpa [Array.toList_inj] using h
theorem rd_str {l : List ByteArray} {i : Nat} (h : i < l.length) : rdOf ByteArray.empty l (i : Int) = l[i] := by
  simp [rdOf, List.getD_eq_getElem?_getD, h]
theorem drop_two {α : Type} {p q : List α} {i : Nat} (h1 : i < p.length) (h2 : i < q.length) : p.drop i = q.drop i ↔ p[i] = q[i] ∧ p.drop (i + 1) = q.drop (i + 1) := by
  rw [List.drop_eq_getElem_cons h1, List.drop_eq_getElem_cons h2]
  exact List.cons_eq_cons
theorem equal_l0 (p q : List ByteArray) (h : p.length = q.length) (hb : p.length ≤ 4000000) : ∀ (n i k : Nat), i + n = p.length → n < k → slices_Equal_string_string.l0 k p q (p.length : Nat) (i : Nat) = some (decide (p.drop i = q.drop i))
  | 0, i, k + 1, e, _ => by
    unfold slices_Equal_string_string.l0
    rw [if_neg (by omega), List.drop_eq_nil_of_le (by omega), List.drop_eq_nil_of_le (by omega)]
    simp
  | n + 1, i, k + 1, e, hk => by
    have hi : i < p.length := by omega
    unfold slices_Equal_string_string.l0
    rw [if_pos (by omega), if_pos (by omega), if_pos (by omega), if_pos (by omega), rd_str hi, rd_str (h ▸ hi)]
    have hd := drop_two hi (h ▸ hi)
    by_cases c : p[i] = q[i]'(h ▸ hi)
    · rw [if_pos (bytes_ext.2 c), wr64 _ (by omega)]
      have := equal_l0 p q h hb n (i + 1) k (by omega) (by omega)
      rw [Int.natCast_add] at this
      refine this.trans ?_
      congr 1
      exact decide_eq_decide.2 ⟨fun x => hd.2 ⟨c, x⟩, fun x => (hd.1 x).2⟩
    · rw [if_neg (fun x => c (bytes_ext.1 x))]
      congr 1
      exact (decide_eq_false (fun x => c (hd.1 x).1)).symm
theorem equal_ends (p q : List ByteArray) (hb : p.length ≤ 4000000) : ∃ k, slices_Equal_string_string.f k p q = some (decide (p = q)) := by
  refine ⟨p.length + 1, ?_⟩
  unfold slices_Equal_string_string.f
  by_cases h : p.length = q.length
  · rw [if_pos (by omega)]
    exact equal_l0 p q h hb p.length 0 _ (by omega) (by omega)
  · rw [if_neg (by omega)]
    congr 1
    exact (decide_eq_false (fun x => h (by rw [x]))).symm

/-! ### texts in memory -/
theorem strin_of {W : World} {A : Option Addr} {ps : List ByteArray} (h : Kd.C Kd.string W A ps.length ps) : StrIn W A ps := fun i s hs => by
  have hi : i < ps.length := (List.getElem?_eq_some_iff.1 hs).1
  obtain ⟨ad, e, hc⟩ := Kd.at_string h (i : Int) (by omega) (by omega)
  rw [rd_str hi] at hc
  rw [List.getElem?_eq_getElem hi] at hs
  obtain rfl := Option.some.inj hs
  exact ⟨ad, e, hc⟩
theorem R_texts {W : World} {base : Nat} {v : Value} {ps : List ByteArray} (h : W.ownsRow base 9 1 v ps.length (ps.map .string)) : Kd.R Kd.string 9 W base (fun _ => True) v ps := Kd.R_of_own h (fun _ _ => trivial)
theorem FloorAt.below {base : Nat} {w w' : World} {v : Value} {nums : List (List Int)} {rooms : List Rc} (h : FloorAt base w v nums rooms) (hb : Below w.heap.size w w') : FloorAt base w' v nums rooms := by
  obtain ⟨fb, cv, rv, rfl, hfb, hh, hg, ho⟩ := h
  have hk : KeepS (fun _ => False) w w' := KeepS.of_below _ hb
  exact ⟨fb, cv, rv, rfl, hfb, hk.heap hh (fun x => x), hg.keep hk (fun _ _ x => x), own_keepV ho hk (fun _ _ x => x)⟩
end Go.Proofs.Ytpilppppkjenaaa.S
/- floorOf: a plan that is given by its own letters. -/
namespace Go.Proofs.Ytpilppppkjenaaa.S
open Go.RowKit Go.Maps Go.Proofs.YtpilppppkjenaaaW.PrintWords Go.Proofs.YtpilppppkjenaaaW.PrintMore Go.Proofs.Ytpilppppkjenaaa.Qe
set_option linter.unusedVariables false
set_option linter.unusedSimpArgs false

/-- The rows anew. -/
def rowTexts (ps : List ByteArray) : List ByteArray := (numsOf (ps.map bnum)).map rowText
/-- Whether texts are a plan. -/
def ffine (ps : List ByteArray) : Bool := rfine ps && decide (rowTexts ps = ps)
def FloorPost (ps : List ByteArray) (W : World) (e : Ending) (w' : World) : Prop :=
  ∃ v, e = .returned (.tuple #[v, .bool (ffine ps)]) ∧ (ffine ps = true → FloorAt W.heap.size w' v (numsOf (ps.map bnum)) (roomsOf (ps.map bnum))) ∧ Below W.heap.size W w'
theorem low_below {B : Nat} {w w' : World} (h : Below w.heap.size w w') (hs : B ≤ w.heap.size) : Below B w w' := ⟨h.os, h.tape, h.output, h.size, fun k hk => h.block k (Nat.lt_of_lt_of_le hk hs)⟩
theorem rfine_fine {ps : List ByteArray} (h : rfine ps = true) : fine (ps.map bnum) = true := by
  unfold rfine at h
  rw [Bool.and_eq_true] at h
  exact h.2

set_option maxRecDepth 100000 in
set_option maxHeartbeats 4000000 in
theorem floorOf_calls (ps : List ByteArray) (A : Option Addr) (c : Nat) (W : World) (hr : Kd.C Kd.string W A ps.length ps) (hc0 : ps.length ≤ c) (hn : ps.length ≤ 4000000) (hs : ∀ s ∈ ps, s.size ≤ 4000000) :
    Calls Try.prog 33 #[.slice A ps.length c] W (FloorPost ps W) := by
  have RC := Lib.hid (read_calls ps A c W (strin_of hr) hn hs)
  have HR := Lib.hid hr
  have HN := Lib.hid hn
  have HC0 := Lib.hid hc0
  clear hr hn hs hc0
  cases hf : rfine ps with
  | false =>
    have HF := Lib.hid hf
    clear hf
    go_enter Try.func33, Try.ntmps33
    go_wp2_with fail
    refine RC.out.mono ?_
    rintro e w1 ⟨v, rfl, -, hb⟩
    rw [HF.out]
    have HB := Lib.hid hb
    clear hb
    go_wp2
    go_ret2
    have hx : ffine ps = false := by unfold ffine; rw [HF.out]; rfl
    exact ⟨v, by rw [hx]; rfl, fun h => by rw [hx] at h; (cases h), HB.out⟩
  | true =>
    have HF := Lib.hid hf
    clear hf
    go_enter Try.func33, Try.ntmps33
    go_wp2_with fail
    refine RC.out.mono ?_
    rintro e w1 ⟨v, rfl, hfl, hb⟩
    have hfa := hfl HF.out
    rw [HF.out]
    obtain ⟨g1, g2, g3, g4⟩ := numsOf_low (rfine_fine HF.out)
    have TC := Lib.hid (text_calls W.heap.size v _ _ w1 hfa g1 g2 g3 g4)
    have HFA := Lib.hid hfa
    have HB := Lib.hid hb
    clear hb hfa hfl g1 g2 g3 g4
    go_wp2_with fail
    refine TC.out.mono ?_
    rintro e w2 ⟨o, rfl, ho, hb2⟩
    have e1 : (rowTexts ps).length = (numsOf (ps.map bnum)).length := by unfold rowTexts; simp
    have e2 : (numsOf (ps.map bnum)).map (fun l => Value.string (rowText l)) = (rowTexts ps).map .string := by unfold rowTexts; simp
    rw [e2, ← e1] at ho
    rw [← e1]
    have hR := R_texts ho
    obtain ⟨A', c', e', hc', hC⟩ := Kd.R_reads hR
    injection e' with e3 e4 e5
    subst e3
    subst e5
    have hb02 : Below W.heap.size W w2 := HB.out.trans (low_below hb2 HB.out.size)
    obtain ⟨k, hk⟩ := equal_ends (rowTexts ps) ps (by
      rw [e1, numsOf_len]
      have h1 := HN.out
      simpa using h1)
    have QC := Lib.hid (slices_Equal_string_string.calls k _ _ (rowTexts ps) A c ps _ w2 hC hc' (Kd.C_below HR.out hb02) HC0.out hk)
    have HFB := Lib.hid (HFA.out.below hb2)
    have HB2 := Lib.hid hb02
    clear hb02 hb2 hk hC hR ho e1 e2 e4 hc'
    go_wp2_with fail
    refine QC.out.mono ?_
    rintro e w3 ⟨rfl, hd⟩
    have HB3 : Hid (Below W.heap.size W w3) := Lib.hid (HB2.out.trans (low_below hd.below HB2.out.size))
    have HFD := Lib.hid (HFB.out.below hd.below)
    clear hd
    have hx : ffine ps = decide (rowTexts ps = ps) := by unfold ffine; rw [HF.out]; rfl
    have HX := Lib.hid hx
    clear hx
    generalize decide (rowTexts ps = ps) = b at *
    cases b
    · go_wp2
      go_ret2
      exact ⟨v, by rw [HX.out]; rfl, fun h => by rw [HX.out] at h; (cases h), HB3.out⟩
    · go_wp2
      go_ret2
      exact ⟨v, by rw [HX.out]; rfl, fun h => HFD.out, HB3.out⟩
end Go.Proofs.Ytpilppppkjenaaa.S
/- The functions of plans that read: PlanIn, PlanRooms, PlanRoom, PlanName. -/
namespace Go.Proofs.Ytpilppppkjenaaa.S
open Go.RowKit Go.Maps Go.Proofs.YtpilppppkjenaaaW.PrintWords Go.Proofs.YtpilppppkjenaaaW.PrintMore
set_option linter.unusedVariables false
set_option linter.unusedSimpArgs false

/-- Texts of a bounded size. -/
def small (ps : List ByteArray) : Bool := decide (ps.length ≤ 4000000 ∧ ∀ s ∈ ps, s.size ≤ 4000000)
def roomsT (ps : List ByteArray) : List Rc := roomsOf (ps.map bnum)

/-- What a floor's rooms tell. -/
theorem FloorAt.room {base : Nat} {w : World} {v : Value} {nums : List (List Int)} {rooms : List Rc} (h : FloorAt base w v nums rooms) :
    ∃ fb A9 c9, v = .pointer (some ⟨fb, 0, none⟩) ∧ base ≤ fb ∧ w.cell? ⟨fb, 1, none⟩ = some (.slice A9 rooms.length c9) ∧
      ∀ J y, rooms[J]? = some y → ∃ gr, A9 = some ⟨gr, 0, none⟩ ∧ w.cell? ⟨gr, J * 4, none⟩ = some (.int .i64 y.r) ∧ w.cell? ⟨gr, J * 4 + 1, none⟩ = some (.int .i64 y.c) ∧ w.cell? ⟨gr, J * 4 + 2, none⟩ = some (.int .i64 y.h) ∧ w.cell? ⟨gr, J * 4 + 3, none⟩ = some (.int .i64 y.w) := by
  obtain ⟨fb, cv, rv, rfl, hfb, hh, _, ho⟩ := h
  obtain ⟨A9, cap9, rfl⟩ : ∃ A c, rv = .slice A rooms.length c := by
    obtain ⟨_, ⟨e, e2⟩ | ⟨g', cap', cur, e, _⟩⟩ := ho
    · exact ⟨none, 0, by rw [e2]; exact e⟩
    · exact ⟨_, cap', e⟩
  refine ⟨fb, A9, cap9, rfl, hfb, (blk_cell hh 1).trans rfl, fun J y hy => ?_⟩
  have hlt : J < rooms.length := (List.getElem?_eq_some_iff.1 hy).1
  obtain ⟨gr, rfl⟩ : ∃ gr, A9 = some ⟨gr, 0, none⟩ := by
    obtain ⟨_, ⟨e, e2⟩ | ⟨g', cap', cur, e, _⟩⟩ := ho
    · omega
    · injection e with e _ _
      exact ⟨g', e⟩
  have hc4 : ∀ j, j < 4 → w.cell? ⟨gr, J * 4 + j, none⟩ = y.cells[j]? := fun j hj => (ho.cellAt (J * 4 + j) (by omega)).trans (flat_get rooms J y j hy hj)
  exact ⟨gr, rfl, hc4 0 (by omega), hc4 1 (by omega), hc4 2 (by omega), hc4 3 (by omega)⟩

theorem both_nat (r c : Nat) (h : r ≤ 999 ∧ c ≤ 999) : (⟨r, c, 1, 1⟩ : Rc).ok := by
  simp only [Rc.ok]
  omega
theorem run_ok (m : List (List Int)) (Wd : Nat) (h0 : 0 < Wd) (hW : Wd ≤ 6) : ∀ i, i ≤ 36 → ∀ x ∈ (run m Wd i).2, x.ok
  | 0, _ => fun x hx => absurd hx (by simp [run])
  | i + 1, hi => by
    have ih := run_ok m Wd h0 hW i (by omega)
    have hb : (⟨(i / Wd : Nat), (i % Wd : Nat), 1, 1⟩ : Rc).ok := both_nat _ _ ⟨by have := Nat.div_le_self i Wd; omega, by have := Nat.mod_lt i h0; omega⟩
    intro x hx
    simp only [run, stp] at hx
    split at hx
    · rename_i hm
      rcases List.mem_or_eq_of_mem_set hx with hx | rfl
      · exact ih x hx
      · have hp := pos_lt hm
        rw [run_two] at hp
        refine Rc.both_ok (ih _ ?_) hb
        rw [List.getD_eq_getElem?_getD, List.getElem?_eq_getElem hp]
        exact List.getElem_mem hp
    · rcases List.mem_append.1 hx with hx | hx
      · exact ih x hx
      · rw [List.mem_singleton.1 hx]
        exact Rc.both_ok hb hb
theorem rooms_ok {m : List (List Int)} (hf : fine m = true) : (∀ x ∈ roomsOf m, x.ok) ∧ (roomsOf m).length ≤ 9 := by
  obtain ⟨h1, h2, h3, h4, h5, h6, h7⟩ := of_decide_eq_true hf
  exact ⟨run_ok m _ h3 h4 _ (Nat.mul_le_mul h2 h4), h6⟩
theorem ffine_fine {ps : List ByteArray} (h : ffine ps = true) : fine (ps.map bnum) = true := by
  unfold ffine at h
  rw [Bool.and_eq_true] at h
  exact rfine_fine h.1
theorem small_out {ps : List ByteArray} (h : small ps = true) : ps.length ≤ 4000000 ∧ ∀ s ∈ ps, s.size ≤ 4000000 := of_decide_eq_true h
end Go.Proofs.Ytpilppppkjenaaa.S

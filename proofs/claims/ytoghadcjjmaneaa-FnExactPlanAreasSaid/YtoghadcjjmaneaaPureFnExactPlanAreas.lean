/- PlanAreas returns what the reference returns, for every list of texts. -/
import Derived.Test.YtoghadcjjmaneaaLMark
import Derived.Test.YtoghadcjjmaneaaQa8
namespace Go.Proofs.Ytoghadcjjmaneaa.Pure
open Go.RowKit Go.Proofs.Ytoghadcjjmaneaa.S Go.Proofs.Ytoghadcjjmaneaa.Qa Go.Proofs.Ytoghadcjjmaneaa.QaL Go.Proofs.YtoghadcjjmaneaaW.PrintWords Go.Proofs.YtoghadcjjmaneaaW.PrintLast Go.Proofs.YtoghadcjjmaneaaW.PrintMore
set_option linter.unusedVariables false
set_option linter.unusedSimpArgs false

theorem rd_getD (l : List Int) (i : Nat) : rd l (i : Int) = l.getD i 0 := by simp [rd]
/-! ### marking a list -/
def marks (m : Int) : Nat → List Int
  | 0 => []
  | n + 1 => m :: marks (m + 1) n

theorem marks_length (n : Nat) : ∀ m, (marks m n).length = n := by
  induction n with
  | zero => intro m; rfl
  | succ n ih => intro m; simp [marks, ih]

theorem mark_l0 (d : Nat) : ∀ (l : List Int) (k i : Nat) (m : Int), i ≤ l.length → l.length - i = d → d < k → l.length ≤ 1048576 → 0 ≤ m → m ≤ 10000000 - d →
    laws_markIntS.l0 k l m (i : Int) = some (m + d, l.take i ++ marks m d) := by
  induction d with
  | zero =>
    intro l k i m hi hd hk hb hm0 hm
    obtain ⟨k, rfl⟩ : ∃ m, k = m + 1 := ⟨k - 1, by omega⟩
    obtain rfl : i = l.length := by omega
    simp only [laws_markIntS.l0]
    rw [if_neg (by omega), List.take_length]
    simp [marks]
  | succ d ih =>
    intro l k i m hi hd hk hb hm0 hm
    obtain ⟨k, rfl⟩ : ∃ m, k = m + 1 := ⟨k - 1, by omega⟩
    have hlt : i < l.length := by omega
    simp only [laws_markIntS.l0]
    rw [if_pos (by omega), if_pos (by omega), w64 _ (by omega), w64 _ (by omega)]
    have e : ((i : Int) + 1) = ((i + 1 : Nat) : Int) := by omega
    have e1 : ((i : Int)).toNat = i := by omega
    rw [e, e1, ih _ k (i + 1) (m + 1) (by simp; omega) (by simp; omega) (by omega) (by simpa using hb) (by omega) (by omega)]
    have e2 : (l.set i m).take (i + 1) = l.take i ++ [m] := by
      rw [List.take_succ_eq_append_getElem (by simpa using hlt), List.getElem_set_self, List.take_set_of_le (Nat.le_refl i)]
    rw [e2]
    have e3 : m + 1 + (d : Int) = m + ((d + 1 : Nat) : Int) := by omega
    rw [e3]
    simp [marks]

theorem mark_eq (l : List Int) (hb : l.length ≤ 1048576) (k : Nat) (hk : l.length < k) : laws_markIntS.f k l 1 = some (1 + (l.length : Int), marks 1 l.length) := by
  unfold laws_markIntS.f
  have := mark_l0 l.length l k 0 1 (by omega) (by omega) hk hb (by omega) (by omega)
  simpa using this

theorem held_l0 (d : Nat) : ∀ (pre : List Int) (k : Nat) (m : Int), d < k → pre.length + d ≤ 1048576 → 0 ≤ m → m ≤ 10000000 - d →
    laws_heldIntS.l0 k (pre ++ marks m d) m (pre.length : Int) = some (m + d) := by
  induction d with
  | zero =>
    intro pre k m hk hb hm0 hm
    obtain ⟨k, rfl⟩ : ∃ m, k = m + 1 := ⟨k - 1, by omega⟩
    simp only [laws_heldIntS.l0, marks, List.append_nil]
    rw [if_neg (by omega)]
    simp
  | succ d ih =>
    intro pre k m hk hb hm0 hm
    obtain ⟨k, rfl⟩ : ∃ m, k = m + 1 := ⟨k - 1, by omega⟩
    rw [show marks m (d + 1) = m :: marks (m + 1) d from rfl]
    simp only [laws_heldIntS.l0]
    rw [if_pos (by simp; omega), if_pos (by omega), w64 _ (by omega), w64 _ (by omega), rd_getD]
    have e : (pre ++ m :: marks (m + 1) d).getD pre.length 0 = m := by
      rw [List.getD_eq_getElem?_getD, List.getElem?_append_right (by omega)]; simp
    rw [e, if_pos rfl]
    have := ih (pre ++ [m]) k (m + 1) (by omega) (by simp; omega) (by omega) (by omega)
    simp only [List.append_assoc, List.singleton_append, List.length_append, List.length_singleton] at this
    have e2 : ((pre.length : Int) + 1) = ((pre.length + 1 : Nat) : Int) := by omega
    rw [e2, this]
    congr 1
    omega

theorem held_eq (n : Nat) (hb : n ≤ 1048576) (k : Nat) (hk : n < k) : laws_heldIntS.f k (marks 1 n) 1 = some (1 + (n : Int)) := by
  unfold laws_heldIntS.f
  have := held_l0 n [] k 1 hk (by simp; omega) (by omega) (by omega)
  simpa using this

theorem eqi_l0 (p q : List Int) (h : p.length = q.length) (hb : p.length ≤ 4000000) : ∀ (n i k : Nat), i + n = p.length → n < k → p = q → laws_eqIntS.l0 k p q (i : Nat) = some true
  | 0, i, k + 1, e, _, _ => by
    unfold laws_eqIntS.l0
    rw [if_neg (by omega)]
  | n + 1, i, k + 1, e, hk, hpq => by
    unfold laws_eqIntS.l0
    rw [if_pos (by omega), if_pos (by omega), if_pos (by omega), if_pos (by rw [hpq]), w64 _ (by omega), nat1]
    exact eqi_l0 p q h hb n (i + 1) k (by omega) (by omega) hpq
theorem eqi_ends (p : List Int) (hb : p.length ≤ 4000000) : QaL.Ends (fun k => laws_eqIntS.f k p p) true := by
  refine ⟨p.length + 1, fun k hk => ?_⟩
  show laws_eqIntS.f k p p = _
  unfold laws_eqIntS.f
  rw [if_pos rfl]
  exact eqi_l0 p p rfl hb p.length 0 _ (by omega) (by omega) rfl
theorem nm_of {p : List ByteArray} (h : ffine p = true) : Nm p p.length (wid (p.map bnum)) := ⟨gr_of (lets_all (ffine_r h).1), (ffine_r h).2⟩
/-- The numbers of cells. -/
def cellsTo (p : List ByteArray) (r : Nat) : List Int := (List.range r).map fun a => (cnt (vat (p.map bnum) (wid (p.map bnum))) a (p.length * wid (p.map bnum)) : Int)
theorem cellsTo_succ (p : List ByteArray) (r : Nat) : cellsTo p (r + 1) = cellsTo p r ++ [(cnt (vat (p.map bnum) (wid (p.map bnum))) r (p.length * wid (p.map bnum)) : Int)] := by
  unfold cellsTo
  rw [List.range_succ, List.map_append]
  rfl
theorem areas_eq {p : List ByteArray} (h : ffine p = true) : areas p = cellsTo p (lat (p.map bnum) (wid (p.map bnum)) (p.length * wid (p.map bnum))) := by
  have hN := nm_of h
  have hr : roomsT p = (run (p.map bnum) (wid (p.map bnum)) (p.length * wid (p.map bnum))).2 := by unfold roomsT roomsOf; rw [List.length_map]
  have hlen := rooms_lat hN.toGr
  obtain ⟨f1, f2, f3, f4, f5, f6, f7⟩ := of_decide_eq_true (ffine_fine h)
  have hfull := (full_iff (H := p.length) (cw (p.map bnum) (wid (p.map bnum))) hN.w1).1 (by
    show area (run (p.map bnum) (wid (p.map bnum)) (p.length * wid (p.map bnum))).2 = _
    rw [← hr]
    have : area (roomsT p) = ((p.map bnum).length : Int) * (wid (p.map bnum) : Int) := f7
    rw [this, List.length_map, Int.natCast_mul])
  unfold areas cellsTo
  apply List.ext_getElem?
  intro a
  by_cases ha : a < lat (p.map bnum) (wid (p.map bnum)) (p.length * wid (p.map bnum))
  · have := hfull a ha
    rw [List.getElem?_map, List.getElem?_map, List.getElem?_range ha, List.getElem?_eq_getElem (by omega)]
    simp only [Option.map_some]
    congr 1
    have e : (roomsT p)[a]'(by omega) = (run (p.map bnum) (wid (p.map bnum)) (p.length * wid (p.map bnum))).2.getD a ⟨0, 0, 0, 0⟩ := by
      rw [← hr, List.getD_eq_getElem?_getD, List.getElem?_eq_getElem (by omega)]
      rfl
    rw [e]
    exact this.symm
  · rw [List.getElem?_eq_none (by rw [List.length_map]; omega), List.getElem?_eq_none (by simp; omega)]
theorem areas_loop {p : List ByteArray} (h : ffine p = true) : ∀ d r, r + d = lat (p.map bnum) (wid (p.map bnum)) (p.length * wid (p.map bnum)) → QaL.Ends (fun k => spec_PlanAreas.l0 k p (cellsTo p r) (r : Int)) (areas p, true) := by
  have hN := nm_of h
  have hle := lat_le (p.map bnum) (wid (p.map bnum)) (p.length * wid (p.map bnum))
  have h36 := Nat.mul_le_mul hN.h6 hN.w6
  intro d
  induction d with
  | zero =>
    intro r e
    obtain rfl : r = lat (p.map bnum) (wid (p.map bnum)) (p.length * wid (p.map bnum)) := by omega
    rw [areas_eq h]
    exact Ends.back (fun k => rfl) (Ends.bind (rooms_ends hN) (Ends.no (by omega) (Ends.all (fun k => rfl))))
  | succ d ih =>
    intro r e
    refine Ends.back (fun k => rfl) (Ends.bind (rooms_ends hN) (Ends.yes (by omega) (Ends.bind (cells_ends hN r) (Ends.yes ?_ ?_))))
    · simp only [cellsTo, List.length_map, List.length_range]; omega
    · rw [w64 _ (by omega), nat1, ← cellsTo_succ]
      exact ih (r + 1) (by omega)
def areasOr (p : List ByteArray) : List Int × Bool := if ffine p = true then (areas p, true) else ([], false)
theorem specareas_ends (p : List ByteArray) (hb : p.length ≤ 4000000) (hs : ∀ s ∈ p, s.size ≤ 4000000) : QaL.Ends (fun k => spec_PlanAreas.f k p) (areasOr p) := by
  refine Ends.bind (r := ([] : List Int)) (Ends.all (fun k => rfl)) (Ends.bind (planin_ends p hb hs) ?_)
  unfold areasOr
  by_cases h : ffine p = true
  · rw [if_pos h]
    refine Ends.yes h ?_
    exact areas_loop h _ 0 (Nat.zero_add _)
  · rw [if_neg h]
    exact Ends.no h (Ends.all (fun k => rfl))
theorem imark_ends (l : List Int) (hb : l.length ≤ 1048576) : QaL.Ends (fun k => laws_markIntS.f k l 1) (1 + (l.length : Int), marks 1 l.length) := ⟨l.length + 1, fun k hk => mark_eq l hb k (by omega)⟩
theorem iheld_ends (n : Nat) (hb : n ≤ 1048576) : QaL.Ends (fun k => laws_heldIntS.f k (marks 1 n) 1) (1 + (n : Int)) := ⟨n + 1, fun k hk => held_eq n hb k (by omega)⟩
theorem FnExactPlanAreas (l : List ByteArray) (hl : l.length ≤ maxLen) (hs : ∀ s ∈ l, s.size ≤ maxLen) : ∃ k, laws_FnExactPlanAreas.f k l = some true := by
  refine Ends.get ?_
  obtain ⟨r, hr, hd⟩ := sz_ends l hl hs
  refine Ends.bind hr ?_
  by_cases hn : r < 0
  · exact Ends.yes hn (Ends.all (fun k => rfl))
  refine Ends.no hn ?_
  have hsm : small l = true := hd.resolve_left hn
  obtain ⟨b1, b2⟩ := small_out hsm
  have himpl : ∀ k : Nat, impl_PlanAreas.f l = some (areasOr l) := fun k => by
    unfold impl_PlanAreas.f areasOr
    rw [if_pos hsm]
    split <;> rfl
  have hlen : (areasOr l).1.length ≤ 1000 := by
    unfold areasOr
    split
    · rename_i hf
      have := (rooms_ok (ffine_fine hf)).2
      simp only [areas, List.length_map, roomsT]
      omega
    · simp
  refine Ends.bind (copy_ends l b1) (Ends.bind (specareas_ends l b1 b2) (Ends.bind (copy_ends l b1) (Ends.bind (Ends.all himpl) ?_)))
  generalize areasOr l = v at *
  obtain ⟨v1, v2⟩ := v
  simp only [] at hlen himpl ⊢
  have hl4 : v1.length ≤ 4000000 := by omega
  have hl5 : v1.length ≤ 1048576 := by omega
  refine Ends.bind (eqi_ends v1 hl4) (Ends.yes rfl ?_)
  have tail : QaL.Ends (fun k => laws_FnExactPlanAreas.j1 k l v1 v2 v1 false) true := by
    refine Ends.back (G := fun k => (laws_markIntS.f k v1 1).bind fun bt281 => ((laws_heldIntS.f k bt281.2 1).bind fun t283 => (if t283 < 0 then (some false) else (if t283 = bt281.1 then ((laws_toStringS.f k l).bind fun t284 => ((impl_PlanAreas.f t284).bind fun bt287 => ((laws_eqIntS.f k bt287.1 v1).bind fun t291 => (if t291 = true then (laws_FnExactPlanAreas.j2 k bt281.2 bt281.1 (bt287.2 != v2)) else (laws_FnExactPlanAreas.j2 k bt281.2 bt281.1 true))))) else (some false))))) (fun k => ?_) ?_
    · simp only [laws_FnExactPlanAreas.j1]
      rw [if_neg (by simp)]
    refine Ends.bind (imark_ends v1 hl5) (Ends.bind (iheld_ends _ hl5) (Ends.no (by omega) (Ends.yes rfl (Ends.bind (copy_ends l b1) (Ends.bind (Ends.all himpl) (Ends.bind (eqi_ends v1 hl4) (Ends.yes rfl ?_)))))))
    refine Ends.back (G := fun k => (laws_heldIntS.f k (marks 1 v1.length) 1).bind fun t292 => (if t292 < 0 then (some false) else (if t292 = 1 + (v1.length : Int) then (some true) else (some false)))) (fun k => ?_) (Ends.bind (iheld_ends _ hl5) (Ends.no (by omega) (Ends.yes rfl (Ends.all (fun k => rfl)))))
    simp only [laws_FnExactPlanAreas.j2]
    rw [if_neg (by simp)]
  refine Ends.back (G := fun k => (laws_toStringS.f k l).bind fun t274 => ((laws_eqStringS.f k l t274).bind fun t277 => (if t277 = true then ((laws_markStringS.f k l 1).bind fun bt278 => (if bt278.1 < 0 then (laws_FnExactPlanAreas.j1 k l v1 v2 v1 true) else ((laws_eqIntS.f k v1 v1).bind fun t280 => (if t280 = true then (laws_FnExactPlanAreas.j1 k l v1 v2 v1 (v2 != v2)) else (laws_FnExactPlanAreas.j1 k l v1 v2 v1 true))))) else (some false)))) (fun k => ?_) (Ends.bind (copy_ends l b1) (Ends.bind (refl_ends l b1) (Ends.yes rfl (Ends.bind (smark_ends l b1) (Ends.no (by simp only []; omega) (Ends.bind (eqi_ends v1 hl4) (Ends.yes rfl ?_)))))))
  · simp only [laws_FnExactPlanAreas.j0]
    rw [if_neg (by simp)]
  · rw [show (v2 != v2) = false by simp]
    exact tail
end Go.Proofs.Ytoghadcjjmaneaa.Pure

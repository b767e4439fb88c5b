import Derived.Test.YtpilppppkjenaaaQa4
import Derived.Test.YtpilppppkjenaaaQa2
import Derived.Test.YtpilppppkjenaaaMoved
/- What spec's functions of plans tell: the grid, the letters anew. -/
namespace Go.Proofs.Ytpilppppkjenaaa.QaL
open Go.RowKit Go.Proofs.Ytpilppppkjenaaa.S Go.Proofs.Ytpilppppkjenaaa.Qa Go.Proofs.YtpilppppkjenaaaW.PrintWords Go.Proofs.YtpilppppkjenaaaW.PrintLast Go.Proofs.YtpilppppkjenaaaW.PrintMore
set_option linter.unusedVariables false
set_option linter.unusedSimpArgs false

/-- With rounds enough it tells r. -/
def Ends {α : Type} (F : Nat → Option α) (r : α) : Prop := ∃ n, ∀ k, n ≤ k → F k = some r
theorem Ends.now {α : Type} {F : Nat → Option α} {r : α} (h : ∀ k, F (k + 1) = some r) : Ends F r := ⟨1, fun k hk => by rw [show k = (k - 1) + 1 by omega]; exact h _⟩
theorem Ends.all {α : Type} {F : Nat → Option α} {r : α} (h : ∀ k, F k = some r) : Ends F r := ⟨0, fun k hk => h k⟩
theorem Ends.back {α : Type} {F G : Nat → Option α} {r : α} (h : ∀ k, F (k + 1) = G k) (hg : Ends G r) : Ends F r := by
  obtain ⟨n, a⟩ := hg
  exact ⟨n + 1, fun k hk => by rw [show k = (k - 1) + 1 by omega]; exact (h _).trans (a _ (by omega))⟩
theorem Ends.same {α : Type} {F G : Nat → Option α} {r : α} (h : ∀ k, F k = G k) (hg : Ends G r) : Ends F r := by
  obtain ⟨n, a⟩ := hg
  exact ⟨n, fun k hk => (h k).trans (a _ hk)⟩
theorem Ends.bind {α β : Type} {F : Nat → Option α} {G : Nat → α → Option β} {r : α} {s : β} (hf : Ends F r) (hg : Ends (fun k => G k r) s) : Ends (fun k => (F k).bind (G k)) s := by
  obtain ⟨n, a⟩ := hf
  obtain ⟨m, b⟩ := hg
  exact ⟨n + m, fun k hk => by show (F k).bind (G k) = _; rw [a k (by omega)]; exact b k (by omega)⟩
theorem Ends.yes {α : Type} {F G : Nat → Option α} {r : α} {c : Prop} [Decidable c] (h : c) (hf : Ends F r) : Ends (fun k => if c then F k else G k) r := Ends.same (fun k => if_pos h) hf
theorem Ends.no {α : Type} {F G : Nat → Option α} {r : α} {c : Prop} [Decidable c] (h : ¬ c) (hf : Ends G r) : Ends (fun k => if c then F k else G k) r := Ends.same (fun k => if_neg h) hf
theorem Ends.get {α : Type} {F : Nat → Option α} {r : α} (h : Ends F r) : ∃ k, F k = some r := by
  obtain ⟨n, a⟩ := h
  exact ⟨n, a n (Nat.le_refl _)⟩
theorem nest {H W : Nat} (P0 : Nat → Prop) (P1 : Nat → Nat → Prop) (h3 : P0 H) (h2 : ∀ i, i < H → P0 (i + 1) → P1 i W) (h1 : ∀ i c, i < H → c < W → P1 i (c + 1) → P1 i c) (h0 : ∀ i, i < H → P1 i 0 → P0 i) : P0 0 := by
  have key : ∀ d i, i + d = H → P0 i := by
    intro d
    induction d with
    | zero => intro i e; obtain rfl : i = H := by omega
              exact h3
    | succ d ih =>
      intro i e
      have hi : i < H := by omega
      have col : ∀ d c, c + d = W → P1 i c := by
        intro d
        induction d with
        | zero => intro c e; obtain rfl : c = W := by omega
                  exact h2 i hi (ih (i + 1) (by omega))
        | succ d ih2 => intro c e; exact h1 i c hi (by omega) (ih2 (c + 1) (by omega))
      exact h0 i hi (col W 0 (by omega))
  exact key H 0 (by omega)

theorem w64 (x : Int) (h : -9223372036854775808 ≤ x ∧ x ≤ 9223372036854775807) : wrap64 x = x := by unfold wrap64; omega
theorem mn_min (a b : Int) : mn a b = min a b := by unfold mn; split <;> omega
theorem mx_max (a b : Int) : mx a b = max a b := by unfold mx; split <;> omega
theorem nat1 (i : Nat) : ((i : Int) + 1) = ((i + 1 : Nat) : Int) := by omega

theorem bt_get {s : ByteArray} {c : Nat} (hc : c < s.size) : bt s (c : Int) = (bnum s).getD c 0 := by
  unfold bt bnum
  rw [dif_pos (by omega)]
  rw [List.getD_eq_getElem?_getD, List.getElem?_map]
  have e : s.data.toList[c]? = some (s.data[c]'hc) := by simp [Array.getElem?_eq_getElem hc]
  rw [e]
  rfl
theorem gat_bytes {p : List ByteArray} {i c : Nat} (hi : i < p.length) (hc : c < (p[i]).size) : bt (rdOf ByteArray.empty p (i : Int)) (c : Int) = gat (p.map bnum) i c := by
  rw [rd_str hi, bt_get hc]
  unfold gat
  rw [List.getD_eq_getElem?_getD (l := List.map _ _), List.getElem?_map, List.getElem?_eq_getElem hi]
  rfl
theorem wid_bytes {p : List ByteArray} (h : 0 < p.length) : wid (p.map bnum) = (p[0]).size := by
  unfold wid
  rw [List.getD_eq_getElem?_getD, List.getElem?_map, List.getElem?_eq_getElem h]
  exact bnum_len _

/-! ### l6In -/
theorem in_eq (a b c : Int) : spec_l6In.f a b c = some (decide (b ≤ a ∧ a ≤ c)) := by
  unfold spec_l6In.f
  by_cases h : a ≥ b
  · rw [if_pos h]
    congr 1
    apply decide_eq_decide.2
    exact ⟨fun x => ⟨h, x⟩, fun x => x.2⟩
  · rw [if_neg h, decide_eq_false (fun x => h x.1)]

/-! ### l1Grid -/
/-- A row is as long as the first one, and of small letters. -/
def rowOk (W : Nat) (s : ByteArray) : Bool := decide (s.size = W ∧ 1 ≤ s.size ∧ s.size ≤ 6) && lets s
def gridOk (p : List ByteArray) : Bool := p.all (rowOk (wid (p.map bnum))) && decide (1 ≤ p.length ∧ p.length ≤ 6)
theorem getD_drop (l : List Int) (c : Nat) (h : c < l.length) : l.drop c = l.getD c 0 :: l.drop (c + 1) := by
  rw [List.drop_eq_getElem_cons h, List.getD_eq_getElem?_getD, List.getElem?_eq_getElem h]
  rfl
theorem grid_row (p : List ByteArray) (hb : p.length ≤ 4000000) {i : Nat} (hi : i < p.length) (hs : (p[i]).size ≤ 4000000) {b : Bool} (hn : Ends (fun k => spec_l1Grid.l0 k p ((i + 1 : Nat) : Int)) b) :
    ∀ d c, c + d = (p[i]).size → Ends (fun k => spec_l1Grid.l1 k p (i : Int) (c : Int)) (((bnum p[i]).drop c).all letter && b) := by
  intro d
  induction d with
  | zero =>
    intro c e
    refine Ends.back (G := fun k => spec_l1Grid.l0 k p ((i + 1 : Nat) : Int)) (fun k => ?_) ?_
    · simp only [spec_l1Grid.l1]
      rw [if_pos (by omega), if_pos (by omega), rd_str hi, if_neg (by omega), w64 _ (by omega), nat1]
    · rw [List.drop_eq_nil_of_le (by rw [bnum_len]; omega)]
      simpa using hn
  | succ d ih =>
    intro c e
    have hc : c < (p[i]).size := by omega
    have hd := getD_drop (bnum p[i]) c (by rw [bnum_len]; omega)
    have hx := bt_get hc
    generalize (bnum p[i]).getD c 0 = x at *
    by_cases hlet : letter x = true
    · have hl : 97 ≤ x ∧ x ≤ 122 := of_decide_eq_true hlet
      refine Ends.back (G := fun k => spec_l1Grid.l1 k p (i : Int) ((c + 1 : Nat) : Int)) (fun k => ?_) ?_
      · simp only [spec_l1Grid.l1]
        rw [if_pos (by omega), if_pos (by omega), rd_str hi, if_pos (by omega), if_pos (by omega), hx, if_neg (by omega), if_neg (by omega), w64 _ (by omega), nat1]
      · have := ih (c + 1) (by omega)
        rw [hd, List.all_cons, hlet, Bool.true_and]
        exact this
    · have hl : ¬ (97 ≤ x ∧ x ≤ 122) := fun h => hlet (decide_eq_true h)
      refine Ends.now (fun k => ?_)
      rw [hd, List.all_cons, Bool.eq_false_iff.2 hlet]
      simp only [spec_l1Grid.l1]
      rw [if_pos (by omega), if_pos (by omega), rd_str hi, if_pos (by omega), if_pos (by omega), hx]
      by_cases h1 : x < 97
      · rw [if_pos h1]; rfl
      · rw [if_neg h1, if_pos (by omega)]; rfl
theorem grid_from (p : List ByteArray) (hb : p.length ≤ 4000000) (hs : ∀ s ∈ p, s.size ≤ 4000000) : ∀ d i, i + d = p.length → Ends (fun k => spec_l1Grid.l0 k p (i : Int)) ((p.drop i).all (rowOk (wid (p.map bnum))) && decide (1 ≤ p.length ∧ p.length ≤ 6)) := by
  intro d
  induction d with
  | zero =>
    intro i e
    refine Ends.now (fun k => ?_)
    simp only [spec_l1Grid.l0]
    rw [if_neg (by omega), in_eq, List.drop_eq_nil_of_le (by omega)]
    simp only [Option.bind, List.all_nil, Bool.true_and]
    congr 1
    apply decide_eq_decide.2
    omega
  | succ d ih =>
    intro i e
    have hi : i < p.length := by omega
    have h0 : 0 < p.length := by omega
    have hw := wid_bytes h0
    rw [List.drop_eq_getElem_cons hi, List.all_cons, Bool.and_assoc]
    have hr0 : rdOf ByteArray.empty p 0 = p[0] := rd_str (i := 0) h0
    by_cases hz : (p[i]).size = (p[0]).size ∧ 1 ≤ (p[i]).size ∧ (p[i]).size ≤ 6
    · have hro : rowOk (wid (p.map bnum)) p[i] = lets p[i] := by
        unfold rowOk
        rw [hw, decide_eq_true hz, Bool.true_and]
      rw [hro]
      have := grid_row p hb hi (hs _ (List.getElem_mem hi)) (ih (i + 1) (by omega)) _ 0 (Nat.zero_add _)
      refine Ends.back (G := fun k => spec_l1Grid.j1 k p (i : Int) false) (fun k => ?_) (Ends.back (G := fun k => spec_l1Grid.l1 k p (i : Int) 0) (fun k => ?_) ?_)
      · simp only [spec_l1Grid.l0]
        rw [if_pos (by omega), if_pos (by omega), if_pos (by omega), rd_str hi, hr0, if_pos (by omega), in_eq, decide_eq_true (by omega)]
        rfl
      · simp only [spec_l1Grid.j1]
        rw [if_neg (by simp)]
      · simpa [lets] using this
    · have hro : rowOk (wid (p.map bnum)) p[i] = false := by
        unfold rowOk
        rw [hw, decide_eq_false hz, Bool.false_and]
      rw [hro, Bool.false_and]
      refine Ends.back (G := fun k => spec_l1Grid.j1 k p (i : Int) true) (fun k => ?_) (Ends.now (fun k => ?_))
      · simp only [spec_l1Grid.l0]
        rw [if_pos (by omega), if_pos (by omega), if_pos (by omega), rd_str hi, hr0]
        by_cases h1 : (p[i]).size = (p[0]).size
        · rw [if_pos (by omega), in_eq, decide_eq_false (by omega)]
          rfl
        · rw [if_neg (by omega)]
      · simp only [spec_l1Grid.j1]
        rfl
theorem grid_ends (p : List ByteArray) (hb : p.length ≤ 4000000) (hs : ∀ s ∈ p, s.size ≤ 4000000) : Ends (fun k => spec_l1Grid.f k p) (gridOk p) := by
  have := grid_from p hb hs p.length 0 (Nat.zero_add _)
  rw [List.drop_zero] at this
  exact this

/-! ### l1Same -/
theorem same_l0 (p q : List ByteArray) (h : p.length = q.length) (hb : p.length ≤ 4000000) : ∀ (n i k : Nat), i + n = p.length → n < k → spec_l1Same.l0 k p q (i : Nat) = some (decide (p.drop i = q.drop i))
  | 0, i, k + 1, e, _ => by
    unfold spec_l1Same.l0
    rw [if_neg (by omega), List.drop_eq_nil_of_le (by omega), List.drop_eq_nil_of_le (by omega)]
    simp
  | n + 1, i, k + 1, e, hk => by
    have hi : i < p.length := by omega
    unfold spec_l1Same.l0
    rw [if_pos (by omega), if_pos (by omega), if_pos (by omega), rd_str hi, rd_str (h ▸ hi)]
    have hd := drop_two hi (h ▸ hi)
    by_cases c : p[i] = q[i]'(h ▸ hi)
    · rw [if_pos (bytes_ext.2 c), w64 _ (by omega)]
      have := same_l0 p q h hb n (i + 1) k (by omega) (by omega)
      rw [Int.natCast_add] at this
      refine this.trans ?_
      congr 1
      exact decide_eq_decide.2 ⟨fun x => hd.2 ⟨c, x⟩, fun x => (hd.1 x).2⟩
    · rw [if_neg (fun x => c (bytes_ext.1 x))]
      congr 1
      exact (decide_eq_false (fun x => c (hd.1 x).1)).symm
theorem same_ends (p q : List ByteArray) (hb : p.length ≤ 4000000) : Ends (fun k => spec_l1Same.f k p q) (decide (p = q)) := by
  refine ⟨p.length + 1, fun k hk => ?_⟩
  show spec_l1Same.f k p q = _
  unfold spec_l1Same.f
  by_cases h : p.length = q.length
  · rw [if_pos (by omega)]
    exact same_l0 p q h hb p.length 0 _ (by omega) (by omega)
  · rw [if_neg (by omega)]
    congr 1
    exact (decide_eq_false (fun x => h (by rw [x]))).symm
end Go.Proofs.Ytpilppppkjenaaa.QaL
/- What spec's functions of plans tell: letters, rooms, cells, and whether texts are a plan. -/
namespace Go.Proofs.Ytpilppppkjenaaa.QaL
open Go.RowKit Go.Proofs.Ytpilppppkjenaaa.S Go.Proofs.Ytpilppppkjenaaa.Qa Go.Proofs.YtpilppppkjenaaaW.PrintWords Go.Proofs.YtpilppppkjenaaaW.PrintLast Go.Proofs.YtpilppppkjenaaaW.PrintMore
set_option linter.unusedVariables false
set_option linter.unusedSimpArgs false

/-- What a grid's texts are. -/
structure Gr (p : List ByteArray) (H W : Nat) : Prop where
  len : p.length = H
  h1 : 1 ≤ H
  h6 : H ≤ 6
  w1 : 1 ≤ W
  w6 : W ≤ 6
  row : ∀ i (h : i < p.length), (p[i]).size = W
  lets : p.all lets = true
theorem gr_of {p : List ByteArray} (h : gridOk p = true) : Gr p p.length (wid (p.map bnum)) := by
  unfold gridOk at h
  rw [Bool.and_eq_true] at h
  obtain ⟨h1, h2⟩ := h
  have h2 := of_decide_eq_true h2
  rw [List.all_eq_true] at h1
  have key : ∀ s ∈ p, (s.size = wid (p.map bnum) ∧ 1 ≤ s.size ∧ s.size ≤ 6) ∧ S.lets s = true := fun s hs => by
    have := h1 s hs
    unfold rowOk at this
    rw [Bool.and_eq_true] at this
    exact ⟨of_decide_eq_true this.1, this.2⟩
  have k0 := key _ (List.getElem_mem (show 0 < p.length by omega))
  exact ⟨rfl, h2.1, h2.2, by omega, by omega, fun i hi => (key _ (List.getElem_mem hi)).1.1, List.all_eq_true.2 (fun s hs => (key s hs).2)⟩
theorem Gr.wid {p : List ByteArray} {H W : Nat} (h : Gr p H W) : wid (p.map bnum) = W := by
  have h0 : 0 < p.length := by have := h.len; have := h.h1; omega
  rw [wid_bytes h0]
  exact h.row 0 h0
theorem Gr.at {p : List ByteArray} {H W : Nat} (h : Gr p H W) {i c : Nat} (hi : i < H) (hc : c < W) : bt (rdOf ByteArray.empty p (i : Int)) (c : Int) = gat (p.map bnum) i c ∧ ((rdOf ByteArray.empty p (i : Int)).size : Int) = W := by
  have hl := h.len
  have hi2 : i < p.length := by omega
  refine ⟨gat_bytes hi2 (by rw [h.row i hi2]; exact hc), ?_⟩
  rw [rd_str hi2, h.row i hi2]
theorem Gr.size {p : List ByteArray} {H W : Nat} (h : Gr p H W) {i : Nat} (hi : i < H) : ((rdOf ByteArray.empty p (i : Int)).size : Int) = W := by
  have hl := h.len
  have hi2 : i < p.length := by omega
  rw [rd_str hi2, h.row i hi2]
theorem Gr.ok {p : List ByteArray} {H W : Nat} (h : Gr p H W) : gridOk p = true := by
  unfold gridOk
  have := h.len
  have := h.h1
  have := h.h6
  have := h.w1
  have := h.w6
  rw [Bool.and_eq_true]
  refine ⟨?_, decide_eq_true (by omega)⟩
  rw [List.all_eq_true]
  intro s hs
  obtain ⟨i, hi, rfl⟩ := List.getElem_of_mem hs
  unfold rowOk
  rw [Bool.and_eq_true, h.wid]
  exact ⟨decide_eq_true (by have := h.row i hi; omega), (List.all_eq_true.1 h.lets) _ hs⟩

/-! ### l1Names -/
theorem pos_le (x : Int) : ∀ l : List Int, pos x l ≤ l.length
  | [] => Nat.le_refl _
  | y :: l => by
    simp only [pos, List.length_cons]
    have := pos_le x l
    split <;> omega
theorem pos_here {x : Int} : ∀ {l : List Int} {t : Nat}, t < l.length → t ≤ pos x l → (l.getD t 0 = x ↔ t = pos x l)
  | [], t, h, _ => absurd h (by simp)
  | y :: l, 0, _, _ => by
    simp only [pos, List.getD_cons_zero]
    by_cases e : y = x
    · rw [if_pos e]; exact ⟨fun _ => rfl, fun _ => e⟩
    · rw [if_neg e]; exact ⟨fun h => absurd h e, fun h => by omega⟩
  | y :: l, t + 1, h, h2 => by
    simp only [pos, List.getD_cons_succ] at *
    by_cases e : y = x
    · rw [if_pos e] at h2; omega
    · rw [if_neg e] at h2 ⊢
      have := pos_here (x := x) (l := l) (t := t) (by simpa using h) (by omega)
      omega
theorem pos_none {x : Int} {l : List Int} (h : x ∉ l) : pos x l = l.length := by
  by_cases e : pos x l < l.length
  · have := (pos_here e (Nat.le_refl _)).2 rfl
    rw [List.getD_eq_getElem?_getD, List.getElem?_eq_getElem e] at this
    exact absurd (this ▸ List.getElem_mem e) h
  · have := pos_le x l
    omega

/-- The rows made so far. -/
def rowNums (m : List (List Int)) (W r c : Nat) : List Int := (List.range c).map fun k => (97 + vals m W r k) % 256
def outRows (m : List (List Int)) (W i : Nat) : List ByteArray := (List.range i).map fun r => strOfNums (rowNums m W r W)
theorem rowNums_succ (m : List (List Int)) (W r c : Nat) : rowNums m W r (c + 1) = rowNums m W r c ++ [(97 + vals m W r c) % 256] := by
  unfold rowNums
  rw [List.range_succ, List.map_append]
  rfl
theorem outRows_succ (m : List (List Int)) (W i : Nat) : outRows m W (i + 1) = outRows m W i ++ [strOfNums (rowNums m W i W)] := by
  unfold outRows
  rw [List.range_succ, List.map_append]
  rfl
theorem rd_get (l : List Int) (i : Nat) : rd l (i : Int) = l.getD i 0 := by simp [rd]
theorem names_find {p : List ByteArray} {H W : Nat} (h : Gr p H W) {i c : Nat} (hi : i < H) (hc : c < W) {ord : List Int} {out : List ByteArray} {row : List Int} (ho : ord.length ≤ 1000) (hr : row.length ≤ 1000) {r : List ByteArray} {x : Int} (hx : gat (p.map bnum) i c = x)
    (hn : Ends (fun k => spec_l1Names.l1 k p (if x ∈ ord then ord else ord ++ [x]) out (i : Int) (row ++ [(97 + (pos x ord : Int)) % 256]) ((c + 1 : Nat) : Int)) r) :
    ∀ d t, t + d = pos x ord → Ends (fun k => spec_l1Names.l2 k p ord out (i : Int) row (c : Int) (t : Int)) r := by
  have hl := h.len
  have hp := pos_le x ord
  have hc6 := h.w6
  have hi6 := h.h6
  obtain ⟨g1, g2⟩ := h.at hi hc
  rw [hx] at g1
  intro d
  induction d with
  | zero =>
    intro t e
    obtain rfl : t = pos x ord := by omega
    by_cases hm : x ∈ ord
    · have hlt := pos_lt hm
      rw [if_pos hm] at hn
      refine Ends.back (fun k => ?_) hn
      simp only [spec_l1Names.l2]
      rw [if_pos (by omega), if_pos (by omega), if_pos (by omega), if_pos (by omega), if_pos (by omega), g2, if_pos (by omega), g1, rd_get, if_pos ((pos_here hlt (Nat.le_refl _)).2 rfl), if_neg (by omega), if_pos (by omega), w64 _ (by omega), w64 _ (by omega), nat1]
    · have hpe := pos_none hm
      rw [if_neg hm] at hn
      refine Ends.back (fun k => ?_) hn
      simp only [spec_l1Names.l2]
      rw [if_neg (by omega), if_pos (by omega), if_pos (by omega), if_pos (by omega), if_pos (by omega), g2, if_pos (by omega), if_pos (by omega), if_pos (by omega), g1, w64 _ (by omega), w64 _ (by omega), nat1]
  | succ d ih =>
    intro t e
    refine Ends.back (fun k => ?_) (ih (t + 1) (by omega))
    simp only [spec_l1Names.l2]
    rw [if_pos (by omega), if_pos (by omega), if_pos (by omega), if_pos (by omega), if_pos (by omega), g2, if_pos (by omega), g1, rd_get, if_neg (fun x => by have := (pos_here (by omega) (by omega)).1 x; omega), w64 _ (by omega), nat1]
theorem names_ends {p : List ByteArray} {H W : Nat} (h : Gr p H W) : Ends (fun k => spec_l1Names.f k p) (outRows (p.map bnum) W H) := by
  have hl := h.len
  have hc6 := h.w6
  have hi6 := h.h6
  have hrl : ∀ j, j ≤ H * W → (run (p.map bnum) W j).1.length ≤ 1000 := fun j hj => by
    have := run_len (p.map bnum) W j
    have := Nat.mul_le_mul hi6 hc6
    omega
  suffices key : Ends (fun k => spec_l1Names.l0 k p (run (p.map bnum) W (0 * W)).1 (outRows (p.map bnum) W 0) ((0 : Nat) : Int)) (outRows (p.map bnum) W H) by
    rw [Nat.zero_mul] at key
    exact key
  refine nest (H := H) (W := W) (fun i => Ends (fun k => spec_l1Names.l0 k p (run (p.map bnum) W (i * W)).1 (outRows (p.map bnum) W i) (i : Int)) (outRows (p.map bnum) W H))
    (fun i c => Ends (fun k => spec_l1Names.l1 k p (run (p.map bnum) W (i * W + c)).1 (outRows (p.map bnum) W i) (i : Int) (rowNums (p.map bnum) W i c) (c : Int)) (outRows (p.map bnum) W H)) ?_ ?_ ?_ ?_
  · refine Ends.now (fun k => ?_)
    simp only [spec_l1Names.l0]
    rw [if_neg (by omega)]
  · intro i hi hn
    refine Ends.back (fun k => ?_) hn
    simp only [spec_l1Names.l1]
    rw [if_pos (by omega), if_pos (by omega), h.size hi, if_neg (by omega), if_pos (by simp only [outRows, List.length_map, List.length_range]; omega), w64 _ (by omega), nat1, ← outRows_succ, Nat.succ_mul]
  · intro i c hi hc hn
    have hj := lin_lt hi hc
    obtain ⟨e1, e2⟩ := at_div (W := W) (r := i) (c := c) hc
    have hrun : (run (p.map bnum) W (i * W + (c + 1))).1 = if gat (p.map bnum) i c ∈ (run (p.map bnum) W (i * W + c)).1 then (run (p.map bnum) W (i * W + c)).1 else (run (p.map bnum) W (i * W + c)).1 ++ [gat (p.map bnum) i c] := by
      show (stp (run (p.map bnum) W (i * W + c)) (gat (p.map bnum) ((i * W + c) / W) ((i * W + c) % W)) ((i * W + c) / W) ((i * W + c) % W)).1 = _
      rw [e1, e2]
      unfold stp
      split <;> rfl
    have hval : vals (p.map bnum) W i c = (pos (gat (p.map bnum) i c) (run (p.map bnum) W (i * W + c)).1 : Nat) := by
      unfold vals
      rw [show i * W + c + 1 = i * W + (c + 1) from rfl, hrun]
      split
      · rfl
      · rename_i hm
        rw [pos_app_new hm, pos_none hm]
    rw [hrun, rowNums_succ, hval] at hn
    have hf := names_find h hi hc (hrl _ (by omega)) (by simp only [rowNums, List.length_map, List.length_range]; omega) rfl hn _ 0 (Nat.zero_add _)
    refine Ends.back (fun k => ?_) hf
    simp only [spec_l1Names.l1]
    rw [if_pos (by omega), if_pos (by omega), h.size hi, if_pos (by omega)]
    rfl
  · intro i hi hn
    refine Ends.back (fun k => ?_) hn
    simp only [spec_l1Names.l0]
    rw [if_pos (by omega)]
    rfl

/-- The texts of the letters anew. -/
theorem vals_small {m : List (List Int)} (hH : m.length ≤ 6) (hW : wid m ≤ 6) {r c : Nat} (hr : r < m.length) (hc : c < wid m) : 0 ≤ vals m (wid m) r c ∧ vals m (wid m) r c < 36 := by
  have h1 := vals_bound hr hc
  have h2 := run_len m (wid m) (m.length * wid m)
  have h3 := run_two m (wid m) (m.length * wid m)
  have h4 := Nat.mul_le_mul hH hW
  unfold roomsOf at h1
  omega
theorem outRows_eq {m : List (List Int)} (hH : m.length ≤ 6) (hW : wid m ≤ 6) : outRows m (wid m) m.length = (numsOf m).map rowText := by
  unfold outRows numsOf
  rw [List.map_map]
  apply List.map_congr_left
  intro r hr
  have hr := List.mem_range.1 hr
  simp only [Function.comp_apply, strOfNums, rowText, rowNums]
  congr 2
  rw [List.map_map, List.map_map]
  apply List.map_congr_left
  intro c hc
  have hc := List.mem_range.1 hc
  have := vals_small hH hW hr hc
  simp only [Function.comp_apply, lt8]
  congr 1
  omega
theorem Gr.names {p : List ByteArray} {H W : Nat} (h : Gr p H W) : Ends (fun k => spec_l1Names.f k p) (rowTexts p) := by
  have e := outRows_eq (m := p.map bnum) (by rw [List.length_map]; have := h.len; have := h.h6; omega) (by rw [h.wid]; exact h.w6)
  rw [h.wid, List.length_map, h.len] at e
  unfold rowTexts
  rw [← e]
  exact names_ends h
end Go.Proofs.Ytpilppppkjenaaa.QaL
/- What spec's functions of plans tell: rooms, cells, and whether texts are a plan. -/
namespace Go.Proofs.Ytpilppppkjenaaa.QaL
open Go.RowKit Go.Proofs.Ytpilppppkjenaaa.S Go.Proofs.Ytpilppppkjenaaa.Qa Go.Proofs.YtpilppppkjenaaaW.PrintWords Go.Proofs.YtpilppppkjenaaaW.PrintLast Go.Proofs.YtpilppppkjenaaaW.PrintMore
set_option linter.unusedVariables false
set_option linter.unusedSimpArgs false

theorem bnum_row {l : List Int} (h : ∀ k ∈ l, 0 ≤ k ∧ k < 36) : bnum (rowText l) = l.map fun k => 97 + k := by
  unfold bnum rowText
  rw [List.map_map]
  apply List.map_congr_left
  intro k hk
  have := h k hk
  simp only [Function.comp_apply, lt8]
  rw [UInt8.toNat_ofNat']
  omega
theorem anew_texts {p : List ByteArray} {H W : Nat} (h : Gr p H W) : (rowTexts p).map bnum = anew (p.map bnum) := by
  unfold rowTexts anew
  rw [List.map_map]
  apply List.map_congr_left
  intro l hl
  obtain ⟨r, hr, rfl⟩ := numsOf_row hl
  refine bnum_row (fun k hk => ?_)
  simp only [List.mem_map, List.mem_range] at hk
  obtain ⟨c, hc, rfl⟩ := hk
  exact vals_small (by rw [List.length_map]; have := h.len; have := h.h6; omega) (by rw [h.wid]; exact h.w6) hr hc
theorem vals_vat (m : List (List Int)) {W r c : Nat} (hc : c < W) : vals m W r c = (vat m W (r * W + c) : Nat) := by
  obtain ⟨e1, e2⟩ := at_div (W := W) (r := r) (c := c) hc
  unfold vals vat
  rw [e1, e2]
/-- A grid's texts by their own letters. -/
structure Nm (p : List ByteArray) (H W : Nat) : Prop extends Gr p H W where
  same : rowTexts p = p
theorem Nm.at {p : List ByteArray} {H W : Nat} (h : Nm p H W) {i c : Nat} (hi : i < H) (hc : c < W) : wrap64 (wrap64 (bt (rdOf ByteArray.empty p (i : Int)) (c : Int)) - 97) = (vat (p.map bnum) W (i * W + c) : Nat) := by
  have hl := h.len
  have hm : (p.map bnum).length = H := by rw [List.length_map, hl]
  have e : gat (p.map bnum) i c = 97 + vals (p.map bnum) W i c := by
    have e2 := gat_anew (m := p.map bnum) (r := i) (c := c) (by omega) (by rw [h.toGr.wid]; exact hc)
    rw [← anew_texts h.toGr, h.same, h.toGr.wid] at e2
    exact e2
  have hv := vals_small (m := p.map bnum) (by have := h.h6; omega) (by rw [h.toGr.wid]; exact h.w6) (r := i) (c := c) (by omega) (by rw [h.toGr.wid]; exact hc)
  rw [h.toGr.wid] at hv
  rw [vals_vat _ hc] at hv
  rw [(h.toGr.at hi hc).1, e, vals_vat _ hc]
  generalize vat (p.map bnum) W (i * W + c) = v at *
  rw [w64 (97 + (v : Int)) (by omega), w64 _ (by omega)]
  omega

theorem lat_step (m : List (List Int)) (W j : Nat) : lat m W (j + 1) = max (lat m W j) (vat m W j + 1) := by
  rcases (cw m W).step j with ⟨a, e, _⟩ | ⟨a, e, _⟩ <;> omega
theorem lat_le (m : List (List Int)) (W j : Nat) : lat m W j ≤ j := run_len m W j
theorem vat_le (m : List (List Int)) (W j : Nat) : vat m W j ≤ j := by
  have h1 := lat_step m W j
  have h2 := lat_le m W (j + 1)
  omega
theorem cnt_le (V : Nat → Nat) (a : Nat) : ∀ j, cnt V a j ≤ j
  | 0 => Nat.le_refl _
  | j + 1 => by
    have := cnt_le V a j
    simp only [cnt]
    split <;> omega
theorem rooms_ends {p : List ByteArray} {H W : Nat} (h : Nm p H W) : Ends (fun k => spec_l1Rooms.f k p) ((lat (p.map bnum) W (H * W) : Nat) : Int) := by
  have hl := h.len
  have hc6 := h.w6
  have hi6 := h.h6
  have h36 := Nat.mul_le_mul hi6 hc6
  suffices key : Ends (fun k => spec_l1Rooms.l0 k p ((lat (p.map bnum) W (0 * W) : Nat) : Int) ((0 : Nat) : Int)) ((lat (p.map bnum) W (H * W) : Nat) : Int) by
    rw [Nat.zero_mul] at key
    exact key
  refine nest (H := H) (W := W) (fun i => Ends (fun k => spec_l1Rooms.l0 k p ((lat (p.map bnum) W (i * W) : Nat) : Int) (i : Int)) ((lat (p.map bnum) W (H * W) : Nat) : Int))
    (fun i c => Ends (fun k => spec_l1Rooms.l1 k p ((lat (p.map bnum) W (i * W + c) : Nat) : Int) (i : Int) (c : Int)) ((lat (p.map bnum) W (H * W) : Nat) : Int)) ?_ ?_ ?_ ?_
  · refine Ends.now (fun k => ?_)
    simp only [spec_l1Rooms.l0]
    rw [if_neg (by omega)]
  · intro i hi hn
    refine Ends.back (fun k => ?_) hn
    simp only [spec_l1Rooms.l1]
    rw [if_pos (by omega), if_pos (by omega), h.toGr.size hi, if_neg (by omega), w64 _ (by omega), nat1, Nat.succ_mul]
  · intro i c hi hc hn
    have hj := lin_lt hi hc
    have hv := vat_le (p.map bnum) W (i * W + c)
    have hs := lat_step (p.map bnum) W (i * W + c)
    refine Ends.back (fun k => ?_) hn
    simp only [spec_l1Rooms.l1]
    rw [if_pos (by omega), if_pos (by omega), h.toGr.size hi, if_pos (by omega), if_pos (by omega), h.at hi hc, w64 (_ + 1) (by omega), w64 _ (by omega), mx_max, nat1, nat1]
    congr 1
    rw [show i * W + (c + 1) = i * W + c + 1 from rfl, hs]
    omega
  · intro i hi hn
    refine Ends.back (fun k => ?_) hn
    simp only [spec_l1Rooms.l0]
    rw [if_pos (by omega)]
    rfl
theorem cells_ends {p : List ByteArray} {H W : Nat} (h : Nm p H W) (a : Nat) : Ends (fun k => spec_l1Cells.f k p (a : Int)) ((cnt (vat (p.map bnum) W) a (H * W) : Nat) : Int) := by
  have hl := h.len
  have hc6 := h.w6
  have hi6 := h.h6
  have h36 := Nat.mul_le_mul hi6 hc6
  generalize hV : vat (p.map bnum) W = V
  suffices key : Ends (fun k => spec_l1Cells.l0 k p (a : Int) ((cnt V a (0 * W) : Nat) : Int) ((0 : Nat) : Int)) ((cnt V a (H * W) : Nat) : Int) by
    rw [Nat.zero_mul] at key
    exact key
  refine nest (H := H) (W := W) (fun i => Ends (fun k => spec_l1Cells.l0 k p (a : Int) ((cnt V a (i * W) : Nat) : Int) (i : Int)) ((cnt V a (H * W) : Nat) : Int))
    (fun i c => Ends (fun k => spec_l1Cells.l1 k p (a : Int) ((cnt V a (i * W + c) : Nat) : Int) (i : Int) (c : Int)) ((cnt V a (H * W) : Nat) : Int)) ?_ ?_ ?_ ?_
  · refine Ends.now (fun k => ?_)
    simp only [spec_l1Cells.l0]
    rw [if_neg (by omega)]
  · intro i hi hn
    refine Ends.back (fun k => ?_) hn
    simp only [spec_l1Cells.l1]
    rw [if_pos (by omega), if_pos (by omega), h.toGr.size hi, if_neg (by omega), w64 _ (by omega), nat1, Nat.succ_mul]
  · intro i c hi hc hn
    have hj := lin_lt hi hc
    have hv := cnt_le V a (i * W + c)
    have hat := h.at hi hc
    rw [hV] at hat
    rw [show i * W + (c + 1) = i * W + c + 1 from rfl] at hn
    simp only [cnt] at hn
    refine Ends.back (fun k => ?_) hn
    simp only [spec_l1Cells.l1]
    rw [if_pos (by omega), if_pos (by omega), h.toGr.size hi, if_pos (by omega), if_pos (by omega), hat, w64 (_ + 1) (by omega), w64 (_ + 1) (by omega), nat1, nat1]
    by_cases e : V (i * W + c) = a
    · rw [if_pos (by omega), if_pos e]
    · rw [if_neg (by omega), if_neg e]
      rfl
  · intro i hi hn
    refine Ends.back (fun k => ?_) hn
    simp only [spec_l1Cells.l0]
    rw [if_pos (by omega)]
    rfl
theorem room_ends {p : List ByteArray} {H W : Nat} (h : Nm p H W) (a : Nat) : Ends (fun k => spec_l1Room.f k p (a : Int)) (bxt (vat (p.map bnum) W) W H a (H * W), bxl (vat (p.map bnum) W) W a (H * W), bxo (vat (p.map bnum) W) W a (H * W) - bxt (vat (p.map bnum) W) W H a (H * W) + 1, bxr (vat (p.map bnum) W) W a (H * W) - bxl (vat (p.map bnum) W) W a (H * W) + 1) := by
  have hl := h.len
  have hc6 := h.w6
  have hi6 := h.h6
  have hi1 := h.h1
  have hw1 := h.w1
  have h36 := Nat.mul_le_mul hi6 hc6
  generalize hV : vat (p.map bnum) W = V
  obtain ⟨hlie, -⟩ := bx_lies V W H a (by omega) (H * W) (Nat.le_refl _)
  generalize hR : (bxt V W H a (H * W), bxl V W a (H * W), bxo V W a (H * W) - bxt V W H a (H * W) + 1, bxr V W a (H * W) - bxl V W a (H * W) + 1) = R
  suffices key : Ends (fun k => spec_l1Room.l0 k p (a : Int) (bxt V W H a (0 * W)) (bxl V W a (0 * W)) (bxo V W a (0 * W)) (bxr V W a (0 * W)) ((0 : Nat) : Int)) R by
    rw [Nat.zero_mul] at key
    refine Ends.same (fun k => ?_) key
    show spec_l1Room.f k p a = _
    unfold spec_l1Room.f
    rw [if_pos (by omega)]
    have := h.toGr.size (i := 0) (by omega)
    simp only [bxt, bxl, bxo, bxr]
    rw [hl]
    congr 1
  refine nest (H := H) (W := W) (fun i => Ends (fun k => spec_l1Room.l0 k p (a : Int) (bxt V W H a (i * W)) (bxl V W a (i * W)) (bxo V W a (i * W)) (bxr V W a (i * W)) (i : Int)) R)
    (fun i c => Ends (fun k => spec_l1Room.l1 k p (a : Int) (bxt V W H a (i * W + c)) (bxl V W a (i * W + c)) (bxo V W a (i * W + c)) (bxr V W a (i * W + c)) (i : Int) (c : Int)) R) ?_ ?_ ?_ ?_
  · refine Ends.now (fun k => ?_)
    simp only [spec_l1Room.l0]
    rw [if_neg (by omega), ← hR, w64 (_ + 1) (by rw [w64 _ (by omega)]; omega), w64 (_ + 1) (by rw [w64 _ (by omega)]; omega), w64 _ (by omega), w64 _ (by omega)]
  · intro i hi hn
    refine Ends.back (fun k => ?_) hn
    simp only [spec_l1Room.l1]
    rw [if_pos (by omega), if_pos (by omega), h.toGr.size hi, if_neg (by omega), w64 _ (by omega), nat1, Nat.succ_mul]
  · intro i c hi hc hn
    have hj := lin_lt hi hc
    have hat := h.at hi hc
    obtain ⟨e1, e2⟩ := at_div (W := W) (r := i) (c := c) hc
    rw [hV] at hat
    rw [show i * W + (c + 1) = i * W + c + 1 from rfl] at hn
    simp only [bxt, bxl, bxo, bxr, e1, e2] at hn
    refine Ends.back (fun k => ?_) hn
    simp only [spec_l1Room.l1]
    rw [if_pos (by omega), if_pos (by omega), h.toGr.size hi, if_pos (by omega), if_pos (by omega), hat, w64 (_ + 1) (by omega), nat1, mn_min, mn_min, mx_max, mx_max]
    by_cases e : V (i * W + c) = a
    · simp only [if_pos e]
      rw [if_pos (by omega)]
    · simp only [if_neg e]
      rw [if_neg (by omega)]
  · intro i hi hn
    refine Ends.back (fun k => ?_) hn
    simp only [spec_l1Room.l0]
    rw [if_pos (by omega)]
    rfl
end Go.Proofs.Ytpilppppkjenaaa.QaL
/- What spec.PlanIn tells, and the law's own functions over texts. -/
namespace Go.Proofs.Ytpilppppkjenaaa.QaL
open Go.RowKit Go.Proofs.Ytpilppppkjenaaa.S Go.Proofs.Ytpilppppkjenaaa.Qa Go.Proofs.YtpilppppkjenaaaW.PrintWords Go.Proofs.YtpilppppkjenaaaW.PrintLast Go.Proofs.YtpilppppkjenaaaW.PrintMore
set_option linter.unusedVariables false
set_option linter.unusedSimpArgs false

/-- A room has as many cells as its box. -/
def full (p : List ByteArray) (H W a : Nat) : Prop := (cnt (vat (p.map bnum) W) a (H * W) : Int) = (bxo (vat (p.map bnum) W) W a (H * W) - bxt (vat (p.map bnum) W) W H a (H * W) + 1) * (bxr (vat (p.map bnum) W) W a (H * W) - bxl (vat (p.map bnum) W) W a (H * W) + 1)
theorem box_prod {p : List ByteArray} {H W : Nat} (h : Gr p H W) (a : Nat) : -10000 ≤ (bxo (vat (p.map bnum) W) W a (H * W) - bxt (vat (p.map bnum) W) W H a (H * W) + 1) * (bxr (vat (p.map bnum) W) W a (H * W) - bxl (vat (p.map bnum) W) W a (H * W) + 1) ∧ (bxo (vat (p.map bnum) W) W a (H * W) - bxt (vat (p.map bnum) W) W H a (H * W) + 1) * (bxr (vat (p.map bnum) W) W a (H * W) - bxl (vat (p.map bnum) W) W a (H * W) + 1) ≤ 10000 := by
  have hc6 := h.w6
  have hi6 := h.h6
  have hw1 := h.w1
  obtain ⟨b, -⟩ := bx_lies (vat (p.map bnum) W) W H a (by omega) (H * W) (Nat.le_refl _)
  generalize bxo (vat (p.map bnum) W) W a (H * W) = o at *
  generalize bxt (vat (p.map bnum) W) W H a (H * W) = t at *
  generalize bxr (vat (p.map bnum) W) W a (H * W) = r at *
  generalize bxl (vat (p.map bnum) W) W a (H * W) = l at *
  have hx : ∃ x : Int, o - t + 1 = x ∧ -6 ≤ x ∧ x ≤ 6 := ⟨_, rfl, by omega, by omega⟩
  have hy : ∃ x : Int, r - l + 1 = x ∧ -6 ≤ x ∧ x ≤ 6 := ⟨_, rfl, by omega, by omega⟩
  obtain ⟨x, ex, x1, x2⟩ := hx
  obtain ⟨y, ey, y1, y2⟩ := hy
  rw [ex, ey]
  have hx : x = -6 ∨ x = -5 ∨ x = -4 ∨ x = -3 ∨ x = -2 ∨ x = -1 ∨ x = 0 ∨ x = 1 ∨ x = 2 ∨ x = 3 ∨ x = 4 ∨ x = 5 ∨ x = 6 := by omega
  rcases hx with rfl | rfl | rfl | rfl | rfl | rfl | rfl | rfl | rfl | rfl | rfl | rfl | rfl <;> omega
theorem rooms_loop {p : List ByteArray} {H W : Nat} (h : Nm p H W) : ∀ d r, r + d = lat (p.map bnum) W (H * W) → ∀ b : Bool, (b = true ↔ ∀ a, r ≤ a → a < lat (p.map bnum) W (H * W) → full p H W a) → Ends (fun k => spec_PlanIn.l0 k p (r : Int)) b := by
  have hn := lat_le (p.map bnum) W (H * W)
  have hc6 := h.w6
  have hi6 := h.h6
  have h36 := Nat.mul_le_mul hi6 hc6
  have hro := rooms_ends h
  intro d
  induction d with
  | zero =>
    intro r e b hb
    have hbt : b = true := hb.2 (fun a h1 h2 => by omega)
    subst hbt
    refine Ends.back (G := fun k => (spec_l1Rooms.f k p).bind (fun t => if (r : Int) < t then ((spec_l1Room.f k p r).bind fun bt168 => ((spec_l1Cells.f k p r).bind fun t172 => (if t172 = (wrap64 (bt168.2.2.1 * bt168.2.2.2)) then (spec_PlanIn.l0 k p (wrap64 ((r : Int) + 1))) else (some false)))) else (some true))) (fun k => rfl) (Ends.bind hro ?_)
    refine Ends.all (fun k => ?_)
    rw [if_neg (by omega)]
  | succ d ih =>
    intro r e b hb
    refine Ends.back (G := fun k => (spec_l1Rooms.f k p).bind (fun t => if (r : Int) < t then ((spec_l1Room.f k p r).bind fun bt168 => ((spec_l1Cells.f k p r).bind fun t172 => (if t172 = (wrap64 (bt168.2.2.1 * bt168.2.2.2)) then (spec_PlanIn.l0 k p (wrap64 ((r : Int) + 1))) else (some false)))) else (some true))) (fun k => rfl) (Ends.bind hro ?_)
    refine Ends.yes (by omega) ?_
    refine Ends.bind (room_ends h r) (Ends.bind (cells_ends h r) ?_)
    have hp := box_prod h.toGr r
    have hwr := w64 _ ⟨Int.le_trans (by decide) hp.1, Int.le_trans hp.2 (by decide)⟩
    by_cases hf : full p H W r
    · refine Ends.yes (Eq.trans hf hwr.symm) ?_
      rw [w64 _ (by omega), nat1]
      refine ih (r + 1) (by omega) b (hb.trans ⟨fun x a h1 h2 => x a (by omega) h2, fun x a h1 h2 => ?_⟩)
      by_cases ea : a = r
      · rw [ea]; exact hf
      · exact x a (by omega) h2
    · refine Ends.no (fun x => hf (Eq.trans x hwr)) ?_
      have hbf : b = false := Bool.eq_false_iff.2 (fun x => hf (hb.1 x r (Nat.le_refl _) (by omega)))
      rw [hbf]
      exact Ends.all (fun k => rfl)
theorem fine_iff {p : List ByteArray} {H W : Nat} (h : Gr p H W) (h9 : lat (p.map bnum) W (H * W) ≤ 9) : fine (p.map bnum) = true ↔ ∀ a, a < lat (p.map bnum) W (H * W) → full p H W a := by
  have hl : (p.map bnum).length = H := by rw [List.length_map]; exact h.len
  have hw := h.wid
  have hw1 := h.w1
  have hr : roomsOf (p.map bnum) = (run (p.map bnum) W (H * W)).2 := by unfold roomsOf; rw [hw, hl]
  have hC := cw (p.map bnum) W
  have hlen := hC.len (H * W)
  have hfi := full_iff (H := H) hC (by omega)
  have hrows : ∀ l ∈ p.map bnum, l.length = W := fun l hm => by
    obtain ⟨s, hs, rfl⟩ := List.mem_map.1 hm
    obtain ⟨i, hi, rfl⟩ := List.getElem_of_mem hs
    rw [bnum_len]
    exact h.row i hi
  have h1 := h.h1
  have h6 := h.h6
  have w6 := h.w6
  unfold fine
  rw [hl, hw, hr]
  have e1 : (decide (1 ≤ H ∧ H ≤ 6 ∧ 1 ≤ W ∧ W ≤ 6 ∧ (∀ l ∈ p.map bnum, l.length = W) ∧ (run (p.map bnum) W (H * W)).2.length ≤ 9 ∧ area (run (p.map bnum) W (H * W)).2 = (H : Int) * (W : Int)) = true) ↔ area (run (p.map bnum) W (H * W)).2 = ((H * W : Nat) : Int) := by
    rw [decide_eq_true_iff, Int.natCast_mul]
    exact ⟨fun x => x.2.2.2.2.2.2, fun x => ⟨h1, h6, hw1, w6, hrows, by rw [hlen]; exact h9, x⟩⟩
  rw [e1, hfi]
  have key : ∀ a, a < lat (p.map bnum) W (H * W) → (((cnt (vat (p.map bnum) W) a (H * W) : Nat) : Int) = ((run (p.map bnum) W (H * W)).2.getD a ⟨0, 0, 0, 0⟩).h * ((run (p.map bnum) W (H * W)).2.getD a ⟨0, 0, 0, 0⟩).w ↔ full p H W a) := fun a ha => by
    have hg : (run (p.map bnum) W (H * W)).2[a]? = some ((run (p.map bnum) W (H * W)).2.getD a ⟨0, 0, 0, 0⟩) := by rw [List.getD_eq_getElem?_getD, List.getElem?_eq_getElem (by omega)]; rfl
    obtain ⟨x1, x2, x3, x4, x5, x6⟩ := (box_is (H := H) hC (by omega) a (H * W) (Nat.le_refl _)).1 _ hg
    generalize (run (p.map bnum) W (H * W)).2.getD a ⟨0, 0, 0, 0⟩ = y at *
    unfold full
    rw [show bxo (vat (p.map bnum) W) W a (H * W) - bxt (vat (p.map bnum) W) W H a (H * W) + 1 = y.h by omega, show bxr (vat (p.map bnum) W) W a (H * W) - bxl (vat (p.map bnum) W) W a (H * W) + 1 = y.w by omega]
  exact ⟨fun x a ha => (key a ha).1 (x a ha), fun x a ha => (key a ha).2 (x a ha)⟩
theorem lets_all {p : List ByteArray} (h : rfine p = true) : gridOk p = true := by
  unfold rfine at h
  rw [Bool.and_eq_true] at h
  obtain ⟨h1, h2⟩ := h
  obtain ⟨f1, f2, f3, f4, f5, f6, f7⟩ := of_decide_eq_true h2
  rw [List.length_map] at f1 f2
  unfold gridOk
  rw [Bool.and_eq_true]
  refine ⟨?_, decide_eq_true ⟨f1, f2⟩⟩
  rw [List.all_eq_true] at h1 ⊢
  intro s hs
  unfold rowOk
  rw [Bool.and_eq_true]
  have := f5 _ (List.mem_map_of_mem (f := bnum) hs)
  rw [bnum_len] at this
  exact ⟨decide_eq_true (by omega), h1 s hs⟩
theorem not_true {b : Bool} {P : Prop} (h : b = true → P) (hn : ¬ P) : b = false := Bool.eq_false_iff.2 (fun x => hn (h x))
theorem ffine_r {p : List ByteArray} (h : ffine p = true) : rfine p = true ∧ rowTexts p = p := by
  unfold ffine at h
  rw [Bool.and_eq_true] at h
  exact ⟨h.1, of_decide_eq_true h.2⟩
theorem rooms_lat {p : List ByteArray} {H W : Nat} (h : Gr p H W) : (roomsT p).length = lat (p.map bnum) W (H * W) := by
  unfold roomsT roomsOf lat
  rw [h.wid, List.length_map, h.len, run_two]
theorem j0_false (k : Nat) (p : List ByteArray) : spec_PlanIn.j0 (k + 1) p true = some false := by
  simp only [spec_PlanIn.j0]
  rfl
theorem planin_ends (p : List ByteArray) (hb : p.length ≤ 4000000) (hs : ∀ s ∈ p, s.size ≤ 4000000) : Ends (fun k => spec_PlanIn.f k p) (ffine p) := by
  have hg := grid_ends p hb hs
  refine Ends.bind hg ?_
  cases hgo : gridOk p with
  | false =>
    have hff : ffine p = false := not_true (fun x => lets_all (ffine_r x).1) (by rw [hgo]; simp)
    rw [hff]
    exact Ends.no (fun x => by cases x) (Ends.now (fun k => j0_false k p))
  | true =>
    refine Ends.yes rfl ?_
    have h := gr_of hgo
    refine Ends.bind h.names (Ends.bind (same_ends _ _ ?_) ?_)
    · unfold rowTexts
      rw [List.length_map, numsOf_len, List.length_map]
      exact hb
    by_cases hsm : rowTexts p = p
    · rw [decide_eq_true hsm]
      refine Ends.yes rfl ?_
      have hN : Nm p p.length (wid (p.map bnum)) := ⟨h, hsm⟩
      refine Ends.bind (rooms_ends hN) ?_
      have hrf : ffine p = fine (p.map bnum) := by
        unfold ffine rfine
        rw [decide_eq_true hsm, h.lets, Bool.true_and, Bool.and_true]
      by_cases h9 : lat (p.map bnum) (wid (p.map bnum)) (p.length * wid (p.map bnum)) ≤ 9
      · rw [decide_eq_false (by omega)]
        refine Ends.back (G := fun k => spec_PlanIn.l0 k p 0) (fun k => ?_) ?_
        · simp only [spec_PlanIn.j0]
          rw [if_neg (by simp)]
        · refine rooms_loop hN _ 0 (Nat.zero_add _) _ ?_
          rw [hrf, fine_iff h h9]
          exact ⟨fun x a _ ha => x a ha, fun x a ha => x a (Nat.zero_le _) ha⟩
      · rw [decide_eq_true (by omega)]
        have hff : ffine p = false := not_true (fun x => (rooms_ok (ffine_fine x)).2) (by
          have := rooms_lat h
          unfold roomsT at this
          omega)
        rw [hff]
        exact Ends.now (fun k => j0_false k p)
    · have hff : ffine p = false := not_true (fun x => (ffine_r x).2) hsm
      rw [decide_eq_false hsm, hff]
      exact Ends.no (fun x => by cases x) (Ends.now (fun k => j0_false k p))

/-! ### the law's own functions -/
theorem copy_l0 (d : Nat) : ∀ (p : List ByteArray) (i : Nat) (q : List ByteArray), i + d = p.length → q.length = p.length → q.take i = p.take i → p.length ≤ 4000000 → Ends (fun k => laws_toStringS.l0 k p q (i : Int)) p := by
  induction d with
  | zero =>
    intro p i q e hl ht hb
    have hpq : q = p := by
      rw [← List.take_of_length_le (l := q) (i := i) (by omega), ht, List.take_of_length_le (by omega)]
    refine Ends.now (fun k => ?_)
    simp only [laws_toStringS.l0]
    rw [if_neg (by omega), hpq]
  | succ d ih =>
    intro p i q e hl ht hb
    have hi : i < p.length := by omega
    refine Ends.back (fun k => ?_) (ih p (i + 1) (q.set i p[i]) (by omega) (by simpa using hl) ?_ hb)
    · simp only [laws_toStringS.l0]
      rw [if_pos (by omega), if_pos (by omega), if_pos (by omega), rd_str hi, w64 _ (by omega), nat1]
      rfl
    · rw [List.take_succ_eq_append_getElem (by simpa using (by omega : i < q.length)), List.getElem_set_self, List.take_set_of_le (Nat.le_refl i), ht, List.take_succ_eq_append_getElem hi]
theorem copy_ends (p : List ByteArray) (hb : p.length ≤ 4000000) : Ends (fun k => laws_toStringS.f k p) p := by
  refine Ends.same (fun k => ?_) (copy_l0 p.length p 0 (List.replicate p.length (⟨#[]⟩ : ByteArray)) (by omega) (by simp) rfl hb)
  show laws_toStringS.f k p = _
  unfold laws_toStringS.f
  rw [if_pos (by omega), if_pos (by omega)]
  rfl
theorem eq_l0 (p q : List ByteArray) (h : p.length = q.length) (hb : p.length ≤ 4000000) : ∀ (n i k : Nat), i + n = p.length → n < k → laws_eqStringS.l0 k p q (i : Nat) = some (decide (p.drop i = q.drop i))
  | 0, i, k + 1, e, _ => by
    unfold laws_eqStringS.l0
    rw [if_neg (by omega), List.drop_eq_nil_of_le (by omega), List.drop_eq_nil_of_le (by omega)]
    simp
  | n + 1, i, k + 1, e, hk => by
    have hi : i < p.length := by omega
    unfold laws_eqStringS.l0
    rw [if_pos (by omega), if_pos (by omega), if_pos (by omega), rd_str hi, rd_str (h ▸ hi)]
    have hd := drop_two hi (h ▸ hi)
    by_cases c : p[i] = q[i]'(h ▸ hi)
    · rw [if_pos (bytes_ext.2 c), w64 _ (by omega)]
      have := eq_l0 p q h hb n (i + 1) k (by omega) (by omega)
      rw [Int.natCast_add] at this
      refine this.trans ?_
      congr 1
      exact decide_eq_decide.2 ⟨fun x => hd.2 ⟨c, x⟩, fun x => (hd.1 x).2⟩
    · rw [if_neg (fun x => c (bytes_ext.1 x))]
      congr 1
      exact (decide_eq_false (fun x => c (hd.1 x).1)).symm
theorem eq_ends (p q : List ByteArray) (hb : p.length ≤ 4000000) : Ends (fun k => laws_eqStringS.f k p q) (decide (p = q)) := by
  refine ⟨p.length + 1, fun k hk => ?_⟩
  show laws_eqStringS.f k p q = _
  unfold laws_eqStringS.f
  by_cases h : p.length = q.length
  · rw [if_pos (by omega)]
    exact eq_l0 p q h hb p.length 0 _ (by omega) (by omega)
  · rw [if_neg (by omega)]
    congr 1
    exact (decide_eq_false (fun x => h (by rw [x]))).symm
theorem refl_ends (p : List ByteArray) (hb : p.length ≤ 4000000) : Ends (fun k => laws_eqStringS.f k p p) true := by
  have := eq_ends p p hb
  rw [decide_eq_true rfl] at this
  exact this
theorem sz_l0 (p : List ByteArray) (hb : p.length ≤ 9223372036854775807) (hz : ∀ s ∈ p, s.size ≤ 9223372036854775807) : ∀ (d i : Nat) (a : Int), i + d = p.length → 0 ≤ a → a ≤ 1048576 → ∃ r, Ends (fun k => laws_szStringS.l0 k p a (i : Int)) r ∧ (r < 0 ∨ ∀ s ∈ p.drop i, s.size ≤ 4000000)
  | 0, i, a, e, h0, h1 => by
    refine ⟨a, Ends.now (fun k => ?_), .inr ?_⟩
    · simp only [laws_szStringS.l0]
      rw [if_neg (by omega)]
    · rw [List.drop_eq_nil_of_le (by omega)]
      simp
  | d + 1, i, a, e, h0, h1 => by
    have hi : i < p.length := by omega
    have hzi := hz _ (List.getElem_mem hi)
    by_cases hn : a - (p[i].size : Int) < 0
    · refine ⟨-1, Ends.now (fun k => ?_), .inl (by omega)⟩
      simp only [laws_szStringS.l0]
      rw [if_pos (by omega), if_pos (by omega), rd_str hi, w64 _ (by omega), if_pos hn]
    · obtain ⟨r, hr, hd⟩ := sz_l0 p hb hz d (i + 1) (a - (p[i].size : Int)) (by omega) (by omega) (by omega)
      refine ⟨r, Ends.back (fun k => ?_) hr, hd.imp id (fun h => ?_)⟩
      · simp only [laws_szStringS.l0]
        rw [if_pos (by omega), if_pos (by omega), rd_str hi, w64 (_ - _) (by omega), if_neg hn, w64 _ (by omega), nat1]
      · rw [List.drop_eq_getElem_cons hi]
        intro s hs
        rcases List.mem_cons.1 hs with rfl | hs
        · omega
        · exact h s hs
/-- The law's size test: either it tells 'too large', or the texts are small. -/
theorem sz_ends (p : List ByteArray) (hb : p.length ≤ 9223372036854775807) (hz : ∀ s ∈ p, s.size ≤ 9223372036854775807) : ∃ r, Ends (fun k => laws_szStringS.f k p 1048576) r ∧ (r < 0 ∨ small p = true) := by
  by_cases hn : (1048576 : Int) - (p.length : Int) < 0
  · refine ⟨-1, Ends.all (fun k => ?_), .inl (by omega)⟩
    unfold laws_szStringS.f
    rw [w64 _ (by omega), if_pos hn]
  · obtain ⟨r, hr, hd⟩ := sz_l0 p hb hz p.length 0 (1048576 - (p.length : Int)) (by omega) (by omega) (by omega)
    refine ⟨r, Ends.same (fun k => ?_) hr, hd.imp id (fun h => ?_)⟩
    · show laws_szStringS.f k p 1048576 = _
      unfold laws_szStringS.f
      rw [w64 _ (by omega), if_neg hn]
      rfl
    · rw [List.drop_zero] at h
      exact decide_eq_true ⟨by omega, h⟩
end Go.Proofs.Ytpilppppkjenaaa.QaL

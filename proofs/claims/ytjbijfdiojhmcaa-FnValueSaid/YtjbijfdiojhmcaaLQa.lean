/- Lemmas on sheets, draws and rows. -/
import Derived.Test.YtjbijfdiojhmcaaQa3
import Derived.Test.YtjbijfdiojhmcaaQa2
import Derived.Test.YtjbijfdiojhmcaaQa1
namespace Go.Proofs.Ytjbijfdiojhmcaa.QaL
open Go.RowKit Go.Proofs.Ytjbijfdiojhmcaa.Qa Go.Proofs.YtjbijfdiojhmcaaW.PrintWords Go.Proofs.YtjbijfdiojhmcaaW.PrintLast Go.Proofs.YtjbijfdiojhmcaaW.PrintMore

def inS (x : Int) : Bool := decide (1 ≤ x) && decide (x ≤ 12)

theorem inS_iff (x : Int) : inS x = true ↔ 1 ≤ x ∧ x ≤ 12 := by unfold inS; simp

theorem l6In_eq (a b c : Int) : spec_l6In.f a b c = some (decide (b ≤ a) && decide (a ≤ c)) := by
  unfold spec_l6In.f
  by_cases h : b ≤ a
  · rw [if_pos h]; simp [h]
  · rw [if_neg h]; simp [h]

theorem l9Sheet_eq (a b : Int) : spec_l9Sheet.f a b = some (inS a && inS b) := by
  unfold spec_l9Sheet.f inS
  rw [l6In_eq, l6In_eq]
  simp only [Option.bind_some]
  cases h : (decide (1 ≤ a) && decide (a ≤ 12)) <;> simp

theorem sized_step (k : Nat) (l : List Int) (i : Nat) (h : i < l.length) (hb : l.length ≤ 140737488351232) :
    impl_sized.l0 (k + 1) l l.length i = if inS (l.getD i 0) = true then impl_sized.l0 k l l.length ((i + 1 : Nat) : Int) else some false := by
  simp only [impl_sized.l0]
  rw [if_pos (by omega), if_pos (by omega), if_pos (by omega)]
  have e : rd l (i : Int) = l.getD i 0 := by simp [rd]
  have ew : wrap64 ((i : Int) + 1) = ((i + 1 : Nat) : Int) := by unfold wrap64; omega
  rw [e, ew]
  generalize l.getD i 0 = x
  by_cases h1 : x < 1
  · rw [if_pos h1, if_neg (by rw [inS_iff]; omega)]
  · rw [if_neg h1]
    by_cases h2 : x > 12
    · rw [if_pos h2, if_neg (by rw [inS_iff]; omega)]
    · rw [if_neg h2, if_pos (by rw [inS_iff]; omega)]

theorem sized_from (l : List Int) (hb : l.length ≤ 140737488351232) (d : Nat) : ∀ (k i : Nat), i ≤ l.length → l.length - i = d → d < k →
    impl_sized.l0 k l l.length (i : Int) = some ((l.drop i).all inS) := by
  induction d with
  | zero =>
    intro k i hi hd hk
    obtain ⟨k, rfl⟩ : ∃ m, k = m + 1 := ⟨k - 1, by omega⟩
    obtain rfl : i = l.length := by omega
    simp only [impl_sized.l0]
    rw [if_neg (by omega)]
    simp
  | succ d ih =>
    intro k i hi hd hk
    obtain ⟨k, rfl⟩ : ∃ m, k = m + 1 := ⟨k - 1, by omega⟩
    have hlt : i < l.length := by omega
    rw [sized_step k l i hlt hb]
    have e : l.drop i = l.getD i 0 :: l.drop (i + 1) := by
      rw [List.drop_eq_getElem_cons hlt, List.getD_eq_getElem?_getD, List.getElem?_eq_getElem hlt]; rfl
    rw [e, List.all_cons]
    cases inS (l.getD i 0)
    · simp
    · simp only [if_true, Bool.true_and]
      exact ih k (i + 1) (by omega) (by omega) (by omega)

theorem sized_eq (l : List Int) (hb : l.length ≤ 140737488351232) (k : Nat) (hk : l.length < k) : impl_sized.f k l = some (l.all inS) := by
  unfold impl_sized.f
  have := sized_from l hb l.length k 0 (by omega) (by omega) hk
  simpa using this

theorem w64 (x : Int) (h : -9223372036854775808 ≤ x ∧ x ≤ 9223372036854775807) : wrap64 x = x := by unfold wrap64; omega

theorem xor_pos (a b : Int) (ha : 0 ≤ a) (hb : 0 ≤ b) (ha2 : a < 9223372036854775808) (hb2 : b < 9223372036854775808) : 0 ≤ Go.bits .xor .i64 a b := by
  obtain ⟨a, rfl⟩ := Int.eq_ofNat_of_zero_le ha
  obtain ⟨b, rfl⟩ := Int.eq_ofNat_of_zero_le hb
  have hx : a ^^^ b < 2 ^ 63 := Nat.xor_lt_two_pow (by omega) (by omega)
  have h1 : (BitVec.ofInt 64 (a : Int)).toNat = a := by
    rw [BitVec.ofInt_natCast, BitVec.toNat_ofNat]; exact Nat.mod_eq_of_lt (by omega)
  have h2 : (BitVec.ofInt 64 (b : Int)).toNat = b := by
    rw [BitVec.ofInt_natCast, BitVec.toNat_ofNat]; exact Nat.mod_eq_of_lt (by omega)
  show 0 ≤ IntKind.i64.wrap ((BitVec.ofInt 64 (a : Int) ^^^ BitVec.ofInt 64 (b : Int)).toNat : Int)
  rw [BitVec.toNat_xor, h1, h2]
  simp [IntKind.wrap, IntKind.bits, IntKind.signed]
  omega

def Bytes (l : List Int) : Prop := ∀ x ∈ l, 0 ≤ x ∧ x ≤ 255

theorem bytes_rd {l : List Int} (h : Bytes l) (i : Int) : 0 ≤ rd l i ∧ rd l i ≤ 255 := by
  unfold rd
  by_cases hi : i.toNat < l.length
  · rw [List.getD_eq_getElem?_getD, List.getElem?_eq_getElem hi]
    exact h _ (List.getElem_mem hi)
  · rw [List.getD_eq_getElem?_getD, List.getElem?_eq_none (by omega)]
    simp

theorem tmod_range (a n : Int) (ha : 0 ≤ a) (hn : 1 ≤ n) : 0 ≤ a.tmod n ∧ a.tmod n < n := by
  rw [Int.tmod_eq_emod_of_nonneg ha]
  exact ⟨Int.emod_nonneg _ (by omega), Int.emod_lt_of_pos _ (by omega)⟩

theorem pick_gives (l : List Int) (hl : Bytes l) (hll : l.length ≤ 2000) (p n : Int) (k : Nat) (hp : 0 ≤ p) (hp2 : p ≤ 1000000) (hn : 1 ≤ n) (hn2 : n ≤ 1000000) (hk : 1 ≤ k) :
    ∃ r, spec_l6Rd_pick.f k l p n = some (r, p + 1) ∧ 0 ≤ r ∧ r < n := by
  obtain ⟨k, rfl⟩ : ∃ m, k = m + 1 := ⟨k - 1, by omega⟩
  unfold spec_l6Rd_pick.f
  rw [if_neg (by omega)]
  have ew : wrap64 (p + 1) = p + 1 := by unfold wrap64; omega
  have ew1 : wrap64 (p + 1 - 1) = p := by unfold wrap64; omega
  rw [ew]
  simp only [spec_l6Rd_pick.j0]
  rw [ew1]
  by_cases h0 : ((l.length : Int) == 0) = true
  · rw [if_pos h0]
    exact ⟨0, rfl, by omega, by omega⟩
  · rw [if_neg h0]
    have hne : ¬ (l.length : Int) = 0 := by simpa using h0
    have hr0 := bytes_rd hl
    have ewr : ∀ i, wrap64 (rd l i) = rd l i := fun i => by have := hr0 i; unfold wrap64; omega
    by_cases h1 : p < (l.length : Int)
    · rw [if_pos h1, if_pos hp, if_neg (by omega), ewr]
      exact ⟨_, rfl, tmod_range _ _ (hr0 _).1 hn⟩
    · rw [if_neg h1, if_neg hne]
      have e7 : wrap64 (wrap64 (p * 7) + 3) = p * 7 + 3 := by unfold wrap64; omega
      rw [e7]
      have q1 := tmod_range p (l.length : Int) hp (by omega)
      have q2 := tmod_range (p * 7 + 3) (l.length : Int) (by omega) (by omega)
      rw [if_pos q1.1, if_pos q1.2, if_pos q2.1, if_pos q2.2, if_neg (by omega)]
      refine ⟨_, rfl, ?_⟩
      have d1 : 0 ≤ p.tdiv (l.length : Int) ∧ p.tdiv (l.length : Int) ≤ p := by
        rw [Int.tdiv_eq_ediv_of_nonneg hp]
        exact ⟨Int.ediv_nonneg hp (by omega), Int.ediv_le_self _ hp⟩
      have b1 := hr0 (p.tmod (l.length : Int))
      have b2 := hr0 ((p * 7 + 3).tmod (l.length : Int))
      rw [ewr, ewr]
      generalize rd l (p.tmod (l.length : Int)) = u at *
      generalize rd l ((p * 7 + 3).tmod (l.length : Int)) = v at *
      generalize p.tdiv (l.length : Int) = q at *
      clear ew ew1 e7
      have eX : ∃ X, wrap64 (wrap64 (wrap64 (wrap64 (u * 131) + wrap64 (v * 1117)) + wrap64 (p * 29)) + wrap64 (wrap64 q * 53)) = X ∧ 0 ≤ X ∧ X < 9223372036854775808 := by
        rw [w64 (u * 131) (by omega), w64 (v * 1117) (by omega), w64 (p * 29) (by omega), w64 q (by omega), w64 (q * 53) (by omega), w64 (u * 131 + v * 1117) (by omega),
          w64 (u * 131 + v * 1117 + p * 29) (by omega), w64 (u * 131 + v * 1117 + p * 29 + q * 53) (by omega)]
        exact ⟨_, rfl, by omega, by omega⟩
      obtain ⟨X, eX, x0, x1⟩ := eX
      rw [eX]
      have eY : ∃ Y, wrap64 (X.tdiv 64) = Y ∧ 0 ≤ Y ∧ Y < 9223372036854775808 := by
        rw [Int.tdiv_eq_ediv_of_nonneg x0, w64 (X / 64) (by omega)]
        exact ⟨_, rfl, by omega, by omega⟩
      obtain ⟨Y, eY, y0, y1⟩ := eY
      rw [eY]
      exact tmod_range _ _ (xor_pos X Y x0 y0 x1 y1) hn

theorem open_gives (l : List Int) (hl : Bytes l) : ∃ b, spec_l6Open.f l = some (b, 0) ∧ Bytes b ∧ b.length ≤ 2000 := by
  unfold spec_l6Open.f
  by_cases h : (l.length : Int) > 2000
  · rw [if_pos h, if_pos (by omega)]
    exact ⟨_, rfl, fun x hx => hl x (List.mem_of_mem_take hx), by simp; omega⟩
  · rw [if_neg h]
    exact ⟨_, rfl, hl, by omega⟩

theorem bytes_of_wf {l : List Int} (h : ∀ x ∈ l, (Lit.int .u8 x).wf = true) : Bytes l := by
  intro x hx
  have := h x hx
  have hmin : IntKind.u8.min = 0 := rfl
  have hmax : IntKind.u8.max = 255 := rfl
  simp only [Lit.wf, Bool.and_eq_true, decide_eq_true_eq] at this
  omega

def sRows (w h a b : Int) : Int := mx (wrap64 ((wrap64 (Int.tdiv w a)) * (wrap64 (Int.tdiv h b)))) (wrap64 ((wrap64 (Int.tdiv w b)) * (wrap64 (Int.tdiv h a))))

theorem impl_rows_eq (k : Nat) (hk : 5 ≤ k) (w h a b : Int) :
    impl_SheetRows.f k w h a b = if (inS w && inS h && inS a && inS b) = true then some (sRows w h a b, true) else some (0, false) := by
  unfold impl_SheetRows.f
  rw [sized_eq _ (by simp) k (by simp; omega)]
  simp only [Option.bind_some, List.all_cons, List.all_nil, Bool.and_true]
  have e : (inS w && (inS h && (inS a && inS b))) = (inS w && inS h && inS a && inS b) := by simp only [Bool.and_assoc]
  rw [e]
  by_cases hh : (inS w && inS h && inS a && inS b) = true
  · rw [if_pos hh, if_pos hh]
    simp only [Bool.and_eq_true, inS_iff] at hh
    rw [if_neg (by omega), if_neg (by omega)]
    rfl
  · rw [if_neg hh, if_neg hh]

theorem spec_rows_eq (w h a b : Int) :
    spec_SheetRows.f w h a b = if (inS w && inS h && inS a && inS b) = true then some (sRows w h a b, true) else some (0, false) := by
  unfold spec_SheetRows.f
  rw [l9Sheet_eq, l9Sheet_eq]
  simp only [Option.bind_some]
  by_cases h1 : (inS w && inS h) = true
  · rw [if_pos h1]
    by_cases h2 : (inS a && inS b) = true
    · have hh : (inS w && inS h && inS a && inS b) = true := by rw [h1, Bool.true_and]; exact h2
      rw [if_pos h2, if_pos hh]
      simp only [Bool.and_eq_true, inS_iff] at hh
      rw [if_neg (by omega), if_neg (by omega)]
      rfl
    · rw [if_neg h2, if_neg (by rw [h1, Bool.true_and]; exact h2)]
  · rw [if_neg h1, if_neg (by simp only [Bool.and_eq_true] at h1 ⊢; intro hh; exact h1 ⟨hh.1.1.1, hh.1.1.2⟩)]

theorem tdiv_small (w a : Int) (hw : 1 ≤ w ∧ w ≤ 12) (ha : 1 ≤ a ∧ a ≤ 12) : wrap64 (w.tdiv a) = w / a ∧ 0 ≤ w / a ∧ w / a ≤ 12 := by
  have e : w.tdiv a = w / a := Int.tdiv_eq_ediv_of_nonneg (by omega)
  have h0 : 0 ≤ w / a := Int.ediv_nonneg (by omega) (by omega)
  have h1 : w / a ≤ w := Int.ediv_le_self _ (by omega)
  rw [e]
  exact ⟨by unfold wrap64; omega, h0, by omega⟩

theorem prod_small (x y : Int) (hx : 0 ≤ x ∧ x ≤ 12) (hy : 0 ≤ y ∧ y ≤ 12) : wrap64 (x * y) = x * y ∧ 0 ≤ x * y := by
  have h0 : 0 ≤ x * y := Int.mul_nonneg hx.1 hy.1
  have h1 : x * y ≤ 12 * 12 := Int.mul_le_mul hx.2 hy.2 hy.1 (by omega)
  exact ⟨by unfold wrap64; omega, h0⟩

theorem sRows_eq (w h a b : Int) (hw : 1 ≤ w ∧ w ≤ 12) (hh : 1 ≤ h ∧ h ≤ 12) (ha : 1 ≤ a ∧ a ≤ 12) (hb : 1 ≤ b ∧ b ≤ 12) :
    sRows w h a b = mx ((w / a) * (h / b)) ((w / b) * (h / a)) := by
  unfold sRows
  have t1 := tdiv_small w a hw ha
  have t2 := tdiv_small h b hh hb
  have t3 := tdiv_small w b hw hb
  have t4 := tdiv_small h a hh ha
  rw [t1.1, t2.1, t3.1, t4.1, (prod_small _ _ t1.2 t2.2).1, (prod_small _ _ t3.2 t4.2).1]

theorem div_zero_iff (w a : Int) (hw : 0 ≤ w) (ha : 1 ≤ a) : w / a = 0 ↔ w < a := by
  constructor
  · intro h
    have := Int.lt_ediv_add_one_mul_self w (show 0 < a by omega)
    rw [h] at this
    omega
  · intro h
    exact Int.ediv_eq_zero_of_lt hw h

theorem mx_zero (x y : Int) (hx : 0 ≤ x) (hy : 0 ≤ y) : mx x y = 0 ↔ x = 0 ∧ y = 0 := by unfold mx; split <;> omega

theorem sRows_zero (w h a b : Int) (hw : 1 ≤ w ∧ w ≤ 12) (hh : 1 ≤ h ∧ h ≤ 12) (ha : 1 ≤ a ∧ a ≤ 12) (hb : 1 ≤ b ∧ b ≤ 12) :
    sRows w h a b = 0 ↔ ((a > w ∨ b > h) ∧ (a > h ∨ b > w)) := by
  rw [sRows_eq w h a b hw hh ha hb]
  have t1 := tdiv_small w a hw ha
  have t2 := tdiv_small h b hh hb
  have t3 := tdiv_small w b hw hb
  have t4 := tdiv_small h a hh ha
  rw [mx_zero _ _ (prod_small _ _ t1.2 t2.2).2 (prod_small _ _ t3.2 t4.2).2, Int.mul_eq_zero, Int.mul_eq_zero,
    div_zero_iff _ _ (by omega) ha.1, div_zero_iff _ _ (by omega) hb.1, div_zero_iff _ _ (by omega) ha.1, div_zero_iff _ _ (by omega) hb.1]
  omega

theorem sRows_turn (w h a b : Int) (hw : 1 ≤ w ∧ w ≤ 12) (hh : 1 ≤ h ∧ h ≤ 12) (ha : 1 ≤ a ∧ a ≤ 12) (hb : 1 ≤ b ∧ b ≤ 12) :
    sRows h w a b = sRows w h a b := by
  rw [sRows_eq w h a b hw hh ha hb, sRows_eq h w a b hh hw ha hb, Int.mul_comm (h / a), Int.mul_comm (h / b)]
  unfold mx
  split <;> split <;> omega

theorem draw_sheet (l : List Int) (hl : Bytes l) (k : Nat) (hk : 1 ≤ k) : ∃ r, spec_l92Sheet.f k l = some r := by
  obtain ⟨b, hb, hbb, hbl⟩ := open_gives l hl
  unfold spec_l92Sheet.f
  rw [hb]
  simp only [Option.bind_some]
  obtain ⟨r1, h1, _, _⟩ := pick_gives b hbb hbl 0 12 k (by omega) (by omega) (by omega) (by omega) hk
  rw [h1]; simp only [Option.bind_some]
  obtain ⟨r2, h2, _, _⟩ := pick_gives b hbb hbl (0 + 1) 40 k (by omega) (by omega) (by omega) (by omega) hk
  rw [h2]; simp only [Option.bind_some]
  obtain ⟨r3, h3, _, _⟩ := pick_gives b hbb hbl (0 + 1 + 1) 12 k (by omega) (by omega) (by omega) (by omega) hk
  rw [h3]; simp only [Option.bind_some]
  obtain ⟨r4, h4, _, _⟩ := pick_gives b hbb hbl (0 + 1 + 1 + 1) 5 k (by omega) (by omega) (by omega) (by omega) hk
  rw [h4]; simp only [Option.bind_some]
  obtain ⟨r5, h5, _, _⟩ := pick_gives b hbb hbl (0 + 1 + 1 + 1 + 1) 6 k (by omega) (by omega) (by omega) (by omega) hk
  rw [h5]; simp only [Option.bind_some]
  obtain ⟨r6, h6, _, _⟩ := pick_gives b hbb hbl (0 + 1 + 1 + 1 + 1 + 1) 40 k (by omega) (by omega) (by omega) (by omega) hk
  rw [h6]; simp only [Option.bind_some]
  exact ⟨_, rfl⟩

def gr : Nat → Int → Int → Int
  | 0, _, _ => 0
  | d + 1, w, h => if 0 < w ∧ 0 < h then (if w < h then h / w + gr d (h % w) w else w / h + gr d (w % h) h) else 0

theorem ediv_small (w h : Int) (hw : 0 ≤ w ∧ w ≤ 12) (hh : 0 < h ∧ h ≤ 12) : w.tdiv h = w / h ∧ w.tmod h = w % h ∧ 0 ≤ w / h ∧ w / h ≤ 12 ∧ 0 ≤ w % h ∧ w % h < h := by
  have h1 : w / h ≤ w := Int.ediv_le_self _ hw.1
  exact ⟨Int.tdiv_eq_ediv_of_nonneg hw.1, Int.tmod_eq_emod_of_nonneg hw.1, Int.ediv_nonneg hw.1 (by omega), by omega, Int.emod_nonneg _ (by omega), Int.emod_lt_of_pos _ hh.1⟩

theorem impl_greedy_l0 (d : Nat) : ∀ (w h n : Int) (k : Nat), 0 ≤ w ∧ w ≤ 12 → 0 ≤ h ∧ h ≤ 12 → w + h ≤ d → d ≤ 24 → 0 ≤ n → n ≤ 1000 - 20 * d → 2 * d + 2 ≤ k →
    impl_SheetGreedy.l0 k w h n = some (n + gr d w h, true) := by
  induction d with
  | zero =>
    intro w h n k hw hh hd _ hn hn2 hk
    obtain ⟨k, rfl⟩ : ∃ m, k = m + 1 + 1 := ⟨k - 2, by omega⟩
    simp only [impl_SheetGreedy.l0, gr]
    rw [if_neg (by omega)]
    simp [impl_SheetGreedy.j1]
  | succ d ih =>
    intro w h n k hw hh hd hd2 hn hn2 hk
    obtain ⟨k, rfl⟩ : ∃ m, k = m + 1 + 1 := ⟨k - 2, by omega⟩
    simp only [impl_SheetGreedy.l0, gr]
    by_cases c1 : 0 < w
    · rw [if_pos c1]
      by_cases c2 : 0 < h
      · rw [if_pos (show 0 < w ∧ 0 < h from ⟨c1, c2⟩)]
        simp only [impl_SheetGreedy.j1]
        rw [if_pos (decide_eq_true c2)]
        by_cases c3 : w < h
        · obtain ⟨e1, e2, q1, q2, q3, q4⟩ := ediv_small h w hh ⟨c1, hw.2⟩
          rw [if_pos c3, if_pos c3, if_neg (by omega), e1, e2]
          have ew : wrap64 (n + wrap64 (h / w)) = n + h / w := by unfold wrap64; omega
          rw [ew, ih (h % w) w (n + h / w) k ⟨q3, by omega⟩ hw (by omega) (by omega) (by omega) (by omega) (by omega)]
          rw [Int.add_assoc]
        · obtain ⟨e1, e2, q1, q2, q3, q4⟩ := ediv_small w h hw ⟨c2, hh.2⟩
          rw [if_neg c3, if_neg c3, if_neg (by omega), e1, e2]
          have ew : wrap64 (n + wrap64 (w / h)) = n + w / h := by unfold wrap64; omega
          rw [ew, ih (w % h) h (n + w / h) k ⟨q3, by omega⟩ hh (by omega) (by omega) (by omega) (by omega) (by omega)]
          rw [Int.add_assoc]
      · rw [if_neg (show ¬ (0 < w ∧ 0 < h) from fun x => c2 x.2)]
        simp [impl_SheetGreedy.j1, c2]
    · rw [if_neg c1, if_neg (show ¬ (0 < w ∧ 0 < h) from fun x => c1 x.1)]
      simp [impl_SheetGreedy.j1]

theorem spec_greedy_l0 (d : Nat) : ∀ (w h n : Int) (k : Nat), 0 ≤ w ∧ w ≤ 12 → 0 ≤ h ∧ h ≤ 12 → w + h ≤ d → d ≤ 24 → 0 ≤ n → n ≤ 1000 - 20 * d → 2 * d + 2 ≤ k →
    spec_SheetGreedy.l0 k w h n = some (n + gr d w h, true) := by
  induction d with
  | zero =>
    intro w h n k hw hh hd _ hn hn2 hk
    obtain ⟨k, rfl⟩ : ∃ m, k = m + 1 + 1 := ⟨k - 2, by omega⟩
    simp only [spec_SheetGreedy.l0, gr]
    rw [if_neg (by omega)]
    simp [spec_SheetGreedy.j1]
  | succ d ih =>
    intro w h n k hw hh hd hd2 hn hn2 hk
    obtain ⟨k, rfl⟩ : ∃ m, k = m + 1 + 1 := ⟨k - 2, by omega⟩
    simp only [spec_SheetGreedy.l0, gr]
    by_cases c1 : 0 < w
    · rw [if_pos c1]
      by_cases c2 : 0 < h
      · rw [if_pos (show 0 < w ∧ 0 < h from ⟨c1, c2⟩)]
        simp only [spec_SheetGreedy.j1]
        rw [if_pos (decide_eq_true c2)]
        by_cases c3 : w < h
        · obtain ⟨e1, e2, q1, q2, q3, q4⟩ := ediv_small h w hh ⟨c1, hw.2⟩
          rw [if_pos c3, if_pos c3, if_neg (by omega), e1, e2]
          have ew : wrap64 (n + wrap64 (h / w)) = n + h / w := by unfold wrap64; omega
          rw [ew, ih (h % w) w (n + h / w) k ⟨q3, by omega⟩ hw (by omega) (by omega) (by omega) (by omega) (by omega)]
          rw [Int.add_assoc]
        · obtain ⟨e1, e2, q1, q2, q3, q4⟩ := ediv_small w h hw ⟨c2, hh.2⟩
          rw [if_neg c3, if_neg c3, if_neg (by omega), e1, e2]
          have ew : wrap64 (n + wrap64 (w / h)) = n + w / h := by unfold wrap64; omega
          rw [ew, ih (w % h) h (n + w / h) k ⟨q3, by omega⟩ hh (by omega) (by omega) (by omega) (by omega) (by omega)]
          rw [Int.add_assoc]
      · rw [if_neg (show ¬ (0 < w ∧ 0 < h) from fun x => c2 x.2)]
        simp [spec_SheetGreedy.j1, c2]
    · rw [if_neg c1, if_neg (show ¬ (0 < w ∧ 0 < h) from fun x => c1 x.1)]
      simp [spec_SheetGreedy.j1]

theorem impl_greedy_eq (k : Nat) (hk : 50 ≤ k) (w h : Int) : impl_SheetGreedy.f k w h = if (inS w && inS h) = true then some (gr 24 w h, true) else some (0, false) := by
  unfold impl_SheetGreedy.f
  rw [sized_eq _ (by simp) k (by simp; omega)]
  simp only [Option.bind_some, List.all_cons, List.all_nil, Bool.and_true]
  by_cases hh : (inS w && inS h) = true
  · rw [if_pos hh, if_pos hh]
    simp only [Bool.and_eq_true, inS_iff] at hh
    rw [impl_greedy_l0 24 w h 0 k (by omega) (by omega) (by omega) (by omega) (by omega) (by omega) (by omega), Int.zero_add]
  · rw [if_neg hh, if_neg hh]

theorem spec_greedy_eq (k : Nat) (hk : 50 ≤ k) (w h : Int) : spec_SheetGreedy.f k w h = if (inS w && inS h) = true then some (gr 24 w h, true) else some (0, false) := by
  unfold spec_SheetGreedy.f
  rw [l9Sheet_eq]
  simp only [Option.bind_some]
  by_cases hh : (inS w && inS h) = true
  · rw [if_pos hh, if_pos hh]
    simp only [Bool.and_eq_true, inS_iff] at hh
    rw [spec_greedy_l0 24 w h 0 k (by omega) (by omega) (by omega) (by omega) (by omega) (by omega) (by omega), Int.zero_add]
  · rw [if_neg hh, if_neg hh]

def grOk (w h : Nat) : Bool := decide (gr 24 (w : Int) (h : Int) = gr 24 (h : Int) (w : Int)) && (decide (w ≤ h) || decide (gr 24 (w : Int) (h : Int) = gr 24 ((w : Int) - (h : Int)) (h : Int) + 1)) &&
  decide (0 ≤ gr 24 (w : Int) (h : Int)) && decide (gr 24 (w : Int) (h : Int) ≤ 100)

theorem gr_all : ((List.range 12).all fun w => (List.range 12).all fun h => grOk (w + 1) (h + 1)) = true := by decide +kernel

theorem gr_facts (w h : Nat) (hw : w < 13) (hh : h < 13) (h1 : 1 ≤ h) (w1 : 1 ≤ w) :
    gr 24 (w : Int) (h : Int) = gr 24 (h : Int) (w : Int) ∧ (h < w → gr 24 (w : Int) (h : Int) = gr 24 ((w : Int) - (h : Int)) (h : Int) + 1) ∧ 0 ≤ gr 24 (w : Int) (h : Int) ∧ gr 24 (w : Int) (h : Int) ≤ 100 := by
  have g := List.all_eq_true.1 gr_all (w - 1) (List.mem_range.2 (by omega))
  have g := List.all_eq_true.1 g (h - 1) (List.mem_range.2 (by omega))
  rw [Nat.sub_add_cancel w1, Nat.sub_add_cancel h1] at g
  unfold grOk at g
  simp only [Bool.and_eq_true, Bool.or_eq_true, decide_eq_true_eq] at g
  obtain ⟨⟨⟨g1, g2⟩, g3⟩, g4⟩ := g
  exact ⟨g1, fun x => g2.resolve_left (by omega), g3, g4⟩

theorem gr_int (w h : Int) (hw : 1 ≤ w ∧ w ≤ 12) (hh : 1 ≤ h ∧ h ≤ 12) :
    gr 24 w h = gr 24 h w ∧ (h < w → gr 24 w h = gr 24 (w - h) h + 1) ∧ 0 ≤ gr 24 w h ∧ gr 24 w h ≤ 100 := by
  obtain ⟨a, rfl⟩ := Int.eq_ofNat_of_zero_le (show 0 ≤ w by omega)
  obtain ⟨b, rfl⟩ := Int.eq_ofNat_of_zero_le (show 0 ≤ h by omega)
  have := gr_facts a b (by omega) (by omega) (by omega) (by omega)
  exact ⟨this.1, fun x => this.2.1 (by omega), this.2.2⟩

theorem draw_squares (l : List Int) (hl : Bytes l) (k : Nat) (hk : 1 ≤ k) : ∃ r, spec_DrawSheetSquares.f k l = some r := by
  obtain ⟨b, hb, hbb, hbl⟩ := open_gives l hl
  unfold spec_DrawSheetSquares.f
  rw [hb]
  simp only [Option.bind_some]
  obtain ⟨r1, h1, _, _⟩ := pick_gives b hbb hbl 0 12 k (by omega) (by omega) (by omega) (by omega) hk
  rw [h1]; simp only [Option.bind_some]
  obtain ⟨r2, h2, _, _⟩ := pick_gives b hbb hbl (0 + 1) 12 k (by omega) (by omega) (by omega) (by omega) hk
  rw [h2]; simp only [Option.bind_some]
  obtain ⟨r3, h3, _, _⟩ := pick_gives b hbb hbl (0 + 1 + 1) 24 k (by omega) (by omega) (by omega) (by omega) hk
  rw [h3]; simp only [Option.bind_some]
  obtain ⟨r4, h4, _, _⟩ := pick_gives b hbb hbl (0 + 1 + 1 + 1) 24 k (by omega) (by omega) (by omega) (by omega) hk
  rw [h4]; simp only [Option.bind_some]
  exact ⟨_, rfl⟩

end Go.Proofs.Ytjbijfdiojhmcaa.QaL

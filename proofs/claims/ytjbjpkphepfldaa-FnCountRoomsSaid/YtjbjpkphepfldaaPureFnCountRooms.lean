/- One plan has one room, one has all cells (P84): for every code. -/
import Derived.Test.YtjbjpkphepfldaaLQc
import Derived.Test.YtjbjpkphepfldaaQc3
namespace Go.Proofs.Ytjbjpkphepfldaa.Pure
open Go.RowKit Go.Proofs.Ytjbjpkphepfldaa.Qc Go.Proofs.YtjbjpkphepfldaaW.PrintWords Go.Proofs.YtjbjpkphepfldaaW.PrintLast Go.Proofs.YtjbjpkphepfldaaW.PrintMore
open Go.Proofs.Ytjbjpkphepfldaa.QcL
open Go.Proofs.Ytjbjpkphepfldaa.S
set_option linter.unusedVariables false
set_option linter.unusedSimpArgs false

theorem xor_pos (a b : Int) (ha : 0 ≤ a) (hb : 0 ≤ b) (ha2 : a < 9223372036854775808) (hb2 : b < 9223372036854775808) : 0 ≤ Go.bits .xor .i64 a b := by
  obtain ⟨a, rfl⟩ := Int.eq_ofNat_of_zero_le ha
  obtain ⟨b, rfl⟩ := Int.eq_ofNat_of_zero_le hb
  have hx : a ^^^ b < 2 ^ 63 := Nat.xor_lt_two_pow (by omega) (by omega)
  have h1 : (BitVec.ofInt 64 (a : Int)).toNat = a := by
    rw [BitVec.ofInt_natCast, BitVec.toNat_ofNat]; exact Nat.mod_eq_of_lt (by omega)
  have h2 : (BitVec.ofInt 64 (b : Int)).toNat = b := by
    rw [BitVec.ofInt_natCast, BitVec.toNat_ofNat]; exact Nat.mod_eq_of_lt (by omega)
  show 0 ≤ IntKind.i64.wrap ((BitVec.ofInt 64 (a : Int) ^^^ BitVec.ofInt 64 (b : Int)).toNat : Int)
  rw [BitVec.toNat_xor, h1, h2]
  simp [IntKind.wrap, IntKind.bits, IntKind.signed]
  omega

def Bytes (l : List Int) : Prop := ∀ x ∈ l, 0 ≤ x ∧ x ≤ 255

theorem bytes_rd {l : List Int} (h : Bytes l) (i : Int) : 0 ≤ rd l i ∧ rd l i ≤ 255 := by
  unfold rd
  by_cases hi : i.toNat < l.length
  · rw [List.getD_eq_getElem?_getD, List.getElem?_eq_getElem hi]
    exact h _ (List.getElem_mem hi)
  · rw [List.getD_eq_getElem?_getD, List.getElem?_eq_none (by omega)]
    simp

theorem tmod_range (a n : Int) (ha : 0 ≤ a) (hn : 1 ≤ n) : 0 ≤ a.tmod n ∧ a.tmod n < n := by
  rw [Int.tmod_eq_emod_of_nonneg ha]
  exact ⟨Int.emod_nonneg _ (by omega), Int.emod_lt_of_pos _ (by omega)⟩

theorem pick_gives (l : List Int) (hl : Bytes l) (hll : l.length ≤ 2000) (p n : Int) (k : Nat) (hp : 0 ≤ p) (hp2 : p ≤ 1000000) (hn : 1 ≤ n) (hn2 : n ≤ 1000000) (hk : 1 ≤ k) :
    ∃ r, spec_l6Rd_pick.f k l p n = some (r, p + 1) ∧ 0 ≤ r ∧ r < n := by
  obtain ⟨k, rfl⟩ : ∃ m, k = m + 1 := ⟨k - 1, by omega⟩
  unfold spec_l6Rd_pick.f
  rw [if_neg (by omega)]
  have ew : wrap64 (p + 1) = p + 1 := by unfold wrap64; omega
  have ew1 : wrap64 (p + 1 - 1) = p := by unfold wrap64; omega
  rw [ew]
  simp only [spec_l6Rd_pick.j0]
  rw [ew1]
  by_cases h0 : ((l.length : Int) == 0) = true
  · rw [if_pos h0]
    exact ⟨0, rfl, by omega, by omega⟩
  · rw [if_neg h0]
    have hne : ¬ (l.length : Int) = 0 := by simpa using h0
    have hr0 := bytes_rd hl
    have ewr : ∀ i, wrap64 (rd l i) = rd l i := fun i => by have := hr0 i; unfold wrap64; omega
    by_cases h1 : p < (l.length : Int)
    · rw [if_pos h1, if_pos hp, if_neg (by omega), ewr]
      exact ⟨_, rfl, tmod_range _ _ (hr0 _).1 hn⟩
    · rw [if_neg h1, if_neg hne]
      have e7 : wrap64 (wrap64 (p * 7) + 3) = p * 7 + 3 := by unfold wrap64; omega
      rw [e7]
      have q1 := tmod_range p (l.length : Int) hp (by omega)
      have q2 := tmod_range (p * 7 + 3) (l.length : Int) (by omega) (by omega)
      rw [if_pos q1.1, if_pos q1.2, if_pos q2.1, if_pos q2.2, if_neg (by omega)]
      refine ⟨_, rfl, ?_⟩
      have d1 : 0 ≤ p.tdiv (l.length : Int) ∧ p.tdiv (l.length : Int) ≤ p := by
        rw [Int.tdiv_eq_ediv_of_nonneg hp]
        exact ⟨Int.ediv_nonneg hp (by omega), Int.ediv_le_self _ hp⟩
      have b1 := hr0 (p.tmod (l.length : Int))
      have b2 := hr0 ((p * 7 + 3).tmod (l.length : Int))
      rw [ewr, ewr]
      generalize rd l (p.tmod (l.length : Int)) = u at *
      generalize rd l ((p * 7 + 3).tmod (l.length : Int)) = v at *
      generalize p.tdiv (l.length : Int) = q at *
      clear ew ew1 e7
      have eX : ∃ X, wrap64 (wrap64 (wrap64 (wrap64 (u * 131) + wrap64 (v * 1117)) + wrap64 (p * 29)) + wrap64 (wrap64 q * 53)) = X ∧ 0 ≤ X ∧ X < 9223372036854775808 := by
        rw [w64 (u * 131) (by omega), w64 (v * 1117) (by omega), w64 (p * 29) (by omega), w64 q (by omega), w64 (q * 53) (by omega), w64 (u * 131 + v * 1117) (by omega),
          w64 (u * 131 + v * 1117 + p * 29) (by omega), w64 (u * 131 + v * 1117 + p * 29 + q * 53) (by omega)]
        exact ⟨_, rfl, by omega, by omega⟩
      obtain ⟨X, eX, x0, x1⟩ := eX
      rw [eX]
      have eY : ∃ Y, wrap64 (X.tdiv 64) = Y ∧ 0 ≤ Y ∧ Y < 9223372036854775808 := by
        rw [Int.tdiv_eq_ediv_of_nonneg x0, w64 (X / 64) (by omega)]
        exact ⟨_, rfl, by omega, by omega⟩
      obtain ⟨Y, eY, y0, y1⟩ := eY
      rw [eY]
      exact tmod_range _ _ (xor_pos X Y x0 y0 x1 y1) hn

theorem open_gives (l : List Int) (hl : Bytes l) : ∃ b, spec_l6Open.f l = some (b, 0) ∧ Bytes b ∧ b.length ≤ 2000 := by
  unfold spec_l6Open.f
  by_cases h : (l.length : Int) > 2000
  · rw [if_pos h, if_pos (by omega)]
    exact ⟨_, rfl, fun x hx => hl x (List.mem_of_mem_take hx), by simp; omega⟩
  · rw [if_neg h]
    exact ⟨_, rfl, hl, by omega⟩

theorem bytes_of_wf {l : List Int} (h : ∀ x ∈ l, (Lit.int .u8 x).wf = true) : Bytes l := by
  intro x hx
  have := h x hx
  have hmin : IntKind.u8.min = 0 := rfl
  have hmax : IntKind.u8.max = 255 := rfl
  simp only [Lit.wf, Bool.and_eq_true, decide_eq_true_eq] at this
  omega

/-! ### Two lists of the law's own comparing -/
theorem same_l0 (a b : List Int) (hab : a.length = b.length) (hb : a.length ≤ 1048576) (d : Nat) : ∀ (k i : Nat), i ≤ a.length → a.length - i = d → d < k →
    laws_sameInts.l0 k a b (i : Int) = some (decide (a.drop i = b.drop i)) := by
  induction d with
  | zero =>
    intro k i hi hd hk
    obtain ⟨k, rfl⟩ : ∃ m, k = m + 1 := ⟨k - 1, by omega⟩
    obtain rfl : i = a.length := by omega
    simp only [laws_sameInts.l0]
    rw [if_neg (by omega), List.drop_length, hab, List.drop_length]
    simp
  | succ d ih =>
    intro k i hi hd hk
    obtain ⟨k, rfl⟩ : ∃ m, k = m + 1 := ⟨k - 1, by omega⟩
    have hlt : i < a.length := by omega
    have hlt2 : i < b.length := by omega
    simp only [laws_sameInts.l0]
    rw [if_pos (by omega), if_pos (by omega), if_pos (by omega), w64 _ (by omega), rd_getD, rd_getD]
    have e : ((i : Int) + 1) = ((i + 1 : Nat) : Int) := by omega
    have ea : a.drop i = a.getD i 0 :: a.drop (i + 1) := by
      rw [List.drop_eq_getElem_cons hlt, List.getD_eq_getElem?_getD, List.getElem?_eq_getElem hlt]; rfl
    have eb : b.drop i = b.getD i 0 :: b.drop (i + 1) := by
      rw [List.drop_eq_getElem_cons hlt2, List.getD_eq_getElem?_getD, List.getElem?_eq_getElem hlt2]; rfl
    rw [e, ea, eb]
    by_cases h : a.getD i 0 = b.getD i 0
    · rw [if_pos h, ih k (i + 1) (by omega) (by omega) (by omega), h]
      simp only [List.cons.injEq, true_and]
    · rw [if_neg h]
      simp only [List.cons.injEq, h, false_and, decide_false]

theorem same_eq (a b : List Int) (hb : a.length ≤ 1048576) (k : Nat) (hk : a.length < k) : laws_sameInts.f k a b = some (decide (a = b)) := by
  unfold laws_sameInts.f
  by_cases h : (a.length : Int) = (b.length : Int)
  · rw [if_pos h]
    have := same_l0 a b (by omega) hb a.length k 0 (by omega) (by omega) hk
    simpa using this
  · rw [if_neg h]
    have : ¬ a = b := fun e => h (by rw [e])
    simp [this]

theorem same_self (a : List Int) (hb : a.length ≤ 1048576) (k : Nat) (hk : a.length < k) : laws_sameInts.f k a a = some true := by
  rw [same_eq a a hb k hk]; simp

theorem size_gives (b : List Int) (hb : Bytes b) (hl : b.length ≤ 2000) (k : Nat) (hk : 1 ≤ k) : ∃ r, spec_l92Size.f k b 0 = some r := by
  obtain ⟨r1, h1, -, -⟩ := pick_gives b hb hl 0 3 k (by omega) (by omega) (by omega) (by omega) hk
  obtain ⟨r2, h2, -, -⟩ := pick_gives b hb hl (0 + 1) 3 k (by omega) (by omega) (by omega) (by omega) hk
  obtain ⟨r3, h3, -, -⟩ := pick_gives b hb hl (0 + 1 + 1) 6 k (by omega) (by omega) (by omega) (by omega) hk
  obtain ⟨r4, h4, -, -⟩ := pick_gives b hb hl (0 + 1 + 1) 40 k (by omega) (by omega) (by omega) (by omega) hk
  obtain ⟨r5, h5, -, -⟩ := pick_gives b hb hl (0 + 1 + 1 + 1) 40 k (by omega) (by omega) (by omega) (by omega) hk
  unfold spec_l92Size.f
  rw [h1]
  simp only [Option.bind_some]
  rw [h2]
  simp only [Option.bind_some]
  rw [h3, h4]
  simp only [Option.bind_some]
  rw [h5]
  simp only [Option.bind_some]
  split
  · split
    · split
      · exact ⟨_, rfl⟩
      · exact ⟨_, rfl⟩
    · exact ⟨_, rfl⟩
  · exact ⟨_, rfl⟩
theorem FnCountRooms : laws_FnCountRooms.Pure := by
  intro l _ _ hwf
  refine ⟨1000, ?_⟩
  unfold laws_FnCountRooms.f
  by_cases h0 : (l.length : Int) > 1048576
  · rw [if_pos h0]
  rw [if_neg h0]
  obtain ⟨b, hb, hbb, hbl⟩ := open_gives l (bytes_of_wf hwf)
  obtain ⟨⟨n, m, p⟩, hs⟩ := size_gives b hbb hbl 1000 (by omega)
  have hd : spec_DrawCountRooms.f 1000 l = some (n, m) := by
    unfold spec_DrawCountRooms.f
    rw [hb]
    simp only [Option.bind_some]
    rw [hs]
    rfl
  rw [hd]
  simp only [Option.bind_some]
  have e1 : (1000 : Nat) = 999 + 1 := rfl
  cases hsz : sizes n m with
  | false =>
    obtain ⟨i1, i2⟩ := none_is n m hsz
    rw [i1]
    simp only [Option.bind_some]
    rw [i2]
    simp only [Option.bind_some]
    rw [if_neg (by simp), same_self [] (by simp) _ (by simp)]
    simp only [Option.bind_some, if_true]
    rw [e1]
    simp only [laws_FnCountRooms.j0]
    rw [if_pos (by simp), if_pos (by simp), same_self [] (by simp) _ (by simp)]
    rfl
  | true =>
    obtain ⟨out, i1, i2, i3, i4, i5, i6, i7, i8, i9⟩ := some_is n m hsz
    rw [i1]
    simp only [Option.bind_some]
    rw [i2]
    simp only [Option.bind_some]
    rw [if_neg (by simp), same_self out (by omega) _ (by omega)]
    simp only [Option.bind_some, if_true]
    rw [e1]
    simp only [laws_FnCountRooms.j0]
    rw [if_neg (by simp), i3]
    simp only [Option.bind_some, if_true]
    rw [same_self out (by omega) _ (by omega)]
    simp only [Option.bind_some, if_true]
    rw [w64 (n * m) (by omega), w64 (n * m + 1) (by omega), if_pos (by omega), if_pos i5, if_pos (by omega), if_pos i6, if_pos (by omega), if_pos (by omega), if_pos i7, i4]
    simp

end Go.Proofs.Ytjbjpkphepfldaa.Pure

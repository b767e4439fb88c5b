/- What is drawn for terms: short texts. -/
import Derived.Test.YtmocablibmkebaaQt2
import Derived.Test.YtmocablibmkebaaTMath
namespace Go.Proofs.Ytmocablibmkebaa.QtL
open Go.RowKit Go.Proofs.Ytmocablibmkebaa.Qt Go.Proofs.YtmocablibmkebaaW.PrintWords Go.Proofs.YtmocablibmkebaaW.PrintLast Go.Proofs.YtmocablibmkebaaW.PrintMore
open Go.Proofs.Ytmocablibmkebaa.S
set_option linter.unusedVariables false
set_option linter.unusedSimpArgs false

theorem w64 (x : Int) (h : -9223372036854775808 ≤ x ∧ x ≤ 9223372036854775807) : wrap64 x = x := by unfold wrap64; omega

theorem rd_getD (l : List Int) (i : Nat) : rd l (i : Int) = l.getD i 0 := by simp [rd]


theorem xor_pos (a b : Int) (ha : 0 ≤ a) (hb : 0 ≤ b) (ha2 : a < 9223372036854775808) (hb2 : b < 9223372036854775808) : 0 ≤ Go.bits .xor .i64 a b := by
  obtain ⟨a, rfl⟩ := Int.eq_ofNat_of_zero_le ha
  obtain ⟨b, rfl⟩ := Int.eq_ofNat_of_zero_le hb
  have hx : a ^^^ b < 2 ^ 63 := Nat.xor_lt_two_pow (by omega) (by omega)
  have h1 : (BitVec.ofInt 64 (a : Int)).toNat = a := by
    rw [BitVec.ofInt_natCast, BitVec.toNat_ofNat]; exact Nat.mod_eq_of_lt (by omega)
  have h2 : (BitVec.ofInt 64 (b : Int)).toNat = b := by
    rw [BitVec.ofInt_natCast, BitVec.toNat_ofNat]; exact Nat.mod_eq_of_lt (by omega)
  show 0 ≤ IntKind.i64.wrap ((BitVec.ofInt 64 (a : Int) ^^^ BitVec.ofInt 64 (b : Int)).toNat : Int)
  rw [BitVec.toNat_xor, h1, h2]
  simp [IntKind.wrap, IntKind.bits, IntKind.signed]
  omega

def Bytes (l : List Int) : Prop := ∀ x ∈ l, 0 ≤ x ∧ x ≤ 255

theorem bytes_rd {l : List Int} (h : Bytes l) (i : Int) : 0 ≤ rd l i ∧ rd l i ≤ 255 := by
  unfold rd
  by_cases hi : i.toNat < l.length
  · rw [List.getD_eq_getElem?_getD, List.getElem?_eq_getElem hi]
    exact h _ (List.getElem_mem hi)
  · rw [List.getD_eq_getElem?_getD, List.getElem?_eq_none (by omega)]
    simp

theorem tmod_range (a n : Int) (ha : 0 ≤ a) (hn : 1 ≤ n) : 0 ≤ a.tmod n ∧ a.tmod n < n := by
  rw [Int.tmod_eq_emod_of_nonneg ha]
  exact ⟨Int.emod_nonneg _ (by omega), Int.emod_lt_of_pos _ (by omega)⟩

theorem pick_gives (l : List Int) (hl : Bytes l) (hll : l.length ≤ 2000) (p n : Int) (k : Nat) (hp : 0 ≤ p) (hp2 : p ≤ 1000000) (hn : 1 ≤ n) (hn2 : n ≤ 1000000) (hk : 1 ≤ k) :
    ∃ r, spec_l6Rd_pick.f k l p n = some (r, p + 1) ∧ 0 ≤ r ∧ r < n := by
  obtain ⟨k, rfl⟩ : ∃ m, k = m + 1 := ⟨k - 1, by omega⟩
  unfold spec_l6Rd_pick.f
  rw [if_neg (by omega)]
  have ew : wrap64 (p + 1) = p + 1 := by unfold wrap64; omega
  have ew1 : wrap64 (p + 1 - 1) = p := by unfold wrap64; omega
  rw [ew]
  simp only [spec_l6Rd_pick.j0]
  rw [ew1]
  by_cases h0 : ((l.length : Int) == 0) = true
  · rw [if_pos h0]
    exact ⟨0, rfl, by omega, by omega⟩
  · rw [if_neg h0]
    have hne : ¬ (l.length : Int) = 0 := by simpa using h0
    have hr0 := bytes_rd hl
    have ewr : ∀ i, wrap64 (rd l i) = rd l i := fun i => by have := hr0 i; unfold wrap64; omega
    by_cases h1 : p < (l.length : Int)
    · rw [if_pos h1, if_pos hp, if_neg (by omega), ewr]
      exact ⟨_, rfl, tmod_range _ _ (hr0 _).1 hn⟩
    · rw [if_neg h1, if_neg hne]
      have e7 : wrap64 (wrap64 (p * 7) + 3) = p * 7 + 3 := by unfold wrap64; omega
      rw [e7]
      have q1 := tmod_range p (l.length : Int) hp (by omega)
      have q2 := tmod_range (p * 7 + 3) (l.length : Int) (by omega) (by omega)
      rw [if_pos q1.1, if_pos q1.2, if_pos q2.1, if_pos q2.2, if_neg (by omega)]
      refine ⟨_, rfl, ?_⟩
      have d1 : 0 ≤ p.tdiv (l.length : Int) ∧ p.tdiv (l.length : Int) ≤ p := by
        rw [Int.tdiv_eq_ediv_of_nonneg hp]
        exact ⟨Int.ediv_nonneg hp (by omega), Int.ediv_le_self _ hp⟩
      have b1 := hr0 (p.tmod (l.length : Int))
      have b2 := hr0 ((p * 7 + 3).tmod (l.length : Int))
      rw [ewr, ewr]
      generalize rd l (p.tmod (l.length : Int)) = u at *
      generalize rd l ((p * 7 + 3).tmod (l.length : Int)) = v at *
      generalize p.tdiv (l.length : Int) = q at *
      clear ew ew1 e7
      have eX : ∃ X, wrap64 (wrap64 (wrap64 (wrap64 (u * 131) + wrap64 (v * 1117)) + wrap64 (p * 29)) + wrap64 (wrap64 q * 53)) = X ∧ 0 ≤ X ∧ X < 9223372036854775808 := by
        rw [w64 (u * 131) (by omega), w64 (v * 1117) (by omega), w64 (p * 29) (by omega), w64 q (by omega), w64 (q * 53) (by omega), w64 (u * 131 + v * 1117) (by omega),
          w64 (u * 131 + v * 1117 + p * 29) (by omega), w64 (u * 131 + v * 1117 + p * 29 + q * 53) (by omega)]
        exact ⟨_, rfl, by omega, by omega⟩
      obtain ⟨X, eX, x0, x1⟩ := eX
      rw [eX]
      have eY : ∃ Y, wrap64 (X.tdiv 64) = Y ∧ 0 ≤ Y ∧ Y < 9223372036854775808 := by
        rw [Int.tdiv_eq_ediv_of_nonneg x0, w64 (X / 64) (by omega)]
        exact ⟨_, rfl, by omega, by omega⟩
      obtain ⟨Y, eY, y0, y1⟩ := eY
      rw [eY]
      exact tmod_range _ _ (xor_pos X Y x0 y0 x1 y1) hn

theorem open_gives (l : List Int) (hl : Bytes l) : ∃ b, spec_l6Open.f l = some (b, 0) ∧ Bytes b ∧ b.length ≤ 2000 := by
  unfold spec_l6Open.f
  by_cases h : (l.length : Int) > 2000
  · rw [if_pos h, if_pos (by omega)]
    exact ⟨_, rfl, fun x hx => hl x (List.mem_of_mem_take hx), by simp; omega⟩
  · rw [if_neg h]
    exact ⟨_, rfl, hl, by omega⟩

theorem bytes_of_wf {l : List Int} (h : ∀ x ∈ l, (Lit.int .u8 x).wf = true) : Bytes l := by
  intro x hx
  have := h x hx
  have hmin : IntKind.u8.min = 0 := rfl
  have hmax : IntKind.u8.max = 255 := rfl
  simp only [Lit.wf, Bool.and_eq_true, decide_eq_true_eq] at this
  omega

/-! ### What is drawn: short texts -/
theorem rdOf_size (m : Nat) : ∀ (ls : List ByteArray) (i : Int), (∀ x ∈ ls, x.size ≤ m) → (rdOf ByteArray.empty ls i).size ≤ m := by
  intro ls i h
  unfold rdOf
  by_cases hi : i.toNat < ls.length
  · rw [List.getD_eq_getElem?_getD, List.getElem?_eq_getElem hi]
    exact h _ (List.getElem_mem hi)
  · rw [List.getD_eq_getElem?_getD, List.getElem?_eq_none (by omega)]
    exact Nat.zero_le _

theorem of_gives (b : List Int) (hb : Bytes b) (hbl : b.length ≤ 2000) (p : Int) (ls : List ByteArray) (m k : Nat) (hp : 0 ≤ p) (hp2 : p ≤ 1000000) (h1 : 1 ≤ ls.length) (h2 : ls.length ≤ 100) (hm : ∀ x ∈ ls, x.size ≤ m) (hk : 1 ≤ k) :
    ∃ s, spec_l6Rd_of.f k b p ls = some (s, p + 1) ∧ s.size ≤ m := by
  obtain ⟨r, hr, r0, r1⟩ := pick_gives b hb hbl p (ls.length : Int) k hp hp2 (by omega) (by omega) hk
  refine ⟨_, ?_, rdOf_size m ls r hm⟩
  unfold spec_l6Rd_of.f
  rw [hr, Option.bind_some]
  simp only
  rw [if_pos r0, if_pos r1]

theorem termj_gives (b : List Int) (hb : Bytes b) (hbl : b.length ≤ 2000) (k : Nat) (hk : 2 ≤ k) (x : ByteArray) (hx : x.size ≤ 1000) (p : Int) (hp : 0 ≤ p) (hp2 : p ≤ 100000) :
    ∃ s q, spec_l92Term.j0 k x b p = some (s, q) ∧ p ≤ q ∧ q ≤ p + 2 ∧ s.size ≤ x.size + 2 := by
  obtain ⟨k, rfl⟩ : ∃ m, k = m + 1 := ⟨k - 1, by omega⟩
  obtain ⟨r, hr, r0, r1⟩ := pick_gives b hb hbl p 6 k hp (by omega) (by omega) (by omega) (by omega)
  simp only [spec_l92Term.j0]
  rw [hr, Option.bind_some]
  simp only
  by_cases c : r = 0
  · obtain ⟨s, hs, s1⟩ := of_gives b hb hbl (p + 1) [(⟨#[62]⟩ : ByteArray), (⟨#[94]⟩ : ByteArray), (⟨#[62, 62]⟩ : ByteArray), (⟨#[94, 62]⟩ : ByteArray)] 2 k (by omega) (by omega) (by decide) (by decide) (by decide) (by omega)
    rw [if_pos c, hs, Option.bind_some]
    simp only
    rw [if_pos (by omega)]
    refine ⟨_, _, rfl, by omega, by omega, ?_⟩
    rw [ByteArray.size_append]
    omega
  · rw [if_neg c]
    exact ⟨x, _, rfl, by omega, by omega, by omega⟩

theorem term_gives (b : List Int) (hb : Bytes b) (hbl : b.length ≤ 2000) : ∀ (n k : Nat) (p a : Int), 1 ≤ a → a ≤ n → n ≤ 100 → n + 2 ≤ k → 0 ≤ p → p ≤ 50000 - 6 * a →
    ∃ s q, spec_l92Term.f k b p a = some (s, q) ∧ p ≤ q ∧ q + 4 ≤ p + 6 * a ∧ (s.size : Int) + 5 ≤ 8 * a := by
  intro n
  induction n with
  | zero => intro k p a h1 h2; omega
  | succ n ih =>
    intro k p a h1 h2 hn hk hp hp2
    obtain ⟨k, rfl⟩ : ∃ m, k = m + 1 := ⟨k - 1, by omega⟩
    simp only [spec_l92Term.f]
    by_cases c : a > 1
    · rw [if_pos c]
      obtain ⟨r, hr, r0, r1⟩ := pick_gives b hb hbl p (a - 1) k hp (by omega) (by omega) (by omega) (by omega)
      rw [w64 (a - 1) (by omega), hr, Option.bind_some]
      simp only
      rw [w64 (1 + r) (by omega), w64 (a - (1 + r)) (by omega)]
      obtain ⟨s1, q1, hs1, a1, a2, a3⟩ := ih k (p + 1) (1 + r) (by omega) (by omega) (by omega) (by omega) (by omega) (by omega)
      obtain ⟨s2, hs2, b3⟩ := of_gives b hb hbl q1 [(⟨#[124]⟩ : ByteArray), (⟨#[45]⟩ : ByteArray)] 1 k (by omega) (by omega) (by decide) (by decide) (by decide) (by omega)
      obtain ⟨s3, q3, hs3, c1, c2, c3⟩ := ih k (q1 + 1) (a - (1 + r)) (by omega) (by omega) (by omega) (by omega) (by omega) (by omega)
      have e0 : (⟨#[40]⟩ : ByteArray).size = 1 := rfl
      have e9 : (⟨#[41]⟩ : ByteArray).size = 1 := rfl
      have f1 : ((⟨#[40]⟩ : ByteArray) ++ s1).size = 1 + s1.size := by rw [ByteArray.size_append, e0]
      have f2 : (((⟨#[40]⟩ : ByteArray) ++ s1) ++ s2).size = 1 + s1.size + s2.size := by rw [ByteArray.size_append, f1]
      have f3 : ((((⟨#[40]⟩ : ByteArray) ++ s1) ++ s2) ++ s3).size = 1 + s1.size + s2.size + s3.size := by rw [ByteArray.size_append, f2]
      have f4 : (((((⟨#[40]⟩ : ByteArray) ++ s1) ++ s2) ++ s3) ++ (⟨#[41]⟩ : ByteArray)).size = 1 + s1.size + s2.size + s3.size + 1 := by rw [ByteArray.size_append, f3, e9]
      obtain ⟨s4, q4, hs4, d1, d2, d3⟩ := termj_gives b hb hbl k (by omega) _ (by rw [f4]; omega) q3 (by omega) (by omega)
      refine ⟨s4, q4, ?_, by omega, by omega, by omega⟩
      rw [hs1, Option.bind_some]
      simp only
      rw [if_pos (by omega), hs2, Option.bind_some]
      simp only
      rw [if_pos (by omega), hs3, Option.bind_some]
      simp only
      rw [if_pos (by omega), if_pos (by omega)]
      exact hs4
    · rw [if_neg c]
      obtain ⟨s, q, hs, q1, q2, q3⟩ := termj_gives b hb hbl k (by omega) (⟨#[111]⟩ : ByteArray) (by decide) p hp (by omega)
      have e1 : (⟨#[111]⟩ : ByteArray).size = 1 := rfl
      exact ⟨s, q, hs, q1, by omega, by omega⟩

theorem text_gives (b : List Int) (hb : Bytes b) (hbl : b.length ≤ 2000) : ∃ s q, spec_l92Text.f 20 b 0 = some (s, q) ∧ s.size ≤ 100 := by
  obtain ⟨r, hr, r0, r1⟩ := pick_gives b hb hbl 0 6 20 (by omega) (by omega) (by omega) (by omega) (by omega)
  obtain ⟨s1, q1, hs1, a1, a2, a3⟩ := term_gives b hb hbl 6 20 (0 + 1) (1 + r) (by omega) (by omega) (by omega) (by omega) (by omega) (by omega)
  obtain ⟨u, hu, u0, u1⟩ := pick_gives b hb hbl q1 24 20 (by omega) (by omega) (by omega) (by omega) (by omega)
  unfold spec_l92Text.f
  rw [hr, Option.bind_some]
  simp only
  rw [w64 (1 + r) (by omega), hs1, Option.bind_some]
  simp only
  rw [hu, Option.bind_some]
  simp only
  by_cases c : u = 0
  · obtain ⟨s2, hs2, b3⟩ := of_gives b hb hbl (q1 + 1) [(⟨#[41]⟩ : ByteArray), (⟨#[111]⟩ : ByteArray), (⟨#[124]⟩ : ByteArray)] 1 20 (by omega) (by omega) (by decide) (by decide) (by decide) (by omega)
    rw [if_pos c, hs2, Option.bind_some]
    simp only
    rw [if_pos (by omega)]
    refine ⟨_, _, rfl, ?_⟩
    rw [ByteArray.size_append]
    omega
  rw [if_neg c]
  by_cases d : u = 1
  · obtain ⟨s2, hs2, b3⟩ := of_gives b hb hbl (q1 + 1) [(⟨#[]⟩ : ByteArray), (⟨#[120]⟩ : ByteArray), (⟨#[40, 111, 41]⟩ : ByteArray), (⟨#[40, 111, 124, 111]⟩ : ByteArray), (⟨#[62]⟩ : ByteArray), (⟨#[40, 111, 124, 40, 111, 124, 40, 111, 124, 40, 111, 124, 40, 111, 124, 40, 111, 124, 40, 111, 124, 111, 41, 41, 41, 41, 41, 41, 41]⟩ : ByteArray), (⟨#[40, 40, 111, 124, 111, 41, 124, 40, 111, 124, 111, 41, 41]⟩ : ByteArray)] 40 20 (by omega) (by omega) (by decide) (by decide) (by decide) (by omega)
    rw [if_pos d, hs2, Option.bind_some]
    exact ⟨s2, _, rfl, by omega⟩
  · rw [if_neg d]
    exact ⟨s1, _, rfl, by omega⟩

theorem draw_gives (l : List Int) (hl : Bytes l) : ∃ s, spec_DrawTermIn.f 20 l = some s ∧ s.size ≤ 100 := by
  obtain ⟨b, hb, hbb, hbl⟩ := open_gives l hl
  obtain ⟨s, q, hs, hs2⟩ := text_gives b hbb hbl
  refine ⟨s, ?_, hs2⟩
  unfold spec_DrawTermIn.f spec_l92Word.f
  rw [hb, Option.bind_some]
  simp only
  rw [hs, Option.bind_some]
  rfl

end Go.Proofs.Ytmocablibmkebaa.QtL

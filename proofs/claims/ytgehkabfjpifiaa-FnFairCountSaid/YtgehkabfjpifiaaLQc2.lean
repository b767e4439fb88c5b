/- The draw of a number, and the sums of fair ones. -/
import Derived.Test.YtgehkabfjpifiaaLQc
import Derived.Test.YtgehkabfjpifiaaQc5
import Derived.Test.YtgehkabfjpifiaaQc6
import Derived.Test.YtgehkabfjpifiaaQc1
namespace Go.Proofs.Ytgehkabfjpifiaa.QcL
open Go.RowKit Go.Proofs.Ytgehkabfjpifiaa.Qc Go.Proofs.YtgehkabfjpifiaaW.PrintWords Go.Proofs.YtgehkabfjpifiaaW.PrintLast Go.Proofs.YtgehkabfjpifiaaW.PrintMore
set_option linter.unusedVariables false
set_option linter.unusedSimpArgs false

theorem xor_pos (a b : Int) (ha : 0 ≤ a) (hb : 0 ≤ b) (ha2 : a < 9223372036854775808) (hb2 : b < 9223372036854775808) : 0 ≤ Go.bits .xor .i64 a b := by
  obtain ⟨a, rfl⟩ := Int.eq_ofNat_of_zero_le ha
  obtain ⟨b, rfl⟩ := Int.eq_ofNat_of_zero_le hb
  have hx : a ^^^ b < 2 ^ 63 := Nat.xor_lt_two_pow (by omega) (by omega)
  have h1 : (BitVec.ofInt 64 (a : Int)).toNat = a := by
    rw [BitVec.ofInt_natCast, BitVec.toNat_ofNat]; exact Nat.mod_eq_of_lt (by omega)
  have h2 : (BitVec.ofInt 64 (b : Int)).toNat = b := by
    rw [BitVec.ofInt_natCast, BitVec.toNat_ofNat]; exact Nat.mod_eq_of_lt (by omega)
  show 0 ≤ IntKind.i64.wrap ((BitVec.ofInt 64 (a : Int) ^^^ BitVec.ofInt 64 (b : Int)).toNat : Int)
  rw [BitVec.toNat_xor, h1, h2]
  simp [IntKind.wrap, IntKind.bits, IntKind.signed]
  omega

def Bytes (l : List Int) : Prop := ∀ x ∈ l, 0 ≤ x ∧ x ≤ 255

theorem bytes_rd {l : List Int} (h : Bytes l) (i : Int) : 0 ≤ rd l i ∧ rd l i ≤ 255 := by
  unfold rd
  by_cases hi : i.toNat < l.length
  · rw [List.getD_eq_getElem?_getD, List.getElem?_eq_getElem hi]
    exact h _ (List.getElem_mem hi)
  · rw [List.getD_eq_getElem?_getD, List.getElem?_eq_none (by omega)]
    simp

theorem tmod_range (a n : Int) (ha : 0 ≤ a) (hn : 1 ≤ n) : 0 ≤ a.tmod n ∧ a.tmod n < n := by
  rw [Int.tmod_eq_emod_of_nonneg ha]
  exact ⟨Int.emod_nonneg _ (by omega), Int.emod_lt_of_pos _ (by omega)⟩

theorem pick_gives (l : List Int) (hl : Bytes l) (hll : l.length ≤ 2000) (p n : Int) (k : Nat) (hp : 0 ≤ p) (hp2 : p ≤ 1000000) (hn : 1 ≤ n) (hn2 : n ≤ 1000000) (hk : 1 ≤ k) :
    ∃ r, spec_l6Rd_pick.f k l p n = some (r, p + 1) ∧ 0 ≤ r ∧ r < n := by
  obtain ⟨k, rfl⟩ : ∃ m, k = m + 1 := ⟨k - 1, by omega⟩
  unfold spec_l6Rd_pick.f
  rw [if_neg (by omega)]
  have ew : wrap64 (p + 1) = p + 1 := by unfold wrap64; omega
  have ew1 : wrap64 (p + 1 - 1) = p := by unfold wrap64; omega
  rw [ew]
  simp only [spec_l6Rd_pick.j0]
  rw [ew1]
  by_cases h0 : ((l.length : Int) == 0) = true
  · rw [if_pos h0]
    exact ⟨0, rfl, by omega, by omega⟩
  · rw [if_neg h0]
    have hne : ¬ (l.length : Int) = 0 := by simpa using h0
    have hr0 := bytes_rd hl
    have ewr : ∀ i, wrap64 (rd l i) = rd l i := fun i => by have := hr0 i; unfold wrap64; omega
    by_cases h1 : p < (l.length : Int)
    · rw [if_pos h1, if_pos hp, if_neg (by omega), ewr]
      exact ⟨_, rfl, tmod_range _ _ (hr0 _).1 hn⟩
    · rw [if_neg h1, if_neg hne]
      have e7 : wrap64 (wrap64 (p * 7) + 3) = p * 7 + 3 := by unfold wrap64; omega
      rw [e7]
      have q1 := tmod_range p (l.length : Int) hp (by omega)
      have q2 := tmod_range (p * 7 + 3) (l.length : Int) (by omega) (by omega)
      rw [if_pos q1.1, if_pos q1.2, if_pos q2.1, if_pos q2.2, if_neg (by omega)]
      refine ⟨_, rfl, ?_⟩
      have d1 : 0 ≤ p.tdiv (l.length : Int) ∧ p.tdiv (l.length : Int) ≤ p := by
        rw [Int.tdiv_eq_ediv_of_nonneg hp]
        exact ⟨Int.ediv_nonneg hp (by omega), Int.ediv_le_self _ hp⟩
      have b1 := hr0 (p.tmod (l.length : Int))
      have b2 := hr0 ((p * 7 + 3).tmod (l.length : Int))
      rw [ewr, ewr]
      generalize rd l (p.tmod (l.length : Int)) = u at *
      generalize rd l ((p * 7 + 3).tmod (l.length : Int)) = v at *
      generalize p.tdiv (l.length : Int) = q at *
      clear ew ew1 e7
      have eX : ∃ X, wrap64 (wrap64 (wrap64 (wrap64 (u * 131) + wrap64 (v * 1117)) + wrap64 (p * 29)) + wrap64 (wrap64 q * 53)) = X ∧ 0 ≤ X ∧ X < 9223372036854775808 := by
        rw [w64 (u * 131) (by omega), w64 (v * 1117) (by omega), w64 (p * 29) (by omega), w64 q (by omega), w64 (q * 53) (by omega), w64 (u * 131 + v * 1117) (by omega),
          w64 (u * 131 + v * 1117 + p * 29) (by omega), w64 (u * 131 + v * 1117 + p * 29 + q * 53) (by omega)]
        exact ⟨_, rfl, by omega, by omega⟩
      obtain ⟨X, eX, x0, x1⟩ := eX
      rw [eX]
      have eY : ∃ Y, wrap64 (X.tdiv 64) = Y ∧ 0 ≤ Y ∧ Y < 9223372036854775808 := by
        rw [Int.tdiv_eq_ediv_of_nonneg x0, w64 (X / 64) (by omega)]
        exact ⟨_, rfl, by omega, by omega⟩
      obtain ⟨Y, eY, y0, y1⟩ := eY
      rw [eY]
      exact tmod_range _ _ (xor_pos X Y x0 y0 x1 y1) hn

theorem open_gives (l : List Int) (hl : Bytes l) : ∃ b, spec_l6Open.f l = some (b, 0) ∧ Bytes b ∧ b.length ≤ 2000 := by
  unfold spec_l6Open.f
  by_cases h : (l.length : Int) > 2000
  · rw [if_pos h, if_pos (by omega)]
    exact ⟨_, rfl, fun x hx => hl x (List.mem_of_mem_take hx), by simp; omega⟩
  · rw [if_neg h]
    exact ⟨_, rfl, hl, by omega⟩

theorem bytes_of_wf {l : List Int} (h : ∀ x ∈ l, (Lit.int .u8 x).wf = true) : Bytes l := by
  intro x hx
  have := h x hx
  have hmin : IntKind.u8.min = 0 := rfl
  have hmax : IntKind.u8.max = 255 := rfl
  simp only [Lit.wf, Bool.and_eq_true, decide_eq_true_eq] at this
  omega

theorem draw_number (l : List Int) (hl : Bytes l) (k : Nat) (hk : 1 ≤ k) : ∃ r, spec_l92Number.f k l = some r ∧ -100 ≤ r ∧ r ≤ 100 := by
  obtain ⟨b, hb, hbb, hbl⟩ := open_gives l hl
  unfold spec_l92Number.f
  rw [hb]
  simp only [Option.bind_some]
  obtain ⟨r1, h1, a1, b1⟩ := pick_gives b hbb hbl 0 6 k (by omega) (by omega) (by omega) (by omega) hk
  rw [h1]; simp only [Option.bind_some]
  obtain ⟨r2, h2, a2, b2⟩ := pick_gives b hbb hbl (0 + 1) 12 k (by omega) (by omega) (by omega) (by omega) hk
  rw [h2]; simp only [Option.bind_some]
  obtain ⟨r3, h3, a3, b3⟩ := pick_gives b hbb hbl (0 + 1 + 1) 12 k (by omega) (by omega) (by omega) (by omega) hk
  rw [h3]; simp only [Option.bind_some]
  refine ⟨_, rfl, ?_⟩
  rw [Int.tdiv_eq_ediv_of_nonneg a2, Int.tdiv_eq_ediv_of_nonneg a3, w64 (r2 / 11) (by omega), w64 (r3 / 11) (by omega), w64 (1 + r1) (by omega), w64 (r2 / 11 * 2) (by omega), w64 (1 + r1 + r2 / 11 * 2) (by omega),
    w64 _ (by omega)]
  omega

/-! ### sums of fair ones -/
def fsum (n : Nat) : Int := if n = 1 then 1 else if n = 2 then 2 else if n = 3 then 6 else if n = 4 then 22 else if n = 5 then 92 else if n = 6 then 422 else 2074

theorem impl_fairsum_no (k : Nat) (n : Int) (hk : 1 ≤ k) (h : ¬ (1 ≤ n ∧ n ≤ 7)) : impl_PermFairSum.f k n = some (0, false) := by
  obtain ⟨k, rfl⟩ : ∃ m, k = m + 1 := ⟨k - 1, by omega⟩
  unfold impl_PermFairSum.f
  by_cases h1 : n < 1
  · rw [if_pos h1]; simp [impl_PermFairSum.j0]
  · have : n > 7 := by omega
    rw [if_neg h1]; simp [impl_PermFairSum.j0, this]

theorem impl_fairsum_1 : impl_PermFairSum.f 40 1 = some (fsum 1, true) := by decide +kernel
theorem impl_fairsum_2 : impl_PermFairSum.f 40 2 = some (fsum 2, true) := by decide +kernel
theorem impl_fairsum_3 : impl_PermFairSum.f 40 3 = some (fsum 3, true) := by decide +kernel
theorem impl_fairsum_4 : impl_PermFairSum.f 40 4 = some (fsum 4, true) := by decide +kernel
theorem impl_fairsum_5 : impl_PermFairSum.f 40 5 = some (fsum 5, true) := by decide +kernel
theorem impl_fairsum_6 : impl_PermFairSum.f 40 6 = some (fsum 6, true) := by decide +kernel
theorem impl_fairsum_7 : impl_PermFairSum.f 40 7 = some (fsum 7, true) := by decide +kernel
theorem impl_fairsum_eq (n : Int) : impl_PermFairSum.f 40 n = if 1 ≤ n ∧ n ≤ 7 then some (fsum n.toNat, true) else some (0, false) := by
  by_cases h : 1 ≤ n ∧ n ≤ 7
  · rw [if_pos h]
    have : n = 1 ∨ n = 2 ∨ n = 3 ∨ n = 4 ∨ n = 5 ∨ n = 6 ∨ n = 7 := by omega
    rcases this with rfl | rfl | rfl | rfl | rfl | rfl | rfl
    · exact impl_fairsum_1
    · exact impl_fairsum_2
    · exact impl_fairsum_3
    · exact impl_fairsum_4
    · exact impl_fairsum_5
    · exact impl_fairsum_6
    · exact impl_fairsum_7
  · rw [if_neg h, impl_fairsum_no 40 n (by omega) h]


end Go.Proofs.Ytgehkabfjpifiaa.QcL

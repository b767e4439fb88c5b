/- What is drawn: lists of at most eight numbers. -/
import Derived.Test.YtplndfadlconlaaPairs
import Derived.Test.YtplndfadlconlaaQr2
namespace Go.Proofs.Ytplndfadlconlaa.QrL
open Go.RowKit Go.Proofs.Ytplndfadlconlaa.Qr Go.Proofs.YtplndfadlconlaaW.PrintWords Go.Proofs.YtplndfadlconlaaW.PrintLast Go.Proofs.YtplndfadlconlaaW.PrintMore
open Go.Proofs.Ytplndfadlconlaa.S
set_option linter.unusedVariables false
set_option linter.unusedSimpArgs false

theorem w64 (x : Int) (h : -9223372036854775808 ≤ x ∧ x ≤ 9223372036854775807) : wrap64 x = x := by unfold wrap64; omega

theorem rd_getD (l : List Int) (i : Nat) : rd l (i : Int) = l.getD i 0 := by simp [rd]


theorem xor_pos (a b : Int) (ha : 0 ≤ a) (hb : 0 ≤ b) (ha2 : a < 9223372036854775808) (hb2 : b < 9223372036854775808) : 0 ≤ Go.bits .xor .i64 a b := by
  obtain ⟨a, rfl⟩ := Int.eq_ofNat_of_zero_le ha
  obtain ⟨b, rfl⟩ := Int.eq_ofNat_of_zero_le hb
  have hx : a ^^^ b < 2 ^ 63 := Nat.xor_lt_two_pow (by omega) (by omega)
  have h1 : (BitVec.ofInt 64 (a : Int)).toNat = a := by
    rw [BitVec.ofInt_natCast, BitVec.toNat_ofNat]; exact Nat.mod_eq_of_lt (by omega)
  have h2 : (BitVec.ofInt 64 (b : Int)).toNat = b := by
    rw [BitVec.ofInt_natCast, BitVec.toNat_ofNat]; exact Nat.mod_eq_of_lt (by omega)
  show 0 ≤ IntKind.i64.wrap ((BitVec.ofInt 64 (a : Int) ^^^ BitVec.ofInt 64 (b : Int)).toNat : Int)
  rw [BitVec.toNat_xor, h1, h2]
  simp [IntKind.wrap, IntKind.bits, IntKind.signed]
  omega

def Bytes (l : List Int) : Prop := ∀ x ∈ l, 0 ≤ x ∧ x ≤ 255

theorem bytes_rd {l : List Int} (h : Bytes l) (i : Int) : 0 ≤ rd l i ∧ rd l i ≤ 255 := by
  unfold rd
  by_cases hi : i.toNat < l.length
  · rw [List.getD_eq_getElem?_getD, List.getElem?_eq_getElem hi]
    exact h _ (List.getElem_mem hi)
  · rw [List.getD_eq_getElem?_getD, List.getElem?_eq_none (by omega)]
    simp

theorem tmod_range (a n : Int) (ha : 0 ≤ a) (hn : 1 ≤ n) : 0 ≤ a.tmod n ∧ a.tmod n < n := by
  rw [Int.tmod_eq_emod_of_nonneg ha]
  exact ⟨Int.emod_nonneg _ (by omega), Int.emod_lt_of_pos _ (by omega)⟩

theorem pick_gives (l : List Int) (hl : Bytes l) (hll : l.length ≤ 2000) (p n : Int) (k : Nat) (hp : 0 ≤ p) (hp2 : p ≤ 1000000) (hn : 1 ≤ n) (hn2 : n ≤ 1000000) (hk : 1 ≤ k) :
    ∃ r, spec_l6Rd_pick.f k l p n = some (r, p + 1) ∧ 0 ≤ r ∧ r < n := by
  obtain ⟨k, rfl⟩ : ∃ m, k = m + 1 := ⟨k - 1, by omega⟩
  unfold spec_l6Rd_pick.f
  rw [if_neg (by omega)]
  have ew : wrap64 (p + 1) = p + 1 := by unfold wrap64; omega
  have ew1 : wrap64 (p + 1 - 1) = p := by unfold wrap64; omega
  rw [ew]
  simp only [spec_l6Rd_pick.j0]
  rw [ew1]
  by_cases h0 : ((l.length : Int) == 0) = true
  · rw [if_pos h0]
    exact ⟨0, rfl, by omega, by omega⟩
  · rw [if_neg h0]
    have hne : ¬ (l.length : Int) = 0 := by simpa using h0
    have hr0 := bytes_rd hl
    have ewr : ∀ i, wrap64 (rd l i) = rd l i := fun i => by have := hr0 i; unfold wrap64; omega
    by_cases h1 : p < (l.length : Int)
    · rw [if_pos h1, if_pos hp, if_neg (by omega), ewr]
      exact ⟨_, rfl, tmod_range _ _ (hr0 _).1 hn⟩
    · rw [if_neg h1, if_neg hne]
      have e7 : wrap64 (wrap64 (p * 7) + 3) = p * 7 + 3 := by unfold wrap64; omega
      rw [e7]
      have q1 := tmod_range p (l.length : Int) hp (by omega)
      have q2 := tmod_range (p * 7 + 3) (l.length : Int) (by omega) (by omega)
      rw [if_pos q1.1, if_pos q1.2, if_pos q2.1, if_pos q2.2, if_neg (by omega)]
      refine ⟨_, rfl, ?_⟩
      have d1 : 0 ≤ p.tdiv (l.length : Int) ∧ p.tdiv (l.length : Int) ≤ p := by
        rw [Int.tdiv_eq_ediv_of_nonneg hp]
        exact ⟨Int.ediv_nonneg hp (by omega), Int.ediv_le_self _ hp⟩
      have b1 := hr0 (p.tmod (l.length : Int))
      have b2 := hr0 ((p * 7 + 3).tmod (l.length : Int))
      rw [ewr, ewr]
      generalize rd l (p.tmod (l.length : Int)) = u at *
      generalize rd l ((p * 7 + 3).tmod (l.length : Int)) = v at *
      generalize p.tdiv (l.length : Int) = q at *
      clear ew ew1 e7
      have eX : ∃ X, wrap64 (wrap64 (wrap64 (wrap64 (u * 131) + wrap64 (v * 1117)) + wrap64 (p * 29)) + wrap64 (wrap64 q * 53)) = X ∧ 0 ≤ X ∧ X < 9223372036854775808 := by
        rw [w64 (u * 131) (by omega), w64 (v * 1117) (by omega), w64 (p * 29) (by omega), w64 q (by omega), w64 (q * 53) (by omega), w64 (u * 131 + v * 1117) (by omega),
          w64 (u * 131 + v * 1117 + p * 29) (by omega), w64 (u * 131 + v * 1117 + p * 29 + q * 53) (by omega)]
        exact ⟨_, rfl, by omega, by omega⟩
      obtain ⟨X, eX, x0, x1⟩ := eX
      rw [eX]
      have eY : ∃ Y, wrap64 (X.tdiv 64) = Y ∧ 0 ≤ Y ∧ Y < 9223372036854775808 := by
        rw [Int.tdiv_eq_ediv_of_nonneg x0, w64 (X / 64) (by omega)]
        exact ⟨_, rfl, by omega, by omega⟩
      obtain ⟨Y, eY, y0, y1⟩ := eY
      rw [eY]
      exact tmod_range _ _ (xor_pos X Y x0 y0 x1 y1) hn

theorem open_gives (l : List Int) (hl : Bytes l) : ∃ b, spec_l6Open.f l = some (b, 0) ∧ Bytes b ∧ b.length ≤ 2000 := by
  unfold spec_l6Open.f
  by_cases h : (l.length : Int) > 2000
  · rw [if_pos h, if_pos (by omega)]
    exact ⟨_, rfl, fun x hx => hl x (List.mem_of_mem_take hx), by simp; omega⟩
  · rw [if_neg h]
    exact ⟨_, rfl, hl, by omega⟩

theorem bytes_of_wf {l : List Int} (h : ∀ x ∈ l, (Lit.int .u8 x).wf = true) : Bytes l := by
  intro x hx
  have := h x hx
  have hmin : IntKind.u8.min = 0 := rfl
  have hmax : IntKind.u8.max = 255 := rfl
  simp only [Lit.wf, Bool.and_eq_true, decide_eq_true_eq] at this
  omega

/-! ### What is drawn: lists of at most eight numbers -/
theorem permL_gives (b : List Int) (hb : Bytes b) (hbl : b.length ≤ 2000) (k : Nat) (hk : 1 ≤ k) : ∀ (m : Nat) (cur : List Int) (q : Int), 0 ≤ q → q + m ≤ 100000 → m + cur.length ≤ 8 →
    ∃ out, permL k b m cur q = some (out, q + m) ∧ out.length = cur.length + m := by
  intro m
  induction m with
  | zero => intro cur q _ _ _; exact ⟨cur, by simp [permL], by omega⟩
  | succ m ih =>
    intro cur q h0 h1 hm
    obtain ⟨r, hr, r0, r1⟩ := pick_gives b hb hbl q ((cur.length : Int) + 1) k h0 (by omega) (by omega) (by omega) hk
    have hl := ins_length cur r.toNat (cur.length : Int) (by omega)
    obtain ⟨out, ho, hol⟩ := ih (ins cur r.toNat (cur.length : Int)) (q + 1) (by omega) (by omega) (by omega)
    refine ⟨out, ?_, by omega⟩
    simp only [permL]
    rw [hr, Option.bind_some]
    simp only
    rw [if_pos ⟨r0, by omega⟩, ho]
    congr 2
    omega

theorem perm_gives (b : List Int) (hb : Bytes b) (hbl : b.length ≤ 2000) (k : Nat) (hk : 1 ≤ k) (p most : Int) (h0 : 0 ≤ p) (h1 : p ≤ 50000) (m1 : 1 ≤ most) (m8 : most ≤ 8) :
    ∃ r p', spec_l92Perm.f k b p most = some (r, p') ∧ 1 ≤ r.length ∧ r.length ≤ 8 ∧ 0 ≤ p' ∧ p' ≤ p + 10 := by
  obtain ⟨t, ht, t0, t1⟩ := pick_gives b hb hbl p most k h0 (by omega) m1 (by omega) hk
  obtain ⟨out, ho, hol⟩ := permL_gives b hb hbl k hk (1 + t).toNat [] (p + 1) (by omega) (by omega) (by simp; omega)
  obtain ⟨s, hs, s0, s1⟩ := pick_gives b hb hbl (p + 1 + ((1 + t).toNat : Int)) 30 k (by omega) (by omega) (by omega) (by omega) hk
  simp only [List.length_nil, Nat.zero_add] at hol
  refine ⟨if s = 0 then out.set 0 (1 + t) else out, p + 1 + ((1 + t).toNat : Int) + 1, ?_, ?_, ?_, ?_, ?_⟩
  · unfold spec_l92Perm.f
    rw [ht, Option.bind_some]
    simp only
    rw [if_pos ⟨t0, by omega⟩, ho, Option.bind_some]
    simp only
    rw [hs, Option.bind_some]
  · split <;> (try simp only [List.length_set]) <;> omega
  · split <;> (try simp only [List.length_set]) <;> omega
  · omega
  · omega

theorem drawn_gives (l : List Int) (hl : Bytes l) (k : Nat) (hk : 1 ≤ k) (most : Int) (m1 : 1 ≤ most) (m8 : most ≤ 8) : ∃ r, drawn most k l = some r ∧ 1 ≤ r.length ∧ r.length ≤ 8 := by
  obtain ⟨b, hb, hbb, hbl⟩ := open_gives l hl
  obtain ⟨r, p', hr, hr1, hr8, _⟩ := perm_gives b hbb hbl k hk 0 most (by omega) (by omega) m1 m8
  refine ⟨r, ?_, hr1, hr8⟩
  unfold drawn
  rw [hb, Option.bind_some]
  simp only
  rw [hr, Option.bind_some]

theorem one_gives (l : List Int) (hl : Bytes l) (k : Nat) (hk : 1 ≤ k) : ∃ r, spec_l92One.f k l = some r ∧ 1 ≤ r.length ∧ r.length ≤ 8 := drawn_gives l hl k hk 7 (by omega) (by omega)
theorem in_gives (l : List Int) (hl : Bytes l) (k : Nat) (hk : 1 ≤ k) : ∃ r, spec_DrawPermIn.f k l = some r ∧ 1 ≤ r.length ∧ r.length ≤ 8 := drawn_gives l hl k hk 8 (by omega) (by omega)
theorem pair_gives (l : List Int) (hl : Bytes l) (k : Nat) (hk : 1 ≤ k) : ∃ r1 r2, spec_l92Pair.f k l = some (r1, r2) ∧ r1.length ≤ 8 ∧ r2.length ≤ 8 := by
  obtain ⟨b, hb, hbb, hbl⟩ := open_gives l hl
  obtain ⟨r1, p1, hr1, _, hr8, p10, p11⟩ := perm_gives b hbb hbl k hk 0 4 (by omega) (by omega) (by omega) (by omega)
  obtain ⟨s, hs, s0, s1⟩ := pick_gives b hbb hbl p1 24 k p10 (by omega) (by omega) (by omega) hk
  obtain ⟨r2, p2, hr2, _, hr8', _, _⟩ := perm_gives b hbb hbl k hk (p1 + 1) (3 + s / 23) (by omega) (by omega) (by omega) (by omega)
  refine ⟨r1, r2, ?_, hr8, hr8'⟩
  unfold spec_l92Pair.f
  rw [hb, Option.bind_some]
  simp only
  rw [hr1, Option.bind_some]
  simp only
  rw [hs, Option.bind_some]
  simp only
  rw [if_pos ⟨s0, s1⟩, hr2, Option.bind_some]

end Go.Proofs.Ytplndfadlconlaa.QrL

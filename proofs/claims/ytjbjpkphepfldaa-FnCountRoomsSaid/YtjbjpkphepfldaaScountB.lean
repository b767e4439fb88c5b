/- spec.l1Rooms and spec.l10Counts: what they tell of all plans. -/
import Derived.Test.YtjbjpkphepfldaaScount
namespace Go.Proofs.Ytjbjpkphepfldaa.S
open Go.RowKit Go.Proofs.YtjbjpkphepfldaaW.PrintWords Go.Proofs.YtjbjpkphepfldaaW.PrintMore Go.Proofs.Ytjbjpkphepfldaa.Qm
set_option linter.unusedVariables false
set_option linter.unusedSimpArgs false

/-- With rounds enough it tells r. -/
def Ends {α : Type} (F : Nat → Option α) (r : α) : Prop := ∃ n, ∀ k, n ≤ k → F k = some r
theorem Ends.now {α : Type} {F : Nat → Option α} {r : α} (h : ∀ k, F (k + 1) = some r) : S.Ends F r := ⟨1, fun k hk => by rw [show k = (k - 1) + 1 by omega]; exact h _⟩
theorem Ends.back {α : Type} {F G : Nat → Option α} {r : α} (h : ∀ k, F (k + 1) = G k) (hg : S.Ends G r) : S.Ends F r := by
  obtain ⟨n, a⟩ := hg
  exact ⟨n + 1, fun k hk => by rw [show k = (k - 1) + 1 by omega]; exact (h _).trans (a _ (by omega))⟩
theorem Ends.get {α : Type} {F : Nat → Option α} {r : α} (h : S.Ends F r) : ∃ k, F k = some r := by
  obtain ⟨n, a⟩ := h
  exact ⟨n, a n (Nat.le_refl _)⟩

/-! ### l1Rooms -/
def smaxRow : List Int → Int → Int
  | [], n => n
  | x :: l, n => smaxRow l (max n (x - 96))
def smax : List (List Int) → Int → Int
  | [], n => n
  | l :: p, n => smax p (smaxRow l n)
def srooms (p : List (List Int)) : Int := smax p 0
def strs (p : List (List Int)) : List ByteArray := p.map strOfNums
theorem strs_len (p : List (List Int)) : (strs p).length = p.length := by simp [strs]
theorem strs_at {p : List (List Int)} {i : Nat} {L : List Int} (h : p[i]? = some L) : rdOf ByteArray.empty (strs p) (i : Int) = strOfNums L := by
  unfold rdOf strs
  rw [Int.toNat_natCast, List.getD_eq_getElem?_getD, List.getElem?_map, h]
  rfl
theorem bt_of {L : List Int} (hb : Byt L) {j : Nat} {y : Int} (hy : L[j]? = some y) : bt (strOfNums L) (j : Int) = y := by
  have hj : j < L.length := (List.getElem?_eq_some_iff.1 hy).1
  unfold bt
  rw [dif_pos (by rw [Int.toNat_natCast, strOfNums_size]; exact hj)]
  exact str_at hb hy _
theorem smaxRow_le : ∀ (l : List Int) (n : Int), 0 ≤ n → n ≤ 1000 → Byt l → 0 ≤ smaxRow l n ∧ smaxRow l n ≤ 1000
  | [], n, h0, h1, _ => ⟨h0, h1⟩
  | x :: l, n, h0, h1, hb => by
    have hx := hb x (List.mem_cons_self ..)
    exact smaxRow_le l _ (by omega) (by omega) (fun y hy => hb y (List.mem_cons_of_mem _ hy))
theorem mxm (a b : Int) : mx a b = max a b := by unfold mx; split <;> omega
theorem drop_cons {α : Type} {l : List α} {j : Nat} {y : α} (h : l[j]? = some y) : l.drop j = y :: l.drop (j + 1) := by
  have hj := (List.getElem?_eq_some_iff.1 h).1
  rw [List.drop_eq_getElem_cons hj]
  congr 1
  exact (List.getElem?_eq_some_iff.1 h).2
theorem rooms_row {p : List (List Int)} {i : Nat} {L : List Int} (hp : p.length ≤ 1000) (hL : p[i]? = some L) (hl : L.length ≤ 1000) (hb : Byt L) {R : Int} : ∀ (d c : Nat) (n : Int), c + d = L.length → 0 ≤ n → n ≤ 1000 → S.Ends (fun k => spec_l1Rooms.l0 k (strs p) (smaxRow (L.drop c) n) ((i + 1 : Nat) : Int)) R → S.Ends (fun k => spec_l1Rooms.l1 k (strs p) n (i : Int) (c : Int)) R := by
  have hi : i < p.length := (List.getElem?_eq_some_iff.1 hL).1
  have hsl := strs_len p
  intro d
  induction d with
  | zero =>
    intro c n e h0 h1 hn
    rw [List.drop_eq_nil_of_le (by omega)] at hn
    refine Ends.back (fun k => ?_) hn
    simp only [spec_l1Rooms.l1]
    rw [if_pos (by omega), if_pos (by omega), strs_at hL, strOfNums_size, if_neg (by omega), pw64 _ (by omega), show ((i : Int) + 1) = ((i + 1 : Nat) : Int) by omega]
    rfl
  | succ d ih =>
    intro c n e h0 h1 hn
    obtain ⟨y, hy⟩ : ∃ y, L[c]? = some y := ⟨_, List.getElem?_eq_getElem (by omega)⟩
    have hyb := hb y (List.mem_of_getElem? hy)
    rw [drop_cons hy] at hn
    simp only [smaxRow] at hn
    refine Ends.back (fun k => ?_) (ih (c + 1) (max n (y - 96)) (by omega) (by omega) (by omega) hn)
    simp only [spec_l1Rooms.l1]
    rw [if_pos (by omega), if_pos (by omega), strs_at hL, strOfNums_size, if_pos (by omega), if_pos (by omega), bt_of hb hy, pw64 y (by omega), pw64 (y - 97) (by omega), pw64 (y - 97 + 1) (by omega), mxm, pw64 ((c : Int) + 1) (by omega), show y - 97 + 1 = y - 96 by omega, show ((c : Int) + 1) = ((c + 1 : Nat) : Int) by omega]
theorem rooms_rows {p : List (List Int)} {Wd : Nat} (hp : p.length ≤ 1000) (hg : Gd p Wd) (hW : Wd ≤ 1000) : ∀ (d i : Nat) (n : Int), i + d = p.length → 0 ≤ n → n ≤ 1000 → S.Ends (fun k => spec_l1Rooms.l0 k (strs p) n (i : Int)) (smax (p.drop i) n) := by
  have hsl := strs_len p
  intro d
  induction d with
  | zero =>
    intro i n e h0 h1
    rw [List.drop_eq_nil_of_le (by omega)]
    refine Ends.now (fun k => ?_)
    simp only [spec_l1Rooms.l0]
    rw [if_neg (by omega)]
    rfl
  | succ d ih =>
    intro i n e h0 h1
    obtain ⟨L, hL⟩ : ∃ L, p[i]? = some L := ⟨_, List.getElem?_eq_getElem (by omega)⟩
    have hm := List.mem_of_getElem? hL
    have hb := smaxRow_le L n h0 h1 (hg.byt L hm)
    rw [drop_cons hL]
    simp only [smax]
    have := rooms_row hp hL (by rw [hg.row L hm]; exact hW) (hg.byt L hm) L.length 0 n (Nat.zero_add _) h0 h1 (by rw [List.drop_zero]; exact ih (i + 1) _ (by omega) hb.1 hb.2)
    refine Ends.back (fun k => ?_) this
    simp only [spec_l1Rooms.l0]
    rw [if_pos (by omega)]
    rfl
theorem srooms_calls {p : List (List Int)} {Wd : Nat} (hp : p.length ≤ 1000) (hg : Gd p Wd) (hW : Wd ≤ 1000) (u : Value) (W : World) (hps : PS W u p) :
    Calls Try.prog 22 #[u] W fun e w' => e = .returned (.int .i64 (srooms p)) ∧ Below W.heap.size W w' := by
  obtain ⟨o, c, rfl, hc, ho, hr⟩ := hps.cell
  have he := rooms_rows hp hg hW p.length 0 0 (Nat.zero_add _) (by omega) (by omega)
  rw [List.drop_zero] at he
  obtain ⟨k, hk⟩ := Ends.get he
  have hC : Kd.C Kd.string W (some ⟨o, 0, none⟩) (strs p).length (strs p) := by
    rw [strs_len]
    refine Kd.C_of_reads (enc := Value.string) (d := ByteArray.empty) (h1 := fun _ => rfl) ⟨strs_len p, Nat.le_trans hp (by decide), fun _ => ⟨_, rfl, fun j hj => ?_⟩⟩
    obtain ⟨L, hL⟩ : ∃ L, p[j]? = some L := ⟨_, List.getElem?_eq_getElem hj⟩
    rw [add_pl, hr j L hL, List.getD_eq_getElem?_getD]
    unfold strs
    rw [List.getElem?_map, hL]
    rfl
  have h2 := spec_l1Rooms.calls k (some ⟨o, 0, none⟩) c (strs p) (srooms p) W hC (by rw [strs_len]; exact hc) hk
  rw [strs_len] at h2
  exact h2

/-! ### l10Counts -/
theorem RL.keep {W W' : World} {v : Value} {ps : List (List (List Int))} (h : RL W v ps) {ob : Nat} {zs : List Int} (hob : W.heap[ob]? = some (.cells (zs.map (Value.int .i64)).toArray 3 (0, 0))) (hk : KeepS (fun k => k = ob) W W') : RL W' v ps := by
  obtain ⟨o, c, e, hr⟩ := h
  refine ⟨o, c, e, fun i p hp => ?_⟩
  obtain ⟨u, hu, hps⟩ := hr i p hp
  refine ⟨u, hk.cell hu (fun e2 => ?_), hps.keep (fun o2 cs hh => hk.same o2 (blk_lt hh) (fun e2 => ?_))⟩
  · have e3 : o = ob := e2
    subst e3
    rw [blk_cell hob, List.getElem?_toArray, List.getElem?_map] at hu
    obtain ⟨z, _, rfl⟩ := Option.map_eq_some_iff.1 hu
    obtain ⟨o3, c3, cs3, e4, _⟩ := hps
    cases e4
  · subst e2
    rw [hob] at hh
    have e3 := Option.some.inj hh
    injection e3 with _ e4 _
    exact absurd e4 (by decide)
theorem counts_R {W : World} {ob base N : Nat} {xs : List Nat} (h : W.heap[ob]? = some (.cells ((counts N xs).map (Value.int .i64)).toArray 3 (0, 0))) (hb : base ≤ ob) (hN : N ≤ 9) : Kd.R (Kd.int .i64) 3 W base (fun _ => True) (.slice (some ⟨ob, 0, none⟩) (N + 1) (N + 1)) (counts N xs) := by
  refine Kd.R_of_own ?_ (fun _ _ => trivial)
  rw [counts_len]
  refine ⟨by simp [encs, counts_len], .inr ⟨ob, N + 1, _, rfl, hb, h, Nat.le_refl _, Nat.le_trans (show N + 1 ≤ 10 by omega) (by decide), by simp [counts_len], ?_⟩⟩
  rw [List.take_of_length_le (by simp [counts_len])]
  rfl
theorem counts_nil (N : Nat) : (counts N []).map (Value.int .i64) = List.replicate (N + 1) (Value.int .i64 0) := by
  apply List.ext_getElem?
  intro j
  by_cases hj : j ≤ N
  · rw [List.getElem?_map, counts_at hj, List.getElem?_replicate, if_pos (by omega)]
    simp [wrap64]
  · rw [List.getElem?_eq_none (by rw [List.length_map, counts_len]; omega), List.getElem?_eq_none (by simp; omega)]
def okPlan (n m : Nat) (p : List (List Int)) : Bool := decide (p.length = n) && p.all (fun l => decide (l.length = m) && l.all (fun x => decide (0 ≤ x ∧ x < 256))) && decide (0 ≤ srooms p ∧ srooms p ≤ ((n * m : Nat) : Int))
theorem okPlan_out {n m : Nat} {p : List (List Int)} (h : okPlan n m p = true) : p.length = n ∧ Gd p m ∧ 0 ≤ srooms p ∧ srooms p ≤ ((n * m : Nat) : Int) := by
  unfold okPlan at h
  rw [Bool.and_eq_true, Bool.and_eq_true, List.all_eq_true] at h
  obtain ⟨⟨h1, h2⟩, h3⟩ := h
  have key : ∀ l ∈ p, l.length = m ∧ Byt l := fun l hl => by
    have := h2 l hl
    rw [Bool.and_eq_true, List.all_eq_true] at this
    exact ⟨of_decide_eq_true this.1, fun x hx => of_decide_eq_true (this.2 x hx)⟩
  exact ⟨of_decide_eq_true h1, ⟨fun l hl => (key l hl).1, fun l hl => (key l hl).2⟩, of_decide_eq_true h3⟩
/-- What l10Counts tells of all plans. -/
def spec_l10Counts.f (n m kind : Int) : Option (List Int) :=
  if decide (1 ≤ n ∧ n ≤ 6 ∧ 1 ≤ m ∧ m ≤ 6 ∧ n * m ≤ 9 ∧ kind = 0) = true then (sfill m.toNat 11 0 (blanks n.toNat m.toNat)).bind fun ps => if (decide (ps.length ≤ 1000) && ps.all (okPlan n.toNat m.toNat)) = true then some (counts (n.toNat * m.toNat) (ps.map fun p => (srooms p).toNat)) else none
  else none

set_option maxRecDepth 100000 in
set_option maxHeartbeats 8000000 in
theorem spec_l10Counts.calls (a0 a1 a2 : Int) (r : List Int) (w : World) (h : spec_l10Counts.f a0 a1 a2 = some r) :
    Calls Try.prog 13 #[.int .i64 a0, .int .i64 a1, .int .i64 a2] w fun e w' => ∃ v0_ : Value, e = .returned (v0_) ∧ Kd.R (Kd.int .i64) 3 w' w.heap.size (fun _ => True) v0_ r ∧ Below w.heap.size w w' := by
  obtain ⟨i3, hi3, hz30, hz31, hz32⟩ := info_parts info3
  unfold spec_l10Counts.f at h
  split at h
  case isFalse => cases h
  rename_i hs
  obtain ⟨g1, g2, g3, g4, g5, rfl⟩ := of_decide_eq_true hs
  obtain ⟨ps, hf, h⟩ := bind_out h
  split at h
  case isFalse => cases h
  rename_i hall
  obtain ⟨hps, hall⟩ := Eq.mp (Bool.and_eq_true _ _) hall
  have hps := of_decide_eq_true hps
  have hall := List.all_eq_true.1 hall
  obtain rfl := Option.some.inj h
  obtain ⟨n, rfl⟩ := Int.eq_ofNat_of_zero_le (show 0 ≤ a0 by omega)
  obtain ⟨m, rfl⟩ := Int.eq_ofNat_of_zero_le (show 0 ≤ a1 by omega)
  simp only [Int.toNat_natCast] at hf hall ⊢
  obtain ⟨N, hN⟩ : ∃ N, N = n * m := ⟨_, rfl⟩
  have hNi : (n : Int) * (m : Int) = (N : Int) := by rw [hN, Int.natCast_mul]
  have hN9 : N ≤ 9 := by omega
  obtain ⟨rs, hrs⟩ : ∃ rs, rs = ps.map fun p => (srooms p).toNat := ⟨_, rfl⟩
  have hok : ∀ (i : Nat) (p : List (List Int)), ps[i]? = some p → p.length = n ∧ Gd p m ∧ ∃ x : Nat, srooms p = (x : Int) ∧ x ≤ N ∧ rs[i]? = some x := fun i p hp => by
    obtain ⟨h1, h2, h3, h4⟩ := okPlan_out (hall p (List.mem_of_getElem? hp))
    refine ⟨h1, h2, (srooms p).toNat, by omega, by rw [hN]; omega, ?_⟩
    rw [hrs, List.getElem?_map, hp]
    rfl
  rw [← hN, ← hrs]
  have hrl : rs.length = ps.length := by rw [hrs, List.length_map]
  have p1 : i3.bytes * (N + 1) ≤ 281474976710656 := by rw [hz32]; omega
  have p2 : N + 1 ≤ maxLen := Nat.le_trans (show N + 1 ≤ 10 by omega) (by decide)
  have HOKP := Lib.hid hok
  have HRS := Lib.hid hrl
  have PC : Hid (∀ W', Calls Try.prog 19 #[.int .i64 (n : Nat), .int .i64 (m : Nat)] W' fun e w' => ∃ v', e = .returned v' ∧ RL w' v' ps ∧ Below W'.heap.size W' w') := Lib.hid (fun W' => plans_calls n m 11 (by omega) (by omega) (by omega) ps hf W')
  have hm1000 : m ≤ 1000 := by omega
  have hn1000 : n ≤ 1000 := by omega
  clear hok hrl hrs hall hf h hs hN g1 g2 g3 g4 g5
  go_enter Try.func13, Try.ntmps13
  go_wp2_with (first | (refine wpList_make_full _ rfl _ _ 22 rfl w.heap.size 3 i3 _ 1 Try.underlying22 hi3 hz30 hz31 .i64 .i64 _ _ (N + 1) rfl rfl (by simp [hNi]) (by simp [hNi]) p1 p2 (Nat.le_refl _) ?_; intro w1 hown1 hg1))
  obtain ⟨qa, -, -⟩ := own_arr hown1
  rw [show (Value.int .i64 0).cells = #[Value.int .i64 0] from rfl, toList_madeCells_one, Nat.mul_one, ← counts_nil] at qa
  have HM1 := Lib.hid qa
  have HB1 : Hid (Below w.heap.size w w1) := Lib.hid (Below.grown (Below.refl w.heap.size w) hg1 (Nat.le_refl _) (by simp))
  clear hown1 hg1 qa
  refine (PC.out w1).mono ?_
  rintro e w2 ⟨v2, rfl, hrl2, hb2⟩
  obtain ⟨o2, c2, e2, -⟩ := id hrl2
  subst e2
  have HM2 : Hid (w2.heap[w.heap.size]? = some (.cells ((counts N (rs.take 0)).map (Value.int .i64)).toArray 3 (0, 0))) := Lib.hid ((hb2.block _ (blk_lt HM1.out)).trans HM1.out)
  have HB2 : Hid (Below w.heap.size w w2) := Lib.hid (HB1.out.trans (hb2.mono HB1.out.size))
  have HRL := Lib.hid hrl2
  clear hrl2 hb2 HM1 HB1 PC
  go_wp2_with fail
  go_loopw [9] (fun kv wr => ∃ (X : Nat) (wl : World), wl = wr ∧ X ≤ ps.length ∧ kv = .int .i64 (X : Nat) ∧ Hid (wl.heap[w.heap.size]? = some (.cells ((counts N (rs.take X)).map (Value.int .i64)).toArray 3 (0, 0))) ∧ Hid (KeepS (fun k => k = w.heap.size) w2 wl)) (fun kv _ => ps.length + 1 - (Go.RowKit.intOf kv).toNat)
  case atStart => exact ⟨0, w2, rfl, Nat.zero_le _, rfl, HM2, KeepS.refl _ _⟩
  case round =>
    obtain ⟨X, wl, rfl, hX, rfl, HM, HK⟩ := hrel
    by_cases hlt : X < ps.length
    · obtain ⟨p, hp⟩ : ∃ p, ps[X]? = some p := ⟨_, List.getElem?_eq_getElem hlt⟩
      obtain ⟨k1, k2, x, hsr, hxN, hrx⟩ := HOKP.out X p hp
      obtain ⟨o3, c3, e3, hr3⟩ := HRL.out.keep HM2.out HK.out
      injection e3 with e4 e5 e6
      injection e4 with e4
      injection e4 with e4
      subst e4
      subst e6
      obtain ⟨u, hu, hpu⟩ := hr3 X p hp
      have SC := srooms_calls (by omega) k2 hm1000 u wl hpu
      rw [hsr] at SC
      have HSC := Lib.hid SC
      obtain ⟨ou, cu, rfl, -⟩ := hpu.cell
      have HRX := Lib.hid hrx
      have HLT := Lib.hid hlt
      have q1 : (X : Int) < (ps.length : Int) := by omega
      have q2 : (0 : Int) ≤ (X : Int) := by omega
      clear hp k1 k2 hsr hrx hr3 hpu SC hlt e5
      go_wp2_with fail
      refine HSC.out.mono ?_
      rintro e w3 ⟨rfl, hb3⟩
      have hm3 := (hb3.block _ (blk_lt HM.out)).trans HM.out
      have HM3 := Lib.hid hm3
      have HK3 : Hid (KeepS (fun k => k = w.heap.size) w2 w3) := Lib.hid (HK.out.trans (KeepS.of_below _ hb3))
      obtain ⟨q, hq⟩ : ∃ q, q = wrap64 (((rs.take X).count x : Nat) : Int) := ⟨_, rfl⟩
      have x2 : w3.cell? ⟨w.heap.size, x, none⟩ = some (.int .i64 q) := by
        rw [blk_cell hm3, List.getElem?_toArray, List.getElem?_map, counts_at hxN, hq]
        rfl
      have x3 : w3.frozen? ⟨w.heap.size, x, none⟩ = false := blk_frozen hm3 x
      have e1 : (x : Int) < (N : Int) + 1 := by omega
      have e2 : (0 : Int) ≤ (x : Int) := by omega
      have HQ := Lib.hid hq
      have hMN : Hid ((w3.setCell ⟨w.heap.size, x, none⟩ (.int .i64 (wrap64 (q + 1)))).heap[w.heap.size]? = some (.cells ((counts N (rs.take (X + 1))).map (Value.int .i64)).toArray 3 (0, 0))) := by
        rw [show rs.take (X + 1) = rs.take X ++ [x] by rw [List.take_add_one, HRX.out]; rfl, counts_step hxN, ← hq]
        exact Lib.hid (blk_put hm3 x _ (by rw [List.setIfInBounds_toArray, List.map_set]))
      have HKN : Hid (KeepS (fun k => k = w.heap.size) w2 (w3.setCell ⟨w.heap.size, x, none⟩ (.int .i64 (wrap64 (q + 1))))) := Lib.hid (HK3.out.trans (KeepS.setCell w3 ⟨w.heap.size, x, none⟩ _ (.inl rfl)))
      clear hb3 hm3 hq HM HK HSC
      go_wp2_with fail
      go_roundw
      case rel => exact ⟨X + 1, _, rfl, HLT.out, by push_cast; rfl, hMN, HKN⟩
      case measure => simp [intOf]; have := HLT.out; omega
    · obtain rfl : X = ps.length := by omega
      have hm := HM.out
      rw [List.take_of_length_le (by rw [HRS.out]; exact Nat.le_refl _)] at hm
      have HRR := Lib.hid (counts_R hm (Nat.le_refl w.heap.size) hN9)
      have HBB : Hid (Below w.heap.size w wl) := Lib.hid (HB2.out.trans (HK.out.below HB2.out.size (fun k e => by omega)))
      clear hm HM HK
      go_wp2
      go_ret
      exact ⟨_, rfl, HRR.out, HBB.out⟩
end Go.Proofs.Ytjbjpkphepfldaa.S

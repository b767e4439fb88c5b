/- everyPlan: what it fills, in plain Lean; its grid in memory; the search for a free cell; set. -/
import Derived.Test.YtjbjpkphepfldaaBlankC
import Derived.Test.YtjbjpkphepfldaaQr1
namespace Go.Proofs.Ytjbjpkphepfldaa.S
open Go.RowKit Go.Proofs.YtjbjpkphepfldaaW.PrintWords Go.Proofs.YtjbjpkphepfldaaW.PrintMore Go.Proofs.Ytjbjpkphepfldaa.Qr
set_option linter.unusedVariables false
set_option linter.unusedSimpArgs false

/-! ### in plain Lean -/
def putRow (v : Int) (c : Nat) : Nat → List Int → List Int
  | 0, l => l
  | w + 1, l => (putRow v c w l).set (c + w) v
def putG (v : Int) (r c w : Nat) : Nat → List (List Int) → List (List Int)
  | 0, g => g
  | h + 1, g => (putG v r c w h g).set (r + h) (putRow v c w ((putG v r c w h g).getD (r + h) []))
def frow : Nat → List (List Int) → Option Nat
  | _, [] => none
  | i, l :: g => if (-1 : Int) ∈ l then some i else frow (i + 1) g
def fcol : Nat → List Int → Option Nat
  | _, [] => none
  | i, x :: l => if (-1 : Int) = x then some i else fcol (i + 1) l
def onum : Option Nat → Int
  | none => -1
  | some i => (i : Nat)
def hloop (F : List (List Int) → Option (List Nat × List (List Int))) (row col w room : Nat) : Nat → Nat → List (List Int) → Option (List Nat × List (List Int))
  | 0, _, g => some ([], g)
  | j + 1, h, g => (F (putG (room : Nat) row col w h g)).bind fun x => (hloop F row col w room j (h + 1) (putG (-1) row col w h x.2)).bind fun y => some (x.1 ++ y.1, y.2)
def wloop (F : List (List Int) → Option (List Nat × List (List Int))) (H row col room : Nat) : Nat → Nat → List (List Int) → Option (List Nat × List (List Int))
  | 0, _, g => some ([], g)
  | j + 1, w, g => if gat g row (col + w - 1) < 0 then (hloop F row col w room (H - row) 1 g).bind fun x => (wloop F H row col room j (w + 1) x.2).bind fun y => some (x.1 ++ y.1, y.2) else some ([], g)
def fillM (H Wd : Nat) : Nat → Nat → List (List Int) → Option (List Nat × List (List Int))
  | 0, _, _ => none
  | n + 1, room, g => match frow 0 g with
    | none => if fine g = true ∧ (∀ l ∈ g, ∀ x ∈ l, 0 ≤ x ∧ x ≤ 1000) then some ([(roomsOf g).length], g) else none
    | some row => match fcol 0 (g.getD row []) with
      | none => none
      | some col => if room ≤ 100 then wloop (fillM H Wd n (room + 1)) H row col room (Wd - col) 1 g else none

theorem putRow_len (v : Int) (c : Nat) : ∀ (w : Nat) (l : List Int), (putRow v c w l).length = l.length
  | 0, l => rfl
  | w + 1, l => by simp only [putRow, List.length_set]; exact putRow_len v c w l
theorem putG_len (v : Int) (r c w : Nat) : ∀ (h : Nat) (g : List (List Int)), (putG v r c w h g).length = g.length
  | 0, g => rfl
  | h + 1, g => by simp only [putG, List.length_set]; exact putG_len v r c w h g
theorem frow_lt : ∀ (g : List (List Int)) (i r : Nat), frow i g = some r → i ≤ r ∧ r < i + g.length ∧ (-1 : Int) ∈ g.getD (r - i) []
  | [], i, r, h => by simp [frow] at h
  | l :: g, i, r, h => by
    simp only [frow] at h
    split at h
    · rename_i hm
      obtain rfl := Option.some.inj h
      refine ⟨Nat.le_refl _, by simp, ?_⟩
      rw [Nat.sub_self]
      exact hm
    · obtain ⟨h1, h2, h3⟩ := frow_lt g (i + 1) r h
      refine ⟨by omega, by simp only [List.length_cons]; omega, ?_⟩
      rw [show r - i = (r - (i + 1)) + 1 by omega, List.getD_cons_succ]
      exact h3
theorem fcol_lt : ∀ (l : List Int) (i c : Nat), fcol i l = some c → i ≤ c ∧ c < i + l.length
  | [], i, c, h => by simp [fcol] at h
  | x :: l, i, c, h => by
    simp only [fcol] at h
    split at h
    · obtain rfl := Option.some.inj h
      exact ⟨Nat.le_refl _, by simp⟩
    · obtain ⟨h1, h2⟩ := fcol_lt l (i + 1) c h
      exact ⟨by omega, by simp only [List.length_cons]; omega⟩

/-! ### slices.Index and slices.Contains -/
theorem pw64 (x : Int) (h : -9223372036854775808 ≤ x ∧ x ≤ 9223372036854775807) : wrap64 x = x := by unfold wrap64; omega
theorem prd_getD (l : List Int) (i : Nat) : rd l (i : Int) = l.getD i 0 := by simp [rd]
theorem fcol_none : ∀ (l : List Int) (i : Nat), fcol i l = none ↔ (-1 : Int) ∉ l
  | [], i => by simp [fcol]
  | x :: l, i => by
    have ih := fcol_none l (i + 1)
    by_cases h : (-1 : Int) = x
    · simp [fcol, h]
    · rw [List.mem_cons, not_or]
      have e : fcol i (x :: l) = fcol (i + 1) l := by
        simp only [fcol]
        rw [if_neg h]
      rw [e, ih]
      exact ⟨fun q => ⟨h, q⟩, fun q => q.2⟩
theorem pindex_l0 (l : List Int) (hb : l.length ≤ 1000) (d : Nat) : ∀ (k i : Nat), i ≤ l.length → l.length - i = d → d < k → slices_Index_int_int.l0 k l (-1) l.length (i : Int) = some (onum (fcol i (l.drop i))) := by
  induction d with
  | zero =>
    intro k i hi hd hk
    obtain ⟨k, rfl⟩ : ∃ m, k = m + 1 := ⟨k - 1, by omega⟩
    obtain rfl : i = l.length := by omega
    simp only [slices_Index_int_int.l0]
    rw [if_neg (by omega), List.drop_length]
    rfl
  | succ d ih =>
    intro k i hi hd hk
    obtain ⟨k, rfl⟩ : ∃ m, k = m + 1 := ⟨k - 1, by omega⟩
    have hlt : i < l.length := by omega
    simp only [slices_Index_int_int.l0]
    rw [if_pos (by omega), if_pos (by omega), if_pos (by omega), pw64 _ (by omega), prd_getD]
    have ea : l.drop i = l.getD i 0 :: l.drop (i + 1) := by
      rw [List.drop_eq_getElem_cons hlt, List.getD_eq_getElem?_getD, List.getElem?_eq_getElem hlt]; rfl
    rw [ea]
    simp only [fcol]
    by_cases h : (-1 : Int) = l.getD i 0
    · rw [if_pos h, if_pos h]
      rfl
    · rw [if_neg h, if_neg h]
      have e : ((i : Int) + 1) = ((i + 1 : Nat) : Int) := by omega
      rw [e]
      exact ih k (i + 1) (by omega) (by omega) (by omega)
theorem pindex_eq (l : List Int) (hb : l.length ≤ 1000) : slices_Index_int_int.f 1001 l (-1) = some (onum (fcol 0 l)) := by
  unfold slices_Index_int_int.f
  have := pindex_l0 l hb l.length 1001 0 (by omega) (by omega) (by omega)
  rw [List.drop_zero] at this
  exact this
theorem pcontains_eq (l : List Int) (hb : l.length ≤ 1000) : slices_Contains_int_int.f 1001 l (-1) = some (decide ((-1 : Int) ∈ l)) := by
  unfold slices_Contains_int_int.f
  rw [pindex_eq l hb, Option.bind_some]
  congr 1
  have := fcol_none l 0
  cases hc : fcol 0 l with
  | none =>
    have h2 : (-1 : Int) ∉ l := this.1 hc
    simp [onum, h2]
  | some j =>
    have h2 : (-1 : Int) ∈ l := by
      by_cases e : (-1 : Int) ∈ l
      · exact e
      · rw [this.2 e] at hc; cases hc
    simp [onum, h2]

/-! ### the grid in memory -/
structure GM (base o H Wd : Nat) (b : Nat → Nat) (g : List (List Int)) (W : World) : Prop where
  len : g.length = H
  row : ∀ l ∈ g, l.length = Wd
  out : W.heap[o]? = some (.cells ((List.range H).map fun i => Value.slice (some ⟨b i, 0, none⟩) Wd Wd).toArray 22 (0, 0))
  cells : ∀ i, i < H → W.heap[b i]? = some (.cells ((g.getD i []).map (Value.int .i64)).toArray 3 (0, 0))
  lo : base ≤ o
  lb : ∀ i, i < H → base ≤ b i
  inj : ∀ i j, i < H → j < H → b i = b j → i = j
  ne : ∀ i, i < H → b i ≠ o
section
variable {base o H Wd : Nat} {b : Nat → Nat} {g : List (List Int)} {W W' : World}
theorem GM.rowLen (h : GM base o H Wd b g W) {i : Nat} (hi : i < H) : (g.getD i []).length = Wd := by
  rw [List.getD_eq_getElem?_getD, List.getElem?_eq_getElem (by have := h.len; omega)]
  exact h.row _ (List.getElem_mem _)
theorem GM.outAt (h : GM base o H Wd b g W) {i : Nat} (hi : i < H) : W.cell? ⟨o, i, none⟩ = some (.slice (some ⟨b i, 0, none⟩) Wd Wd) := by
  rw [blk_cell h.out, List.getElem?_toArray, List.getElem?_map, List.getElem?_range hi]
  rfl
theorem GM.cellAt (h : GM base o H Wd b g W) {i c : Nat} (hi : i < H) (hc : c < Wd) : W.cell? ⟨b i, c, none⟩ = some (.int .i64 (gat g i c)) := by
  rw [blk_cell (h.cells i hi), List.getElem?_toArray, List.getElem?_map]
  unfold gat
  have := h.rowLen hi
  rw [List.getD_eq_getElem?_getD (l := g.getD i []), List.getElem?_eq_getElem (by omega)]
  rfl
theorem GM.free (h : GM base o H Wd b g W) {i c : Nat} (hi : i < H) : W.frozen? ⟨b i, c, none⟩ = false := blk_frozen (h.cells i hi) c
theorem GM.keep {S : Nat → Prop} (h : GM base o H Wd b g W) (hk : KeepS S W W') (h1 : ¬ S o) (h2 : ∀ i, i < H → ¬ S (b i)) : GM base o H Wd b g W' :=
  ⟨h.len, h.row, hk.heap h.out h1, fun i hi => hk.heap (h.cells i hi) (h2 i hi), h.lo, h.lb, h.inj, h.ne⟩
theorem GM.below (h : GM base o H Wd b g W) (hk : Below W.heap.size W W') : GM base o H Wd b g W' := h.keep (KeepS.of_below (fun _ => False) hk) (fun e => e) (fun _ _ e => e)
theorem GM.drewN (h : GM base o H Wd b g W) (n : Nat) : GM base o H Wd b g (W.drewN n) := h.keep (KeepS.drewN (fun _ => False) W n) (fun e => e) (fun _ _ e => e)
theorem GM.lt (h : GM base o H Wd b g W) {i : Nat} (hi : i < H) : b i < W.heap.size := blk_lt (h.cells i hi)
theorem GM.put (h : GM base o H Wd b g W) {i c : Nat} (hi : i < H) (hc : c < Wd) (v : Int) : GM base o H Wd b (g.set i ((g.getD i []).set c v)) (W.setCell ⟨b i, c, none⟩ (.int .i64 v)) := by
  have hrl := h.rowLen hi
  have hgl := h.len
  refine ⟨by rw [List.length_set]; exact h.len, fun l hl => ?_, ?_, fun j hj => ?_, h.lo, h.lb, h.inj, h.ne⟩
  · rcases List.mem_or_eq_of_mem_set hl with hl | rfl
    · exact h.row l hl
    · rw [List.length_set]; exact hrl
  · exact (Below.heap_setCell W ⟨b i, c, none⟩ _ o (fun e => h.ne i hi e.symm)).trans h.out
  · by_cases e : j = i
    · subst e
      rw [List.getD_eq_getElem?_getD (l := g.set j _), List.getElem?_set_self (by omega)]
      simp only [Option.getD_some]
      exact blk_put (h.cells j hi) c _ (by rw [List.setIfInBounds_toArray, List.map_set])
    · rw [List.getD_eq_getElem?_getD (l := g.set i _), List.getElem?_set_ne (fun x => e x.symm), ← List.getD_eq_getElem?_getD]
      exact (Below.heap_setCell W ⟨b i, c, none⟩ _ (b j) (fun x => e (h.inj j i hj hi x))).trans (h.cells j hj)
theorem add_pl (s j : Nat) : (⟨s, 0, none⟩ : Addr).add j = ⟨s, j, none⟩ := add_plain s j
theorem GM.rowC (h : GM base o H Wd b g W) (hW : Wd ≤ 1000) {i : Nat} (hi : i < H) : Kd.C (Kd.int .i64) W (some ⟨b i, 0, none⟩) (g.getD i []).length (g.getD i []) := by
  have hrl := h.rowLen hi
  refine Kd.C_of_reads (d := (0 : Int)) (h1 := fun _ => rfl) ⟨rfl, by rw [hrl]; exact Nat.le_trans hW (by decide), fun _ => ⟨_, rfl, fun j hj => ?_⟩⟩
  rw [add_pl, blk_cell (h.cells i hi), List.getElem?_toArray, List.getElem?_map, List.getD_eq_getElem?_getD (l := g.getD i []), List.getElem?_eq_getElem (by omega)]
  rfl
theorem GM.grid (h : GM base o H Wd b g W) : GridIn (fun k => k < W.heap.size) W (.slice (some ⟨o, 0, none⟩) H H) g := by
  have hgl := h.len
  refine ⟨some ⟨o, 0, none⟩, H, by rw [hgl], by omega, fun i l hl => ?_⟩
  have hi : i < H := by have := (List.getElem?_eq_some_iff.1 hl).1; omega
  have hgd : g.getD i [] = l := by rw [List.getD_eq_getElem?_getD, hl]; rfl
  have hrl := h.rowLen hi
  rw [hgd] at hrl
  refine ⟨o, _, rfl, blk_lt h.out, h.outAt hi, some ⟨b i, 0, none⟩, Wd, by rw [hrl], by omega, fun c x hx => ⟨b i, rfl, h.lt hi, ?_⟩⟩
  have hc : c < Wd := by have := (List.getElem?_eq_some_iff.1 hx).1; omega
  rw [h.cellAt hi hc]
  unfold gat
  rw [hgd, List.getD_eq_getElem?_getD, hx]
  rfl
end
theorem GM.of_blank {B o H Wd : Nat} {b : Nat → Nat} {vs : List Value} {W0 W : World} (h : BP B o H Wd H b vs W0 W) : GM B o H Wd b (List.replicate H (List.replicate Wd (-1))) W := by
  have hvs : vs = (List.range H).map fun i => Value.slice (some ⟨b i, 0, none⟩) Wd Wd := by
    apply List.ext_getElem?
    intro i
    by_cases hi : i < H
    · rw [(h.dn i hi).1, List.getElem?_map, List.getElem?_range hi]
      rfl
    · rw [List.getElem?_eq_none (by have := h.vl; omega), List.getElem?_eq_none (by simp; omega)]
  refine ⟨by simp, fun l hl => by rw [List.eq_of_mem_replicate hl]; simp, by rw [← hvs]; exact h.out, fun i hi => ?_, h.ob, fun i hi => (h.dn i hi).2.2.1, fun i j hi hj => h.inj i j hi hj, fun i hi => (h.dn i hi).2.2.2⟩
  have e : (List.replicate H (List.replicate Wd (-1 : Int))).getD i [] = List.replicate Wd (-1) := by rw [List.getD_eq_getElem?_getD, List.getElem?_replicate, if_pos hi]; rfl
  rw [e, List.map_replicate]
  exact (h.dn i hi).2.1

/-! ### the search for a free row -/
set_option maxRecDepth 100000 in
set_option maxHeartbeats 1000000 in
theorem frees_calls (A : Option Addr) (c : Nat) (l : List Int) (W : World) (hr : Kd.C (Kd.int .i64) W A l.length l) (hc : l.length ≤ c) (hl : l.length ≤ 1000) (y : Bool) (hy : decide ((-1 : Int) ∈ l) = y) :
    Calls Try.prog 35 #[.slice A l.length c] W fun e w' => e = .returned (.bool y) ∧ ∃ n, w' = W.drewN n := by
  have CC := Lib.hid (slices_Contains_int_int.calls 1001 A c l (-1) y W hr hc (by rw [pcontains_eq l hl, hy]))
  clear hr hc hl hy
  go_enter Try.func35, Try.ntmps35
  go_wp2_with fail
  refine CC.out.mono ?_
  rintro e w' ⟨rfl, nd, rfl⟩
  go_wp2
  go_ret
  exact ⟨rfl, nd, rfl⟩
set_option maxRecDepth 100000 in
set_option maxHeartbeats 4000000 in
theorem rows_calls {base o H Wd : Nat} {b : Nat → Nat} {g : List (List Int)} {W : World} (h : GM base o H Wd b g W) (hH : H ≤ 1000) (hW : Wd ≤ 1000) :
    Calls Try.prog 34 #[.slice (some ⟨o, 0, none⟩) H H, .func (Fn.func 35) #[] #[]] W fun e w' => e = .returned (.int .i64 (onum (frow 0 g))) ∧ ∃ n, w' = W.drewN n := by
  have HG := Lib.hid h
  have hen := enters_of (P := Try.prog) Try.func35 rfl rfl
  obtain ⟨rr, hrr⟩ : ∃ rr, rr = onum (frow 0 g) := ⟨_, rfl⟩
  rw [← hrr]
  have HRR := Lib.hid hrr
  clear h hrr
  go_enter Try.func34, Try.ntmps34
  go_wp2_with fail
  go_loopw [8] (fun kv wr => ∃ K n : Nat, wr = W.drewN n ∧ K ≤ H ∧ kv = .int .i64 (K : Nat) ∧ Hid (frow K (g.drop K) = frow 0 g)) (fun kv _ => H + 1 - (Go.RowKit.intOf kv).toNat)
  case atStart => exact ⟨0, 0, rfl, Nat.zero_le _, rfl, by rw [List.drop_zero]; exact Lib.hid rfl⟩
  case round =>
    obtain ⟨K, n, rfl, hK, rfl, HF⟩ := hrel
    by_cases hlt : K < H
    · have hrl := HG.out.rowLen hlt
      have q1 : (K : Int) < (H : Int) := by omega
      have q2 : (0 : Int) ≤ (K : Int) := by omega
      have x1 : (W.drewN n).cell? ⟨o, K, none⟩ = some (.slice (some ⟨b K, 0, none⟩) Wd Wd) := (HG.out.drewN n).outAt hlt
      have hd : g.drop K = g.getD K [] :: g.drop (K + 1) := by
        rw [List.drop_eq_getElem_cons (by have := HG.out.len; omega), List.getD_eq_getElem?_getD, List.getElem?_eq_getElem (by have := HG.out.len; omega)]
        rfl
      have hf := HF.out
      rw [hd] at hf
      simp only [frow] at hf
      by_cases he : (-1 : Int) ∈ g.getD K []
      · rw [if_pos he] at hf
        have D := frees_calls (some ⟨b K, 0, none⟩) Wd (g.getD K []) (W.drewN n) ((HG.out.drewN n).rowC hW hlt) (by omega) (by omega) true (decide_eq_true he)
        rw [hrl] at D
        have DD := Lib.hid D
        have hrr2 : rr = (K : Int) := by rw [HRR.out, ← hf]; rfl
        clear hf he D hd hrl
        subst hrr2
        go_wp2_with fail
        refine DD.out.mono ?_
        rintro e w' ⟨rfl, nd, rfl⟩
        go_wp2
        go_ret
        exact ⟨rfl, _, rfl⟩
      · rw [if_neg he] at hf
        have D := frees_calls (some ⟨b K, 0, none⟩) Wd (g.getD K []) (W.drewN n) ((HG.out.drewN n).rowC hW hlt) (by omega) (by omega) false (decide_eq_false he)
        rw [hrl] at D
        have DD := Lib.hid D
        have HF2 := Lib.hid hf
        clear hf he D hd hrl
        go_wp2_with fail
        refine DD.out.mono ?_
        rintro e w' ⟨rfl, nd, rfl⟩
        go_wp2_with fail
        go_roundw
        case rel => exact ⟨K + 1, _, rfl, hlt, by push_cast; rfl, HF2⟩
        case measure => simp [intOf]; omega
    · obtain rfl : K = H := by omega
      have hf := HF.out
      rw [List.drop_eq_nil_of_le (by have := HG.out.len; omega)] at hf
      have hrr2 : rr = -1 := by rw [HRR.out, ← hf]; rfl
      clear hf
      subst hrr2
      go_wp2
      go_ret
      exact ⟨rfl, _, rfl⟩
end Go.Proofs.Ytjbjpkphepfldaa.S

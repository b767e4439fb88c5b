/- everyPlan: fill, where a cell is free. -/
import Derived.Test.YtjbjpkphepfldaaFillC
namespace Go.Proofs.Ytjbjpkphepfldaa.S
open Go.RowKit Go.Proofs.YtjbjpkphepfldaaW.PrintWords Go.Proofs.YtjbjpkphepfldaaW.PrintMore Go.Proofs.Ytjbjpkphepfldaa.Qr
set_option linter.unusedVariables false
set_option linter.unusedSimpArgs false

/-- What fill comes to. -/
def FPost (K : Bx) (S : Nat → Prop) (J : List Nat → World → Prop) (pre xs : List Nat) (g' : List (List Int)) (W1 : World) (e : Ending) (W' : World) : Prop :=
  e = .returned (.bool true) ∧ FSt K g' W' ∧ KeepS (K.Q S) W1 W' ∧ J (pre ++ xs) W'
theorem bind_out {α β : Type} {x : Option α} {f : α → Option β} {y : β} (h : x.bind f = some y) : ∃ a, x = some a ∧ f a = some y := by
  cases x with
  | none => simp at h
  | some a => exact ⟨a, rfl, h⟩

set_option maxRecDepth 100000 in
set_option maxHeartbeats 16000000 in
theorem branch_calls (K : Bx) (S : Nat → Prop) (ok : K.Ok S) (J : List Nat → World → Prop) (B : Nat) (hB : B ≤ K.base) (hJ : ∀ s, R.Low B (J s)) (F : List (List Int) → Option (List Nat × List (List Int))) (room : Nat) (hroom : room ≤ 100) (XS : List Nat)
    (ih : ∀ g xs g' pre W1, F g = some (xs, g') → (∀ x ∈ xs, x ∈ XS) → FSt K g W1 → J pre W1 → Calls Try.prog 33 #[.int .i64 ((room : Int) + 1), .pointer (some ⟨K.bc, 0, none⟩), .pointer (some ⟨K.bv, 0, none⟩), .pointer (some ⟨K.bw, 0, none⟩), .pointer (some ⟨K.bh, 0, none⟩), .pointer (some ⟨K.bf, 0, none⟩)] W1 (FPost K S J pre xs g' W1))
    (g : List (List Int)) (row col : Nat) (hr : frow 0 g = some row) (hc : fcol 0 (g.getD row []) = some col) (xs : List Nat) (g' : List (List Int)) (pre : List Nat) (W1 : World) (h : wloop F K.H row col room (K.Wd - col) 1 g = some (xs, g')) (hx : ∀ x ∈ xs, x ∈ XS) (hst : FSt K g W1) (hj : J pre W1) :
    Calls Try.prog 33 #[.int .i64 (room : Nat), .pointer (some ⟨K.bc, 0, none⟩), .pointer (some ⟨K.bv, 0, none⟩), .pointer (some ⟨K.bw, 0, none⟩), .pointer (some ⟨K.bh, 0, none⟩), .pointer (some ⟨K.bf, 0, none⟩)] W1 (FPost K S J pre xs g' W1) := by
  have hgl := hst.gm.len
  obtain ⟨-, hr1, -⟩ := frow_lt g 0 row hr
  have hrH : row < K.H := by omega
  have hrl := hst.gm.rowLen hrH
  obtain ⟨-, hc1⟩ := fcol_lt _ 0 col hc
  have hcW : col < K.Wd := by omega
  have hK1 := ok.h1
  have hK2 := ok.h2
  have IX := rows_calls hst.gm ok.h1 ok.h2
  rw [hr, show onum (some row) = (row : Int) from rfl] at IX
  have IC : ∀ n, Calls Try.prog 38 #[.slice (some ⟨K.b row, 0, none⟩) (g.getD row []).length K.Wd, .int .i64 (-1)] (W1.drewN n) fun e w' => e = .returned (.int .i64 (col : Nat)) ∧ Drawn0 (W1.drewN n) w' := fun n =>
    slices_Index_int_int.calls 1001 _ K.Wd (g.getD row []) (-1) (col : Nat) (W1.drewN n) ((hst.gm.drewN n).rowC ok.h2 hrH) (by omega) (by rw [pindex_eq _ (by omega), hc]; rfl)
  rw [hrl] at IC
  have HIX := Lib.hid IX
  have HIC := Lib.hid IC
  have HST := Lib.hid hst
  have HJP := Lib.hid hj
  have HJL := Lib.hid hJ
  have HIH := Lib.hid ih
  have HOK := Lib.hid ok
  have HW := Lib.hid h
  have HX := Lib.hid hx
  have hen := enters_of (P := Try.prog) Try.func35 rfl rfl
  have hen2 := enters_of (P := Try.prog) Try.func39 rfl rfl
  have hen3 := enters_of (P := Try.prog) Try.func33 rfl rfl
  have hmf : ∀ (fn : Fn) (first cap : Array Value) (w : World), (Instr.makeFunc fn first cap).run Try.prog w = .ok (.func fn first cap) w := fun _ _ _ _ => rfl
  have x1 : W1.cell? ⟨K.bc, 0, none⟩ = some (.slice (some ⟨K.o, 0, none⟩) K.H K.H) := (blk_cell hst.bxc 0).trans rfl
  have y1 := hst.gm.outAt hrH
  have q1 : (row : Int) < (K.H : Int) := by omega
  have q2 : (0 : Int) ≤ (row : Int) := by omega
  clear IX IC hst hj hJ ih ok h hx hr hc hgl hrl hr1 hc1
  go_enter Try.func33, Try.ntmps33
  go_wp2_with fail
  refine HIX.out.mono ?_
  rintro e w1 ⟨rfl, nd, rfl⟩
  have x2 : (W1.drewN nd).cell? ⟨K.bc, 0, none⟩ = some (.slice (some ⟨K.o, 0, none⟩) K.H K.H) := x1
  have y2 : (W1.drewN nd).cell? ⟨K.o, row, none⟩ = some (.slice (some ⟨K.b row, 0, none⟩) K.Wd K.Wd) := y1
  go_wp2_with fail
  refine (HIC.out nd).mono ?_
  rintro e w2 ⟨rfl, nd2, rfl⟩
  obtain ⟨W2, hW2⟩ : ∃ W2, W2 = (W1.drewN nd).drewN nd2 := ⟨_, rfl⟩
  have HS2 : Hid (FSt K g W2) := Lib.hid (by rw [hW2]; exact HST.out.below HOK.out (pw_below_drewN (pw_below_drewN (Below.refl _ _) nd) nd2))
  have HK2 : Hid (KeepS (K.Q S) W1 W2) := Lib.hid (by rw [hW2]; exact (KeepS.drewN _ W1 nd).trans (KeepS.drewN _ _ nd2))
  have HJ2 : Hid (J pre W2) := Lib.hid (HJL.out _ _ _ HJP.out (by rw [hW2]; exact toR ((KeepS.drewN _ W1 nd).trans (KeepS.drewN _ _ nd2))))
  rw [← hW2]
  clear hW2 x1 y1 x2 y2 HST HJP HIX HIC
  go_wp2_with fail
  go_loopw [13] (fun kv wr => ∃ (w : Nat) (gw : List (List Int)) (s ys : List Nat) (wl : World), wl = wr ∧ 1 ≤ w ∧ w ≤ K.Wd - col + 1 ∧ kv = .int .i64 (w : Nat) ∧ Hid (FSt K gw wl) ∧ Hid (J s wl) ∧ Hid (KeepS (K.Q S) W1 wl) ∧ Hid (wloop F K.H row col room (K.Wd - col + 1 - w) w gw = some (ys, g')) ∧ Hid (s ++ ys = pre ++ xs) ∧ Hid (∀ x ∈ ys, x ∈ XS)) (fun kv _ => K.Wd + 2 - (Go.RowKit.intOf kv).toNat)
  case atStart => exact ⟨1, g, pre, xs, W2, rfl, Nat.le_refl _, by omega, rfl, HS2, HJ2, HK2, by rw [Nat.add_sub_cancel]; exact HW, Lib.hid rfl, HX⟩
  case round =>
    obtain ⟨w, gw, s, ys, wl, rfl, hw1, hw2, rfl, HS, HJ, HK, HE, HA, HXY⟩ := hrel
    clear HS2 HJ2 HK2 HW HX
    have xw : wl.cell? ⟨K.bw, 0, none⟩ = some (.int .i64 (K.Wd : Nat)) := (blk_cell HS.out.bxw 0).trans rfl
    have xc : wl.cell? ⟨K.bc, 0, none⟩ = some (.slice (some ⟨K.o, 0, none⟩) K.H K.H) := (blk_cell HS.out.bxc 0).trans rfl
    have he := HE.out
    by_cases hlt : col + w ≤ K.Wd
    · rw [show K.Wd - col + 1 - w = (K.Wd - col - w) + 1 by omega] at he
      simp only [wloop] at he
      have d1 : (col : Int) + (w : Int) ≤ (K.Wd : Int) := by omega
      have hc1W : col + w - 1 < K.Wd := by omega
      have yo := HS.out.gm.outAt hrH
      have yc := HS.out.gm.cellAt hrH hc1W
      have q3 : (col : Int) + (w : Int) - 1 < (K.Wd : Int) := by omega
      have q4 : (0 : Int) ≤ (col : Int) + (w : Int) - 1 := by omega
      by_cases hneg : gat gw row (col + w - 1) < 0
      · rw [if_pos hneg] at he
        have d2 : decide (gat gw row (col + w - 1) < 0) = true := decide_eq_true hneg
        obtain ⟨⟨xs1, gE⟩, hH, he⟩ := bind_out he
        obtain ⟨⟨ys1, gF⟩, hW, he⟩ := bind_out he
        have he2 := Option.some.inj he
        injection he2 with he3 he4
        subst he4
        generalize gat gw row (col + w - 1) = vv at *
        have HHL := Lib.hid hH
        have HWL := Lib.hid hW
        have HYE := Lib.hid he3
        have HLT := Lib.hid hlt
        clear he hH hW he3 HE hneg
        go_wp2_with fail
        clear d2 yo yc xw xc
        go_loopw [14] (fun kv wr => ∃ (h : Nat) (gh : List (List Int)) (s2 zs : List Nat) (wx : World), wx = wr ∧ 1 ≤ h ∧ h ≤ K.H - row + 1 ∧ kv = .int .i64 (h : Nat) ∧ Hid (FSt K gh wx) ∧ Hid (J s2 wx) ∧ Hid (KeepS (K.Q S) W1 wx) ∧ Hid (hloop F row col w room (K.H - row + 1 - h) h gh = some (zs, gE)) ∧ Hid (s2 ++ zs = s ++ xs1) ∧ Hid (∀ x ∈ zs, x ∈ XS)) (fun kv _ => K.H + 2 - (Go.RowKit.intOf kv).toNat)
        case atStart => exact ⟨1, gw, s, xs1, wl, rfl, Nat.le_refl _, by omega, rfl, HS, HJ, HK, by rw [Nat.add_sub_cancel]; exact HHL, Lib.hid rfl, Lib.hid (fun x hx => HXY.out x (by rw [← HYE.out]; exact List.mem_append_left _ hx))⟩
        case round =>
          obtain ⟨h, gh, s2, zs, wx, rfl, hh1, hh2, rfl, HSX, HJX, HKX, HEX, HAX, HXX⟩ := hrel
          clear HS HJ HK HHL
          have xh : wx.cell? ⟨K.bh, 0, none⟩ = some (.int .i64 (K.H : Nat)) := (blk_cell HSX.out.bxh 0).trans rfl
          have hex := HEX.out
          by_cases hlt : row + h ≤ K.H
          · rw [show K.H - row + 1 - h = (K.H - row - h) + 1 by omega] at hex
            simp only [hloop] at hex
            have d3 : (row : Int) + (h : Int) ≤ (K.H : Int) := by omega
            obtain ⟨⟨as1, gA⟩, hF1, hex⟩ := bind_out hex
            obtain ⟨⟨bs1, gB⟩, hH1, hex⟩ := bind_out hex
            have he2 := Option.some.inj hex
            injection he2 with he3 he4
            subst he4
            have HF1 := Lib.hid hF1
            have HH1 := Lib.hid hH1
            have HZE := Lib.hid he3
            have HLH := Lib.hid hlt
            clear hex hF1 hH1 he3 HEX
            go_wp2_with fail
            obtain ⟨wA, hwA⟩ : ∃ wA, wA = wx.alloc (Obj.cells #[.int .i64 (row : Nat), .int .i64 (col : Nat), .int .i64 (h : Nat), .int .i64 (w : Nat)] 68) := ⟨_, rfl⟩
            rw [← hwA]
            have hbA : Below wx.heap.size wx wA := by rw [hwA]; exact below_alloc (Below.refl _ _) _
            have hrA : wA.heap[wx.heap.size]? = some (.cells #[.int .i64 (row : Nat), .int .i64 (col : Nat), .int .i64 (h : Nat), .int .i64 (w : Nat)] 68 (0, 0)) := by rw [hwA]; exact new_at _ _
            have hsA := HSX.out.below HOK.out hbA
            have hnb : ∀ i, i < K.H → K.b i ≠ K.bc := fun i hi => (HOK.out.nQ _ (.inr (.inr ⟨i, hi, rfl⟩))).1
            have hnQ : ¬ K.Q S wx.heap.size := fun e => by
              have hsz := HSX.out.sz
              rcases e with e | e | ⟨i, hi, e⟩
              · have := HOK.out.nS _ (.inl e); omega
              · have := HOK.out.nS _ (.inr e); omega
              · have := HSX.out.gm.lt hi; omega
            have HNB := Lib.hid hnb
            have HNQ := Lib.hid hnQ
            have HRA := Lib.hid hrA
            have HSA := Lib.hid hsA
            have HKA : Hid (KeepS (K.Q S) W1 wA) := Lib.hid (HKX.out.trans (KeepS.of_below _ hbA))
            have HJA : Hid (J s2 wA) := Lib.hid (HJL.out _ _ _ HJX.out (toR (KeepS.of_below _ hbA)))
            clear hwA hbA hrA hsA hnb hnQ xh
            refine (set_calls HSA.out.gm K.bc HSA.out.bxc HNB.out (room : Nat) row col h w HLH.out HLT.out hK1 hK2).mono ?_
            rintro e w5 ⟨⟨u, rfl⟩, hgm5, hk5⟩
            have hs5 := HSA.out.go HOK.out (keepQ_rows hk5) hgm5
            have HS5 := Lib.hid hs5
            have HK5 : Hid (KeepS (K.Q S) W1 w5) := Lib.hid (HKA.out.trans (keepQ_rows hk5))
            have HJ5 : Hid (J s2 w5) := Lib.hid (HJL.out _ _ _ HJA.out (keepQ_low hk5 HOK.out hB))
            have HR5 := Lib.hid ((keepQ_rows (S := S) hk5).heap HRA.out HNQ.out)
            have xf : w5.cell? ⟨K.bf, 0, none⟩ = some (.func (.func 33) #[] #[.pointer (some ⟨K.bc, 0, none⟩), .pointer (some ⟨K.bv, 0, none⟩), .pointer (some ⟨K.bw, 0, none⟩), .pointer (some ⟨K.bh, 0, none⟩), .pointer (some ⟨K.bf, 0, none⟩)]) := (blk_cell hs5.bxf 0).trans rfl
            clear hs5 hgm5 hk5 HSA HKA HJA HRA HSX HJX HKX
            go_wp2_with fail
            refine (HIH.out _ _ _ _ w5 HF1.out (fun x hx => HXX.out x (by rw [← HZE.out]; exact List.mem_append_left _ hx)) HS5.out HJ5.out).mono ?_
            rintro e w7 ⟨rfl, hs7, hk7, hj7⟩
            have hr7 := hk7.heap HR5.out HNQ.out
            have r0 : w7.cell? ⟨wx.heap.size, 0, none⟩ = some (.int .i64 (row : Nat)) := (blk_cell hr7 0).trans rfl
            have r1 : w7.cell? ⟨wx.heap.size, 1, none⟩ = some (.int .i64 (col : Nat)) := (blk_cell hr7 1).trans rfl
            have r2 : w7.cell? ⟨wx.heap.size, 2, none⟩ = some (.int .i64 (h : Nat)) := (blk_cell hr7 2).trans rfl
            have r3 : w7.cell? ⟨wx.heap.size, 3, none⟩ = some (.int .i64 (w : Nat)) := (blk_cell hr7 3).trans rfl
            have HS7 := Lib.hid hs7
            have HK7 : Hid (KeepS (K.Q S) W1 w7) := Lib.hid (HK5.out.trans hk7)
            have HJ7 := Lib.hid hj7
            clear hs7 hk7 hj7 hr7 xf HS5 HK5 HJ5 HR5
            go_wp2_with fail
            refine (set_calls HS7.out.gm K.bc HS7.out.bxc HNB.out (-1) row col h w HLH.out HLT.out hK1 hK2).mono ?_
            rintro e w8 ⟨⟨u2, rfl⟩, hgm8, hk8⟩
            have HS8 := Lib.hid (HS7.out.go HOK.out (keepQ_rows hk8) hgm8)
            have HK8 : Hid (KeepS (K.Q S) W1 w8) := Lib.hid (HK7.out.trans (keepQ_rows hk8))
            have HJ8 : Hid (J (s2 ++ as1) w8) := Lib.hid (HJL.out _ _ _ HJ7.out (keepQ_low hk8 HOK.out hB))
            have HA8 : Hid ((s2 ++ as1) ++ bs1 = s ++ xs1) := Lib.hid (by rw [List.append_assoc, HZE.out]; exact HAX.out)
            have HX8 : Hid (∀ x ∈ bs1, x ∈ XS) := Lib.hid (fun x hx => HXX.out x (by rw [← HZE.out]; exact List.mem_append_right _ hx))
            have HH8 : Hid (hloop F row col w room (K.H - row + 1 - (h + 1)) (h + 1) (putG (-1) row col w h gA) = some (bs1, gB)) := Lib.hid (by rw [show K.H - row + 1 - (h + 1) = K.H - row - h by omega]; exact HH1.out)
            clear hgm8 hk8 r0 r1 r2 r3 HS7 HK7 HJ7 HH1 HAX HXX HZE
            go_wp2_with fail
            go_roundw
            case rel => exact ⟨h + 1, _, _, _, w8, rfl, by omega, by have := HLH.out; omega, by push_cast; rfl, HS8, HJ8, HK8, HH8, HA8, HX8⟩
            case measure => simp [intOf]; have := HLH.out; omega
          · rw [show K.H - row + 1 - h = 0 by omega] at hex
            simp only [hloop] at hex
            have he2 := Option.some.inj hex
            injection he2 with he3 he4
            subst he3
            subst he4
            have d3 : (K.H : Int) < (row : Int) + (h : Int) := by omega
            have HJN : Hid (J (s ++ xs1) wx) := Lib.hid (by rw [← HAX.out, List.append_nil]; exact HJX.out)
            have HWN : Hid (wloop F K.H row col room (K.Wd - col + 1 - (w + 1)) (w + 1) gh = some (ys1, gF)) := Lib.hid (by rw [show K.Wd - col + 1 - (w + 1) = K.Wd - col - w by omega]; exact HWL.out)
            have HAN : Hid ((s ++ xs1) ++ ys1 = pre ++ xs) := Lib.hid (by rw [List.append_assoc, HYE.out]; exact HA.out)
            have HXN : Hid (∀ x ∈ ys1, x ∈ XS) := Lib.hid (fun x hx => HXY.out x (by rw [← HYE.out]; exact List.mem_append_right _ hx))
            clear hex HEX HAX HJX HXX HWL HYE
            go_wp2_with fail
            go_roundw
            case rel => exact ⟨w + 1, gh, _, _, wx, rfl, by omega, by have := HLT.out; omega, by push_cast; rfl, HSX, HJN, HKX, HWN, HAN, HXN⟩
            case measure => simp [intOf]; have := HLT.out; omega
      · rw [if_neg hneg] at he
        have d2 : decide (gat gw row (col + w - 1) < 0) = false := decide_eq_false hneg
        have he2 := Option.some.inj he
        injection he2 with he3 he4
        subst he3
        subst he4
        generalize gat gw row (col + w - 1) = vv at *
        have HJN : Hid (J (pre ++ xs) wl) := Lib.hid (by rw [← HA.out, List.append_nil]; exact HJ.out)
        clear he HE hneg HA HJ
        go_wp2
        go_ret
        exact ⟨rfl, HS.out, HK.out, HJN.out⟩
    · rw [show K.Wd - col + 1 - w = 0 by omega] at he
      simp only [wloop] at he
      have d1 : (K.Wd : Int) < (col : Int) + (w : Int) := by omega
      have he2 := Option.some.inj he
      injection he2 with he3 he4
      subst he3
      subst he4
      have HJN : Hid (J (pre ++ xs) wl) := Lib.hid (by rw [← HA.out, List.append_nil]; exact HJ.out)
      clear he HE HA HJ
      go_wp2
      go_ret
      exact ⟨rfl, HS.out, HK.out, HJN.out⟩

theorem fill_calls (K : Bx) (S : Nat → Prop) (ok : K.Ok S) (J : List Nat → World → Prop) (B : Nat) (hB : B ≤ K.base) (hJ : ∀ s, R.Low B (J s)) (XS : List Nat)
    (hY : ∀ pre x args w, J pre w → x ∈ XS → B ≤ w.heap.size → EnPlan x args w → YieldAt Fence.wide 0 Try.prog K.l args w fun e W' => R.KeepS (fun k => S k ∨ k = K.l) w W' ∧ e = .returned (.bool true) ∧ J (pre ++ [x]) W') :
    ∀ (n room : Nat) (g : List (List Int)) (xs : List Nat) (g' : List (List Int)) (pre : List Nat) (W1 : World), fillM K.H K.Wd n room g = some (xs, g') → (∀ x ∈ xs, x ∈ XS) → FSt K g W1 → J pre W1 →
      Calls Try.prog 33 #[.int .i64 (room : Nat), .pointer (some ⟨K.bc, 0, none⟩), .pointer (some ⟨K.bv, 0, none⟩), .pointer (some ⟨K.bw, 0, none⟩), .pointer (some ⟨K.bh, 0, none⟩), .pointer (some ⟨K.bf, 0, none⟩)] W1 (FPost K S J pre xs g' W1) := by
  intro n
  induction n with
  | zero => intro room g xs g' pre W1 h; simp [fillM] at h
  | succ n ih =>
    intro room g xs g' pre W1 h hx hst hj
    simp only [fillM] at h
    cases hr : frow 0 g with
    | none =>
      rw [hr] at h
      simp only at h
      split at h
      case isFalse => cases h
      rename_i hfi
      have h2 := Option.some.inj h
      injection h2 with h3 h4
      subst h3
      subst h4
      exact leaf_calls K S ok J B hB hJ room g pre W1 hr hfi.1 hfi.2 hst hj (fun args w hj' hs he => hY pre _ args w hj' (hx _ (by simp)) hs he)
    | some row =>
      rw [hr] at h
      simp only at h
      cases hc : fcol 0 (g.getD row []) with
      | none => rw [hc] at h; cases h
      | some col =>
        rw [hc] at h
        simp only at h
        split at h
        case isFalse => cases h
        rename_i hroom
        exact branch_calls K S ok J B hB hJ (fillM K.H K.Wd n (room + 1)) room hroom XS (fun g xs g' pre W1 h hx hst hj => by
          have := ih (room + 1) g xs g' pre W1 h hx hst hj
          rw [Int.natCast_add] at this
          exact this) g row col hr hc xs g' pre W1 h hx hst hj
end Go.Proofs.Ytjbjpkphepfldaa.S

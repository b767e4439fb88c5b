/- spec.l5Fill and spec.l5Begin: what they tell, and their walks. -/
import Derived.Test.YtjbjpkphepfldaaPut
import Derived.Test.YtjbjpkphepfldaaFillD
namespace Go.Proofs.Ytjbjpkphepfldaa.S
open Go.RowKit Go.Proofs.YtjbjpkphepfldaaW.PrintWords Go.Proofs.YtjbjpkphepfldaaW.PrintMore
set_option linter.unusedVariables false
set_option linter.unusedSimpArgs false

/-! ### in plain Lean -/
def sfreeRow : Nat → List Int → Option Nat
  | _, [] => none
  | k, x :: l => if x = 46 then some k else sfreeRow (k + 1) l
def sfree : Nat → List (List Int) → Option (Nat × Nat)
  | _, [] => none
  | i, l :: p => match sfreeRow 0 l with
    | some k => some (i, k)
    | none => sfree (i + 1) p
def slh (F : List (List Int) → Option (List (List (List Int)))) (p : List (List Int)) (room i k w : Nat) : Nat → Nat → Option (List (List (List Int)))
  | 0, _ => some []
  | j + 1, h => (F (putG (97 + (room : Int)) i k w h p)).bind fun x => if x.length = 0 then none else (slh F p room i k w j (h + 1)).bind fun y => some (x ++ y)
def slw (F : List (List Int) → Option (List (List (List Int)))) (p : List (List Int)) (room i k : Nat) : Nat → Nat → Option (List (List (List Int)))
  | 0, _ => some []
  | j + 1, w => if gat p i (k + w - 1) = 46 then (slh F p room i k w (p.length - i) 1).bind fun x => (slw F p room i k j (w + 1)).bind fun y => some (x ++ y) else some []
def sfill (Wd : Nat) : Nat → Nat → List (List Int) → Option (List (List (List Int)))
  | 0, _, _ => none
  | n + 1, room, p => match sfree 0 p with
    | none => some [p]
    | some (i, k) => if room < 9 then (slw (sfill Wd n (room + 1)) p room i k (Wd - k) 1).bind fun r => if r.length ≤ 1000 then some r else none else none
theorem sfreeRow_lt : ∀ (l : List Int) (i k : Nat), sfreeRow i l = some k → i ≤ k ∧ k < i + l.length
  | [], i, k, h => by simp [sfreeRow] at h
  | x :: l, i, k, h => by
    simp only [sfreeRow] at h
    split at h
    · obtain rfl := Option.some.inj h
      exact ⟨Nat.le_refl _, by simp⟩
    · obtain ⟨h1, h2⟩ := sfreeRow_lt l (i + 1) k h
      exact ⟨by omega, by simp only [List.length_cons]; omega⟩
theorem sfree_lt : ∀ (p : List (List Int)) (j i k : Nat), sfree j p = some (i, k) → j ≤ i ∧ i < j + p.length ∧ k < (p.getD (i - j) []).length
  | [], j, i, k, h => by simp [sfree] at h
  | l :: p, j, i, k, h => by
    simp only [sfree] at h
    cases hr : sfreeRow 0 l with
    | some k' =>
      rw [hr] at h
      have he := Option.some.inj h
      injection he with e1 e2
      subst e1
      subst e2
      refine ⟨Nat.le_refl _, by simp, ?_⟩
      rw [Nat.sub_self]
      have := sfreeRow_lt l 0 k' hr
      simp only [List.getD_cons_zero]
      omega
    | none =>
      rw [hr] at h
      obtain ⟨h1, h2, h3⟩ := sfree_lt p (j + 1) i k h
      refine ⟨by omega, by simp only [List.length_cons]; omega, ?_⟩
      rw [show i - j = (i - (j + 1)) + 1 by omega, List.getD_cons_succ]
      exact h3

/-! ### lists of plans in memory -/
/-- Plans that can be read. -/
def RL (W : World) (v : Value) (ps : List (List (List Int))) : Prop := ∃ o c, v = .slice (some ⟨o, 0, none⟩) ps.length c ∧ ∀ (i : Nat) (p : List (List Int)), ps[i]? = some p → ∃ u, W.cell? ⟨o, i, none⟩ = some u ∧ PS W u p
/-- A list of plans of the call's own. -/
def LOwn (base : Nat) (W : World) (v : Value) (us : List Value) (ps : List (List (List Int))) : Prop := (∃ g c, v = .slice (some ⟨g, 0, none⟩) ps.length c) ∧ W.ownsRow base 43 1 v ps.length us ∧ us.length = ps.length ∧ ∀ (i : Nat) (p : List (List Int)), ps[i]? = some p → ∃ u, us[i]? = some u ∧ PS W u p
theorem LOwn.below {base : Nat} {W W' : World} {v : Value} {us : List Value} {ps : List (List (List Int))} (h : LOwn base W v us ps) (hb : Below W.heap.size W W') : LOwn base W' v us ps := by
  obtain ⟨⟨g, c, rfl⟩, ho, hl, hr⟩ := h
  exact ⟨⟨g, c, rfl⟩, own_keepV ho (KeepS.of_below (fun _ => False) hb) (fun _ _ e => e), hl, fun i p hp => by
    obtain ⟨u, hu, hps⟩ := hr i p hp
    exact ⟨u, hu, hps.below hb⟩⟩
theorem RL.cells {W : World} {v : Value} {ps : List (List (List Int))} (h : RL W v ps) : ∃ (o c : Nat) (us : List Value), v = .slice (some ⟨o, 0, none⟩) ps.length c ∧ us.length = ps.length ∧ (∀ (j : Nat) (u : Value), us[j]? = some u → W.cell? ((⟨o, 0, none⟩ : Addr).add j) = some u) ∧ (∀ u ∈ us, u.oneCell' = true) ∧ ∀ (i : Nat) (p : List (List Int)), ps[i]? = some p → ∃ u, us[i]? = some u ∧ PS W u p := by
  obtain ⟨o, c, e, hr⟩ := h
  refine ⟨o, c, (List.range ps.length).map fun j => (W.cell? ⟨o, j, none⟩).getD undef, e, by simp, fun j u hu => ?_, fun u hu => ?_, fun i p hp => ?_⟩
  · rw [List.getElem?_map] at hu
    obtain ⟨j', hj, rfl⟩ := Option.map_eq_some_iff.1 hu
    have hlt : j < ps.length := by have := (List.getElem?_eq_some_iff.1 hj).1; simpa using this
    rw [List.getElem?_range hlt] at hj
    obtain rfl := Option.some.inj hj
    obtain ⟨u, hu, _⟩ := hr j _ (List.getElem?_eq_getElem hlt)
    rw [add_pl, hu]
    rfl
  · rw [List.mem_map] at hu
    obtain ⟨j, hj, rfl⟩ := hu
    have hlt := List.mem_range.1 hj
    obtain ⟨u, hu, hps⟩ := hr j _ (List.getElem?_eq_getElem hlt)
    rw [hu]
    obtain ⟨o2, c2, cs, rfl, _⟩ := hps
    rfl
  · have hlt : i < ps.length := (List.getElem?_eq_some_iff.1 hp).1
    obtain ⟨u, hu, hps⟩ := hr i p hp
    refine ⟨u, ?_, hps⟩
    rw [List.getElem?_map, List.getElem?_range hlt, Option.map_some, hu]
    rfl
theorem LOwn.read {base : Nat} {W : World} {v : Value} {us : List Value} {ps : List (List (List Int))} (h : LOwn base W v us ps) : RL W v ps := by
  obtain ⟨⟨g, c, rfl⟩, ho, hl, hr⟩ := h
  refine ⟨g, c, rfl, fun i p hp => ?_⟩
  obtain ⟨u, hu, hps⟩ := hr i p hp
  have hlt : i < ps.length := (List.getElem?_eq_some_iff.1 hp).1
  exact ⟨u, (ho.cellAt i (by omega)).trans hu, hps⟩

/-! ### l5Begin -/
theorem info43 : (Try.prog.info? 43).map (fun i => (i.zero, i.size, i.bytes)) = some (some (.slice none 0 0), 1, 24) := by kernel_rfl
/-- How fill is called. -/
def Fills (F : List (List Int) → Option (List (List (List Int)))) (room : Int) (n Wd : Nat) : Prop := ∀ (p : List (List Int)) (v : Value) (W : World) (r : List (List (List Int))), PS W v p → Gd p Wd → p.length = n → F p = some r →
  Calls Try.prog 26 #[v, .int .i64 room] W fun e w' => ∃ v', e = .returned v' ∧ RL w' v' r ∧ Below W.heap.size W w'

theorem str_at {L : List Int} (hb : Byt L) {j : Nat} {y : Int} (hy : L[j]? = some y) : ∀ h : j < (strOfNums L).size, (((strOfNums L)[j]'h).toNat : Int) = y := fun h => by
  have hj : j < L.length := (List.getElem?_eq_some_iff.1 hy).1
  have e : (strOfNums L).data.toList[j]? = some ((strOfNums L)[j]'h) := by
    rw [List.getElem?_eq_getElem (by rw [strOfNums_data, List.length_map]; exact hj)]
    rfl
  rw [strOfNums_data, List.getElem?_map, hy] at e
  have e2 := Option.some.inj e
  rw [← e2, UInt8.toNat_ofNat']
  have := hb y (List.mem_of_getElem? hy)
  omega
theorem gat_of {p : List (List Int)} {i j : Nat} {L : List Int} (hL : p[i]? = some L) {y : Int} (hy : L[j]? = some y) : gat p i j = y := by
  unfold gat
  rw [List.getD_eq_getElem?_getD (l := p), hL]
  simp only [Option.getD_some]
  rw [List.getD_eq_getElem?_getD, hy]
  rfl

theorem LOwn.more {base : Nat} {w7 w8 : World} {g cg g2 c2 : Nat} {us us7 : List Value} {ps qs : List (List (List Int))} (h : LOwn base w7 (.slice (some ⟨g, 0, none⟩) ps.length cg) us ps) (hq : ∀ (i : Nat) (p : List (List Int)), qs[i]? = some p → ∃ u, us7[i]? = some u ∧ PS w7 u p) (hl : us7.length = qs.length)
    (hown : w8.ownsRow base 43 1 (.slice (some ⟨g2, 0, none⟩) (ps.length + qs.length) c2) (ps.length + qs.length) (us ++ us7)) (hgrow : w7.grownBy w8 (some g)) : LOwn base w8 (.slice (some ⟨g2, 0, none⟩) (ps.length + qs.length) c2) (us ++ us7) (ps ++ qs) := by
  obtain ⟨_, ho, hul, hr⟩ := h
  obtain ⟨cur, hcur⟩ : ∃ cur, w7.heap[g]? = some (.cells cur 43 (0, 0)) := by
    obtain ⟨_, ⟨e, _⟩ | ⟨g', cap, cur, e, _, hh, _⟩⟩ := ho
    · cases e
    · injection e with hA _ _
      injection hA with hA
      injection hA with hA _
      subst hA
      exact ⟨cur, hh⟩
  have hps : ∀ u p, PS w7 u p → PS w8 u p := fun u p hp => hp.keep (fun o cs hh => hgrow.block o (blk_lt hh) (fun e => by
    have e2 := Option.some.inj e
    subst e2
    rw [hh] at hcur
    have e3 := Option.some.inj hcur
    injection e3 with _ e4 _
    exact absurd e4 (by decide)))
  refine ⟨⟨g2, c2, by rw [List.length_append]⟩, by rw [List.length_append]; exact hown, by rw [List.length_append, List.length_append, hul, hl], fun i p hp => ?_⟩
  by_cases hi : i < ps.length
  · rw [List.getElem?_append_left hi] at hp
    obtain ⟨u, hu, hps2⟩ := hr i p hp
    exact ⟨u, by rw [List.getElem?_append_left (by omega)]; exact hu, hps u p hps2⟩
  · rw [List.getElem?_append_right (by omega)] at hp
    obtain ⟨u, hu, hps2⟩ := hq _ p hp
    exact ⟨u, by rw [List.getElem?_append_right (by omega), hul]; exact hu, hps u p hps2⟩

set_option maxRecDepth 100000 in
set_option maxHeartbeats 16000000 in
theorem begin_calls (F : List (List Int) → Option (List (List (List Int)))) (n Wd room : Nat) (hn0 : 1 ≤ n) (hn : n ≤ 1000) (hW : Wd ≤ 1000) (hroom : room < 9) (HFF : Fills F ((room : Int) + 1) n Wd) (p : List (List Int)) (v : Value) (W : World) (hp : PS W v p) (hg : Gd p Wd) (hpl : p.length = n) (i k : Nat) (hi : i < n) (hk : k < Wd)
    (r : List (List (List Int))) (hr : slw F p room i k (Wd - k) 1 = some r) (hrl : r.length ≤ 1000) :
    Calls Try.prog 40 #[v, .int .i64 (room : Nat), .int .i64 (i : Nat), .int .i64 (k : Nat)] W fun e w' => ∃ v', e = .returned v' ∧ RL w' v' r ∧ Below W.heap.size W w' := by
  obtain ⟨i43, hi43, hz0, hz1, hz2⟩ := info_parts info43
  have HP := Lib.hid hp
  obtain ⟨o, c, rfl, hc, hoW, hrd⟩ := hp.cell
  rw [hpl] at HP ⊢
  obtain ⟨L, hL⟩ : ∃ L, p[i]? = some L := ⟨_, List.getElem?_eq_getElem (by omega)⟩
  have hLl := hg.row L (List.mem_of_getElem? hL)
  have hLb := hg.byt L (List.mem_of_getElem? hL)
  have hx : W.cell? ⟨o, i, none⟩ = some (.string (strOfNums L)) := hrd i L hL
  have HLA : Hid (∀ j y, L[j]? = some y → ∀ h : j < (strOfNums L).size, (((strOfNums L)[j]'h).toNat : Int) = y) := Lib.hid (fun j y hy => str_at hLb hy)
  have hsz : (strOfNums L).size = Wd := by rw [strOfNums_size]; exact hLl
  have HG := Lib.hid hg
  have HPL := Lib.hid hpl
  have HL := Lib.hid hL
  have HLL := Lib.hid hLl
  have HX := Lib.hid hx
  have HSW := Lib.hid hr
  have HF := Lib.hid HFF
  have HRL := Lib.hid hrl
  have hb9 : ((room : Int) == 9) = false := by simp; omega
  have q1 : (i : Int) < (n : Int) := by omega
  have q2 : (0 : Int) ≤ (i : Int) := by omega
  clear hp hrd hLb hg hpl hL hLl hx hr HFF hrl hc
  generalize strOfNums L = s at *
  go_enter Try.func40, Try.ntmps40
  go_wp2_with fail
  have HO0 : Hid (LOwn W.heap.size (W.alloc (Obj.cells #[] 43)) (.slice (some ⟨W.heap.size, 0, none⟩) 0 0) [] []) := Lib.hid ⟨⟨_, _, rfl⟩, World.ownsRow_lit W #[] 0 (Nat.le_refl _) (by decide) rfl, rfl, fun i p h => by simp at h⟩
  have HB0 : Hid (Below W.heap.size W (W.alloc (Obj.cells #[] 43))) := Lib.hid (below_alloc (Below.refl _ _) _)
  generalize W.alloc (Obj.cells #[] 43) = w1 at *
  go_loopw [9, 10] (fun ov kv wr => ∃ (w : Nat) (t ys : List (List (List Int))) (us : List Value) (wl : World), wl = wr ∧ 1 ≤ w ∧ w ≤ Wd - k + 1 ∧ kv = .int .i64 (w : Nat) ∧ Hid (LOwn W.heap.size wl ov us t) ∧ Hid (Below W.heap.size W wl) ∧ Hid (slw F p room i k (Wd - k + 1 - w) w = some ys) ∧ Hid (t ++ ys = r)) (fun _ kv _ => Wd + 2 - (Go.RowKit.intOf kv).toNat)
  case atStart => exact ⟨1, [], r, [], w1, rfl, Nat.le_refl _, by omega, rfl, HO0, HB0, by rw [Nat.add_sub_cancel]; exact HSW, Lib.hid rfl⟩
  case round =>
    obtain ⟨w, t, ys, us, wl, rfl, hw1, hw2, rfl, HO, HB, HE, HA⟩ := hrel
    clear HO0 HB0 HSW
    have x1 := (HB.out.cell hoW).trans HX.out
    have he := HE.out
    by_cases hlt : k + w ≤ Wd
    · rw [show Wd - k + 1 - w = (Wd - k - w) + 1 by omega] at he
      simp only [slw] at he
      have d1 : (k : Int) + (w : Int) ≤ (s.size : Int) := by omega
      obtain ⟨y, hy⟩ : ∃ y, L[k + w - 1]? = some y := ⟨_, List.getElem?_eq_getElem (by have := HLL.out; omega)⟩
      have hyv := HLA.out _ _ hy
      rw [gat_of HL.out hy] at he
      have q3 : (k : Int) + (w : Int) - 1 < (s.size : Int) := by omega
      have q4 : (0 : Int) ≤ (k : Int) + (w : Int) - 1 := by omega
      have q5 : k + w - 1 < s.size := by omega
      by_cases hdot : y = 46
      · rw [if_pos hdot] at he
        have d2 : (y == 46) = true := by simp [hdot]
        obtain ⟨xs1, hH, he⟩ := bind_out he
        obtain ⟨ys1, hWW, he⟩ := bind_out he
        have he2 := Option.some.inj he
        have HHL := Lib.hid hH
        have HWL := Lib.hid hWW
        have HYE := Lib.hid he2
        have HLT := Lib.hid hlt
        clear he hH hWW he2 HE hy hdot
        go_wp2_with fail
        clear d2 q3 q4 q5 x1 hyv
        go_loopw [9, 11] (fun ov kv wr => ∃ (h : Nat) (t2 zs : List (List (List Int))) (us2 : List Value) (wx : World), wx = wr ∧ 1 ≤ h ∧ h ≤ n - i + 1 ∧ kv = .int .i64 (h : Nat) ∧ Hid (LOwn W.heap.size wx ov us2 t2) ∧ Hid (Below W.heap.size W wx) ∧ Hid (slh F p room i k w (n - i + 1 - h) h = some zs) ∧ Hid (t2 ++ zs = t ++ xs1)) (fun _ kv _ => n + 2 - (Go.RowKit.intOf kv).toNat)
        case atStart => exact ⟨1, t, xs1, us, wl, rfl, Nat.le_refl _, by omega, rfl, HO, HB, by rw [Nat.add_sub_cancel]; rw [HPL.out] at HHL; exact HHL, Lib.hid rfl⟩
        case round =>
          obtain ⟨h, t2, zs, us2, wx, rfl, hh1, hh2, rfl, HOX, HBX, HEX, HAX⟩ := hrel
          clear HO HB HHL
          obtain ⟨gx, cx, rfl⟩ := HOX.out.1
          have hex := HEX.out
          by_cases hlh : i + h ≤ n
          · rw [show n - i + 1 - h = (n - i - h) + 1 by omega] at hex
            simp only [slh] at hex
            have d3 : (i : Int) + (h : Int) ≤ (n : Int) := by omega
            obtain ⟨as1, hF1, hex⟩ := bind_out hex
            split at hex
            case isTrue => cases hex
            rename_i hne
            obtain ⟨bs1, hH1, hex⟩ := bind_out hex
            have he2 := Option.some.inj hex
            have hw2 : IntKind.u8.wrap (97 + (room : Int)) = 97 + (room : Int) := by
              simp [IntKind.wrap, IntKind.bits, IntKind.signed]
              omega
            have HF1 := Lib.hid hF1
            have HH1 := Lib.hid hH1
            have HZE := Lib.hid he2
            have HNE := Lib.hid hne
            have HLH := Lib.hid hlh
            have HPC := Lib.hid (put_calls p Wd _ wx (HP.out.keep (fun o cs hh => HBX.out.block o (blk_lt hh))) HG.out (by rw [HPL.out]; omega) (by rw [HPL.out]; omega) hW i k h w (by rw [HPL.out]; exact hlh) hlt (97 + (room : Int)) (by omega))
            clear hex hF1 hH1 he2 hne hlh HEX
            go_wp2_with fail
            refine HPC.out.mono ?_
            rintro e w5 ⟨v5, rfl, hps5, hb5⟩
            have hgd5 : Gd (putG (97 + (room : Int)) i k w h p) Wd := HG.out.put (by omega) h (by rw [HPL.out]; exact HLH.out)
            have FC := HF.out _ v5 w5 as1 hps5 hgd5 (by rw [putG_len]; exact HPL.out) HF1.out
            have HFC := Lib.hid FC
            have HB5 : Hid (Below wx.heap.size wx w5) := Lib.hid hb5
            clear hps5 hgd5 FC hb5 HPC
            go_wp2_with fail
            refine HFC.out.mono ?_
            rintro e w7 ⟨v7, rfl, hrl7, hb7⟩
            obtain ⟨o7, c7, us7, rfl, ul7, uc7, uo7, up7⟩ := hrl7.cells
            have hb57 : Below wx.heap.size wx w7 := HB5.out.trans (hb7.mono HB5.out.size)
            have HO7 := Lib.hid (HOX.out.below hb57)
            have HB7 : Hid (Below W.heap.size W w7) := Lib.hid (HBX.out.trans (hb57.mono HBX.out.size))
            have hlen : t2.length + as1.length ≤ 1000 := by
              have h1 := congrArg List.length HAX.out
              have h2 := congrArg List.length HZE.out
              have h3 := congrArg List.length HYE.out
              have h4 := congrArg List.length HA.out
              have h5 := HRL.out
              simp only [List.length_append] at h1 h2 h3 h4
              omega
            have hpos : 0 < as1.length := by have := HNE.out; omega
            have p1 : t2.length + as1.length ≤ maxLen := Nat.le_trans hlen (by decide)
            have p2 : (t2.length + as1.length) * 24 ≤ 140737488355328 := by omega
            have hul : us7.length = as1.length * 1 := by omega
            have HUL := Lib.hid ul7
            have HUC := Lib.hid uc7
            have HUO := Lib.hid uo7
            have HUP := Lib.hid up7
            clear hrl7 hb7 hb57 ul7 uc7 uo7 up7 hlen HOX HBX HB5 HFC
            go_wp2_with (first | (at_builtin; refine wpList_append_lies _ rfl _ _ 40 rfl W.heap.size 43 i43 _ 1 24 Try.underlying40 hi43 hz0 hz1 hz2 rfl (by omega) (.slice (some ⟨gx, 0, none⟩) t2.length cx) t2.length us2 rfl HO7.out.2.1 ⟨o7, 0, none⟩ as1.length c7 us7 rfl hul HUC.out HUO.out hpos p1 p2 HB7.out.size w7.heap.size rfl ?_; intro g2 c2 w8 hown hgrow hat hlt8))
            have HO8 := Lib.hid (HO7.out.more HUP.out HUL.out hown hgrow)
            have HB8 : Hid (Below W.heap.size W w8) := Lib.hid (Below.grown HB7.out hgrow HB7.out.size (fun j e => by have e2 : gx = j := Option.some.inj e; subst e2; exact (HO7.out.2.1.lt gx rfl).1))
            have HH8 : Hid (slh F p room i k w (n - i + 1 - (h + 1)) (h + 1) = some bs1) := Lib.hid (by rw [show n - i + 1 - (h + 1) = n - i - h by omega]; exact HH1.out)
            have HA8 : Hid ((t2 ++ as1) ++ bs1 = t ++ xs1) := Lib.hid (by rw [List.append_assoc, HZE.out]; exact HAX.out)
            clear hown hgrow hat hlt8 HO7 HB7 HUL HUC HUO HUP HH1 HAX HZE hul
            go_wp2_with fail
            go_roundw
            case rel => exact ⟨h + 1, t2 ++ as1, bs1, _, w8, rfl, by omega, by have := HLH.out; omega, by push_cast; rfl, HO8, HB8, HH8, HA8⟩
            case measure => simp [intOf]; have := HLH.out; omega
          · rw [show n - i + 1 - h = 0 by omega] at hex
            simp only [slh] at hex
            have he2 := Option.some.inj hex
            subst he2
            have d3 : (n : Int) < (i : Int) + (h : Int) := by omega
            have HWN : Hid (slw F p room i k (Wd - k + 1 - (w + 1)) (w + 1) = some ys1) := Lib.hid (by rw [show Wd - k + 1 - (w + 1) = Wd - k - w by omega]; exact HWL.out)
            have HAN : Hid (t2 ++ ys1 = r) := Lib.hid (by
              have h1 := HAX.out
              rw [List.append_nil] at h1
              rw [h1, List.append_assoc, HYE.out]
              exact HA.out)
            clear hex HEX HAX HWL HYE HA
            go_wp2_with fail
            go_roundw
            case rel => exact ⟨w + 1, t2, ys1, us2, wx, rfl, by omega, by have := HLT.out; omega, by push_cast; rfl, HOX, HBX, HWN, HAN⟩
            case measure => simp [intOf]; have := HLT.out; omega
      · rw [if_neg hdot] at he
        have d2 : (y == 46) = false := by simp [hdot]
        have he2 := Option.some.inj he
        subst he2
        have HAN : Hid (t = r) := Lib.hid (by have := HA.out; rw [List.append_nil] at this; exact this)
        clear he HE hdot HA hy
        go_wp2
        go_ret
        refine ⟨_, rfl, ?_, HB.out⟩
        rw [← HAN.out]
        exact HO.out.read
    · rw [show Wd - k + 1 - w = 0 by omega] at he
      simp only [slw] at he
      have he2 := Option.some.inj he
      subst he2
      have d1 : (s.size : Int) < (k : Int) + (w : Int) := by omega
      have HAN : Hid (t = r) := Lib.hid (by have := HA.out; rw [List.append_nil] at this; exact this)
      clear he HE HA
      go_wp2
      go_ret
      refine ⟨_, rfl, ?_, HB.out⟩
      rw [← HAN.out]
      exact HO.out.read
end Go.Proofs.Ytjbjpkphepfldaa.S

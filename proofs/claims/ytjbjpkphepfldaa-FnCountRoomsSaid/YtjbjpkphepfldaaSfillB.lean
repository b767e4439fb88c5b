/- spec.l5Fill: the walk; spec.l5Plans. -/
import Derived.Test.YtjbjpkphepfldaaSfill
namespace Go.Proofs.Ytjbjpkphepfldaa.S
open Go.RowKit Go.Proofs.YtjbjpkphepfldaaW.PrintWords Go.Proofs.YtjbjpkphepfldaaW.PrintMore
set_option linter.unusedVariables false
set_option linter.unusedSimpArgs false

set_option maxRecDepth 100000 in
set_option maxHeartbeats 8000000 in
theorem sfill_step (G : List (List Int) → Option (List (List (List Int)))) (n Wd room : Nat) (hn0 : 1 ≤ n) (hn : n ≤ 1000) (hW : Wd ≤ 1000) (hGF : room < 9 → Fills G ((room : Int) + 1) n Wd) (p : List (List Int)) (v : Value) (W : World) (r : List (List (List Int))) (hp : PS W v p) (hg : Gd p Wd) (hpl : p.length = n)
    (h : (match sfree 0 p with
      | none => some [p]
      | some (i, k) => if room < 9 then (slw G p room i k (Wd - k) 1).bind fun r => if r.length ≤ 1000 then some r else none else none) = some r) :
    Calls Try.prog 26 #[v, .int .i64 (room : Nat)] W fun e w' => ∃ v', e = .returned v' ∧ RL w' v' r ∧ Below W.heap.size W w' := by
  have HP := Lib.hid hp
  have BC : Hid (∀ i k, i < n → k < Wd → sfree 0 p = some (i, k) → Calls Try.prog 40 #[v, .int .i64 (room : Nat), .int .i64 (i : Nat), .int .i64 (k : Nat)] W fun e w' => ∃ v', e = .returned v' ∧ RL w' v' r ∧ Below W.heap.size W w') := Lib.hid (fun i k hi hk hs => by
    rw [hs] at h
    simp only at h
    split at h
    case isFalse => cases h
    rename_i hr9
    obtain ⟨r', hr', h⟩ := bind_out h
    split at h
    case isFalse => cases h
    rename_i hrl
    obtain rfl := Option.some.inj h
    exact begin_calls G n Wd room hn0 hn hW hr9 (hGF hr9) p v W hp hg hpl i k hi hk r' hr' hrl)
  have HNO : Hid (sfree 0 p = none → r = [p]) := Lib.hid (fun hs => by
    rw [hs] at h
    exact (Option.some.inj h).symm)
  obtain ⟨o, c, rfl, hc, hoW, hrd⟩ := hp.cell
  rw [hpl] at HP BC ⊢
  have HRD := Lib.hid hrd
  have HG := Lib.hid hg
  have HPL := Lib.hid hpl
  clear hp hc hrd hg hpl h hGF
  go_enter Try.func26, Try.ntmps26
  go_wp2_with fail
  go_loopw [5] (fun kv wr => ∃ X : Nat, W = wr ∧ X ≤ n ∧ kv = .int .i64 (X : Nat) ∧ Hid (sfree X (p.drop X) = sfree 0 p)) (fun kv _ => n + 1 - (Go.RowKit.intOf kv).toNat)
  case atStart => exact ⟨0, rfl, Nat.zero_le _, rfl, by rw [List.drop_zero]; exact Lib.hid rfl⟩
  case round =>
    obtain ⟨X, rfl, hX, rfl, HF⟩ := hrel
    by_cases hlt : X < n
    · obtain ⟨L, hL⟩ : ∃ L, p[X]? = some L := ⟨_, List.getElem?_eq_getElem (by have := HPL.out; omega)⟩
      have hLl := HG.out.row L (List.mem_of_getElem? hL)
      have hLb := HG.out.byt L (List.mem_of_getElem? hL)
      have x1 : W.cell? ⟨o, X, none⟩ = some (.string (strOfNums L)) := HRD.out X L hL
      have HLA : Hid (∀ j y, L[j]? = some y → ∀ h : j < (strOfNums L).size, (((strOfNums L)[j]'h).toNat : Int) = y) := Lib.hid (fun j y hy => str_at hLb hy)
      have hsz : (strOfNums L).size = Wd := by rw [strOfNums_size]; exact hLl
      have hd : p.drop X = L :: p.drop (X + 1) := by
        rw [List.drop_eq_getElem_cons (by have := HPL.out; omega)]
        congr 1
        have := (List.getElem?_eq_some_iff.1 hL).2
        exact this
      have hf := HF.out
      rw [hd] at hf
      simp only [sfree] at hf
      have HF2 := Lib.hid hf
      have HLL := Lib.hid hLl
      have q1 : (X : Int) < (n : Int) := by omega
      have q2 : (0 : Int) ≤ (X : Int) := by omega
      have HLT := Lib.hid hlt
      clear hf hd hL hLl hLb HF hlt
      generalize strOfNums L = s at *
      go_wp2_with fail
      go_loopw [6] (fun kv wr => ∃ Y : Nat, W = wr ∧ Y ≤ Wd ∧ kv = .int .i64 (Y : Nat) ∧ Hid (sfreeRow Y (L.drop Y) = sfreeRow 0 L)) (fun kv _ => Wd + 1 - (Go.RowKit.intOf kv).toNat)
      case atStart => exact ⟨0, rfl, Nat.zero_le _, rfl, by rw [List.drop_zero]; exact Lib.hid rfl⟩
      case round =>
        obtain ⟨Y, rfl, hY, rfl, HR⟩ := hrel
        by_cases hly : Y < Wd
        · obtain ⟨y, hy⟩ : ∃ y, L[Y]? = some y := ⟨_, List.getElem?_eq_getElem (by have := HLL.out; omega)⟩
          have hyv := HLA.out _ _ hy
          have hd : L.drop Y = y :: L.drop (Y + 1) := by
            rw [List.drop_eq_getElem_cons (by have := HLL.out; omega)]
            congr 1
            exact (List.getElem?_eq_some_iff.1 hy).2
          have hr2 := HR.out
          rw [hd] at hr2
          simp only [sfreeRow] at hr2
          have q3 : (Y : Int) < (s.size : Int) := by omega
          have q4 : (0 : Int) ≤ (Y : Int) := by omega
          have q5 : Y < s.size := by omega
          by_cases hdot : y = 46
          · rw [if_pos hdot] at hr2
            have d2 : (y == 46) = true := by simp [hdot]
            have hfin : sfree 0 p = some (X, Y) := by
              have := HF2.out
              rw [← hr2] at this
              exact this.symm
            have HBC := Lib.hid (BC.out X Y HLT.out hly hfin)
            clear hr2 hfin hd hy hdot BC
            go_wp2_with fail
            refine HBC.out.mono ?_
            rintro e w2 ⟨v2, rfl, hrl2, hb2⟩
            have HR2 := Lib.hid hrl2
            have HB2 := Lib.hid hb2
            clear hrl2 hb2 HBC
            go_wp2
            go_ret
            exact ⟨_, rfl, HR2.out, HB2.out⟩
          · rw [if_neg hdot] at hr2
            have d2 : (y == 46) = false := by simp [hdot]
            have HRN := Lib.hid hr2
            have HLY := Lib.hid hly
            clear hr2 hd hy hdot HR hly
            go_wp2_with fail
            go_roundw
            case rel => exact ⟨Y + 1, trivial, HLY.out, by push_cast; rfl, HRN⟩
            case measure => simp [intOf]; have := HLY.out; omega
        · obtain rfl : Y = Wd := by omega
          have hr2 := HR.out
          rw [List.drop_eq_nil_of_le (by have := HLL.out; omega)] at hr2
          have HFN : Hid (sfree (X + 1) (p.drop (X + 1)) = sfree 0 p) := Lib.hid (by
            have := HF2.out
            rw [← hr2] at this
            exact this)
          clear hr2 HR
          go_wp2_with fail
          go_roundw
          case rel => exact ⟨X + 1, trivial, HLT.out, by push_cast; rfl, HFN⟩
          case measure => simp [intOf]; have := HLT.out; omega
    · obtain rfl : X = n := by omega
      have hf := HF.out
      rw [List.drop_eq_nil_of_le (by have := HPL.out; omega)] at hf
      have hr0 := HNO.out hf.symm
      have HR0 := Lib.hid hr0
      have HRL : Hid (RL (W.alloc (Obj.cells #[.slice (some ⟨o, 0, none⟩) X c] 43)) (.slice (some ⟨W.heap.size, 0, none⟩) 1 1) r) := Lib.hid (by
        rw [hr0]
        refine ⟨W.heap.size, 1, rfl, fun i q hq => ?_⟩
        obtain rfl : i = 0 := by have := (List.getElem?_eq_some_iff.1 hq).1; simp at this; omega
        obtain rfl := Option.some.inj hq
        exact ⟨_, (blk_cell (new_at W _) 0).trans rfl, HP.out.below (below_alloc (Below.refl _ _) _)⟩)
      have HB0 : Hid (Below W.heap.size W (W.alloc (Obj.cells #[.slice (some ⟨o, 0, none⟩) X c] 43))) := Lib.hid (below_alloc (Below.refl _ _) _)
      clear hf hr0 HF BC HNO
      go_wp2
      go_ret
      exact ⟨_, rfl, HRL.out, HB0.out⟩

theorem sfill_calls (n Wd : Nat) (hn0 : 1 ≤ n) (hn : n ≤ 1000) (hW : Wd ≤ 1000) : ∀ fuel room : Nat, Fills (sfill Wd fuel room) (room : Nat) n Wd
  | 0, room => fun p v W r _ _ _ h => by simp [sfill] at h
  | fuel + 1, room => fun p v W r hp hg hpl h => sfill_step (sfill Wd fuel (room + 1)) n Wd room hn0 hn hW (fun _ => by
      have := sfill_calls n Wd hn0 hn hW fuel (room + 1)
      rw [Int.natCast_add] at this
      exact this) p v W r hp hg hpl h
end Go.Proofs.Ytjbjpkphepfldaa.S

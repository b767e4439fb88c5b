/- spec.l5Plans, spec.l1Rooms, spec.l10Counts (of all plans): the walks. -/
import Derived.Test.YtjbjpkphepfldaaSfillB
import Derived.Test.YtjbjpkphepfldaaQm1
import Derived.Test.YtjbjpkphepfldaaTally
namespace Go.Proofs.Ytjbjpkphepfldaa.S
open Go.RowKit Go.Proofs.YtjbjpkphepfldaaW.PrintWords Go.Proofs.YtjbjpkphepfldaaW.PrintMore Go.Proofs.Ytjbjpkphepfldaa.Qm
set_option linter.unusedVariables false
set_option linter.unusedSimpArgs false

theorem info5 : (Try.prog.info? 5).map (fun i => (i.zero, i.size, i.bytes)) = some (some (.int .u8 0), 1, 1) := by kernel_rfl
/-- An empty plan's texts. -/
def dots (m : Nat) : List Int := List.replicate m 46
def blanks (n m : Nat) : List (List Int) := List.replicate n (dots m)
theorem blanks_gd (n m : Nat) : Gd (blanks n m) m where
  row := fun l hl => by rw [List.eq_of_mem_replicate hl]; simp [dots]
  byt := fun l hl x hx => by
    rw [List.eq_of_mem_replicate hl] at hx
    rw [List.eq_of_mem_replicate hx]
    decide

set_option maxRecDepth 100000 in
set_option maxHeartbeats 8000000 in
theorem plans_calls (n m fuel : Nat) (hn0 : 1 ≤ n) (hn : n ≤ 6) (hm : m ≤ 6) (r : List (List (List Int))) (hr : sfill m fuel 0 (blanks n m) = some r) (W : World) :
    Calls Try.prog 19 #[.int .i64 (n : Nat), .int .i64 (m : Nat)] W fun e w' => ∃ v', e = .returned v' ∧ RL w' v' r ∧ Below W.heap.size W w' := by
  obtain ⟨i9, hi9, hz90, hz91, hz92⟩ := info_parts info9
  obtain ⟨i5, hi5, hz50, hz51, hz52⟩ := info_parts info5
  have HR := Lib.hid hr
  clear hr
  go_enter Try.func19, Try.ntmps19
  go_wp2_with fail
  have HO0 : Hid ((W.alloc (Obj.cells #[] 9)).ownsRow W.heap.size 9 1 (.slice (some ⟨W.heap.size, 0, none⟩) 0 0) 0 ((List.replicate 0 (dots m)).map sv)) := Lib.hid (World.ownsRow_lit W #[] 0 (Nat.le_refl _) (by decide) rfl)
  have HB0 : Hid (Below W.heap.size W (W.alloc (Obj.cells #[] 9))) := Lib.hid (below_alloc (Below.refl _ _) _)
  generalize W.alloc (Obj.cells #[] 9) = w1 at *
  go_loopw [5, 6] (fun pv kv wr => ∃ (X gx cx : Nat) (wl : World), wl = wr ∧ pv = .slice (some ⟨gx, 0, none⟩) X cx ∧ X ≤ n ∧ kv = .int .i64 (X : Nat) ∧ Hid (wl.ownsRow W.heap.size 9 1 (.slice (some ⟨gx, 0, none⟩) X cx) X ((List.replicate X (dots m)).map sv)) ∧ Hid (Below W.heap.size W wl)) (fun _ kv _ => n + 1 - (Go.RowKit.intOf kv).toNat)
  case atStart => exact ⟨0, _, _, w1, rfl, rfl, Nat.zero_le _, rfl, HO0, HB0⟩
  case round =>
    obtain ⟨X, gx, cx, wl, rfl, rfl, hX, rfl, HO, HB⟩ := hrel
    clear HO0 HB0
    by_cases hlt : X < n
    · have q1 : (X : Int) < (n : Int) := by omega
      have HLT := Lib.hid hlt
      go_wp2_with fail
      have HOI : Hid ((wl.alloc (Obj.cells #[] 5)).ownsRow wl.heap.size 5 1 (.slice (some ⟨wl.heap.size, 0, none⟩) 0 0) 0 ((List.replicate 0 (46 : Int)).map (Value.int .u8))) := Lib.hid (World.ownsRow_lit wl #[] 0 (Nat.le_refl _) (by decide) rfl)
      have HBI : Hid (Below wl.heap.size wl (wl.alloc (Obj.cells #[] 5))) := Lib.hid (below_alloc (Below.refl _ _) _)
      generalize wl.alloc (Obj.cells #[] 5) = w2 at *
      go_loopw [7, 8] (fun rv kv wr => ∃ (Y gy cy : Nat) (wx : World), wx = wr ∧ rv = .slice (some ⟨gy, 0, none⟩) Y cy ∧ Y ≤ m ∧ kv = .int .i64 (Y : Nat) ∧ Hid (wx.ownsRow wl.heap.size 5 1 (.slice (some ⟨gy, 0, none⟩) Y cy) Y ((List.replicate Y (46 : Int)).map (Value.int .u8))) ∧ Hid (Below wl.heap.size wl wx)) (fun _ kv _ => m + 1 - (Go.RowKit.intOf kv).toNat)
      case atStart => exact ⟨0, _, _, w2, rfl, rfl, Nat.zero_le _, rfl, HOI, HBI⟩
      case round =>
        obtain ⟨Y, gy, cy, wx, rfl, rfl, hY, rfl, HOX, HBX⟩ := hrel
        clear HOI HBI
        by_cases hly : Y < m
        · have q2 : (Y : Int) < (m : Int) := by omega
          have p1 : Y + 1 ≤ maxLen := Nat.le_trans (show Y + 1 ≤ 10 by omega) (by decide)
          have p2 : (Y + 1) * 1 ≤ 140737488355328 := by omega
          have HLY := Lib.hid hly
          go_wp2_with (first | (at_builtin; refine wpList_append_lies _ rfl _ _ 28 rfl wl.heap.size 5 i5 _ 1 1 Try.underlying28 hi5 hz50 hz51 hz52 rfl (by omega) (.slice (some ⟨gy, 0, none⟩) Y cy) Y _ rfl (HOX.out.alloc _) ⟨wx.heap.size, 0, none⟩ 1 1 [.int .u8 46] rfl rfl (World.news_of_block (cs := #[.int .u8 46]) (t := 5) (fr := (0, 0)) (heap_alloc_new wx _)) (by simp [Value.oneCell']) (by omega) p1 p2 (by have := HBX.out.size; simp; omega) (wx.heap.size + 1) (by simp) ?_; intro g2 c2 w8 hown hgrow hat hlt8))
          have HO8 : Hid (w8.ownsRow wl.heap.size 5 1 (.slice (some ⟨g2, 0, none⟩) (Y + 1) c2) (Y + 1) ((List.replicate (Y + 1) (46 : Int)).map (Value.int .u8))) := Lib.hid (by rw [List.replicate_succ', List.map_append]; exact hown)
          have HB8 : Hid (Below wl.heap.size wl w8) := Lib.hid (Below.grown (below_alloc HBX.out _) hgrow (by have := HBX.out.size; simp; omega) (fun k e => by have e2 : gy = k := Option.some.inj e; subst e2; exact (HOX.out.lt gy rfl).1))
          clear hown hgrow hat hlt8 HOX HBX
          go_wp2_with fail
          go_roundw
          case rel => exact ⟨Y + 1, g2, c2, w8, rfl, rfl, HLY.out, by push_cast; rfl, HO8, HB8⟩
          case measure => simp [intOf]; have := HLY.out; omega
        · obtain rfl : Y = m := by omega
          have hcv : (convert 28 9 (.slice (some ⟨gy, 0, none⟩) Y cy)).run Try.prog wx = .ok (.string (strOfNums (dots Y))) wx :=
            run_convert_bytes_arg wx 28 5 Try.underlying28 Try.underlying5 gy 0 Y cy (dots Y) (by simp [dots]) (fun i hi => by
              rw [Nat.zero_add, HOX.out.cellAt i (by omega), List.getElem?_map, List.getElem?_replicate, if_pos hi]
              simp [dots, hi]) 9 Try.underlying9
          have hb0 : Below W.heap.size W wx := HB.out.trans (HBX.out.mono HB.out.size)
          have hox := own_keepV HO.out (KeepS.of_below (fun _ => False) HBX.out) (fun _ _ e => e)
          have HOW := Lib.hid hox
          have HBW := Lib.hid hb0
          have p1 : X + 1 ≤ maxLen := Nat.le_trans (show X + 1 ≤ 10 by omega) (by decide)
          have p2 : (X + 1) * 16 ≤ 140737488355328 := by omega
          clear hox hb0 HOX HBX HO HB
          go_wp2_with (first | (at_builtin; refine wpList_append_lies _ rfl _ _ 43 rfl W.heap.size 9 i9 _ 1 16 Try.underlying43 hi9 hz90 hz91 hz92 rfl (by omega) (.slice (some ⟨gx, 0, none⟩) X cx) X _ rfl (HOW.out.alloc _) ⟨wx.heap.size, 0, none⟩ 1 1 [.string (strOfNums (dots Y))] rfl rfl (World.news_of_block (cs := #[.string (strOfNums (dots Y))]) (t := 9) (fr := (0, 0)) (heap_alloc_new wx _)) (by simp [Value.oneCell']) (by omega) p1 p2 (by have := HBW.out.size; simp; omega) (wx.heap.size + 1) (by simp) ?_; intro g2 c2 w8 hown hgrow hat hlt8))
          have HO8 : Hid (w8.ownsRow W.heap.size 9 1 (.slice (some ⟨g2, 0, none⟩) (X + 1) c2) (X + 1) ((List.replicate (X + 1) (dots Y)).map sv)) := Lib.hid (by rw [List.replicate_succ', List.map_append]; exact hown)
          have HB8 : Hid (Below W.heap.size W w8) := Lib.hid (Below.grown (below_alloc HBW.out _) hgrow (by have := HBW.out.size; simp; omega) (fun k e => by have e2 : gx = k := Option.some.inj e; subst e2; exact (HOW.out.lt gx rfl).1))
          clear hown hgrow hat hlt8 HOW HBW hcv
          go_wp2_with fail
          go_roundw
          case rel => exact ⟨X + 1, g2, c2, w8, rfl, rfl, HLT.out, by push_cast; rfl, HO8, HB8⟩
          case measure => simp [intOf]; have := HLT.out; omega
    · obtain rfl : X = n := by omega
      have hps : PS wl (.slice (some ⟨gx, 0, none⟩) X cx) (blanks X m) := PS.of_own HO.out (by simp [blanks])
      have FC := Lib.hid (sfill_calls X m hn0 (by omega) (by omega) fuel 0 (blanks X m) _ wl r hps (blanks_gd X m) (by simp [blanks]) HR.out)
      clear hps HO
      go_wp2_with fail
      refine FC.out.mono ?_
      rintro e w3 ⟨v3, rfl, hrl3, hb3⟩
      have HR3 := Lib.hid hrl3
      have HB3 : Hid (Below W.heap.size W w3) := Lib.hid (HB.out.trans (hb3.mono HB.out.size))
      clear hrl3 hb3 FC
      go_wp2
      go_ret
      exact ⟨_, rfl, HR3.out, HB3.out⟩
end Go.Proofs.Ytjbjpkphepfldaa.S

/- The walks of impl.everyPerm: an iterator that hands on every permutation, by a closure that calls itself. -/
import Derived.Test.YtgehkabfjpifiaaQr1
import Derived.Test.YtgehkabfjpifiaaRange
import Derived.WalkKit
import Derived.TacticsInMore
import Derived.RegionIn
import Derived.LoopNIn
import Derived.LoopIn
import Derived.OwnWalkIn
import Derived.Shelf.Abstract
import Derived.Lib.Hide
import Derived.Outline
namespace Go.Proofs.Ytgehkabfjpifiaa.S
open Go.RowKit Go.Proofs.YtgehkabfjpifiaaW.PrintWords Go.Proofs.Ytgehkabfjpifiaa.R Go.Proofs.Ytgehkabfjpifiaa.Qr
set_option linter.unusedVariables false
set_option linter.unusedSimpArgs false

theorem pw64 (x : Int) (h : -9223372036854775808 ≤ x ∧ x ≤ 9223372036854775807) : wrap64 x = x := by unfold wrap64; omega
theorem prd_getD (l : List Int) (i : Nat) : rd l (i : Int) = l.getD i 0 := by simp [rd]

theorem pindex_l0 (l : List Int) (x : Int) (hb : l.length ≤ 140737488351232) (d : Nat) : ∀ (k i : Nat), i ≤ l.length → l.length - i = d → d < k →
    ∃ r, slices_Index_int_int.l0 k l x l.length (i : Int) = some r ∧ (0 ≤ r ↔ x ∈ l.drop i) := by
  induction d with
  | zero =>
    intro k i hi hd hk
    obtain ⟨k, rfl⟩ : ∃ m, k = m + 1 := ⟨k - 1, by omega⟩
    obtain rfl : i = l.length := by omega
    simp only [slices_Index_int_int.l0]
    rw [if_neg (by omega)]
    exact ⟨-1, rfl, by simp⟩
  | succ d ih =>
    intro k i hi hd hk
    obtain ⟨k, rfl⟩ : ∃ m, k = m + 1 := ⟨k - 1, by omega⟩
    have hlt : i < l.length := by omega
    simp only [slices_Index_int_int.l0]
    rw [if_pos (by omega), if_pos (by omega), if_pos (by omega), pw64 _ (by omega), prd_getD]
    have ea : l.drop i = l.getD i 0 :: l.drop (i + 1) := by
      rw [List.drop_eq_getElem_cons hlt, List.getD_eq_getElem?_getD, List.getElem?_eq_getElem hlt]; rfl
    rw [ea]
    by_cases h : x = l.getD i 0
    · rw [if_pos h]
      exact ⟨(i : Int), rfl, by constructor <;> intro _ <;> first | omega | (rw [h]; exact List.mem_cons_self)⟩
    · rw [if_neg h]
      have e : ((i : Int) + 1) = ((i + 1 : Nat) : Int) := by omega
      rw [e]
      obtain ⟨r, hr, hx⟩ := ih k (i + 1) (by omega) (by omega) (by omega)
      refine ⟨r, hr, hx.trans ?_⟩
      rw [List.mem_cons]
      exact ⟨.inr, fun q => q.resolve_left h⟩
theorem pcontains_eq (l : List Int) (x : Int) (hb : l.length ≤ 140737488351232) (k : Nat) (hk : l.length < k) : slices_Contains_int_int.f k l x = some (decide (x ∈ l)) := by
  unfold slices_Contains_int_int.f slices_Index_int_int.f
  obtain ⟨r, hr, hx⟩ := pindex_l0 l x hb l.length k 0 (by omega) (by omega) hk
  have z : ((0 : Nat) : Int) = 0 := rfl
  rw [z] at hr
  rw [hr, Option.bind_some]
  congr 1
  rw [List.drop_zero] at hx
  exact decide_eq_decide.2 hx

/-- What comes behind cur for each number from k on, j of them. -/
def kids (f : List Int → List (List Int)) (cur : List Int) : Nat → Nat → List (List Int)
  | _, 0 => []
  | k, j + 1 => (if (k : Int) ∈ cur then [] else f (cur ++ [(k : Int)])) ++ kids f cur (k + 1) j
/-- All permutations of n numbers that begin with cur, m numbers being left. -/
def permsF (n : Nat) : Nat → List Int → List (List Int)
  | 0, cur => [cur]
  | m + 1, cur => kids (permsF n m) cur 0 n

theorem kids_mem (f : List Int → List (List Int)) (cur : List Int) : ∀ (j k i : Nat), k ≤ i → i < k + j → (i : Int) ∉ cur → ∀ x ∈ f (cur ++ [(i : Int)]), x ∈ kids f cur k j := by
  intro j
  induction j with
  | zero => intro k i h1 h2; omega
  | succ j ih =>
    intro k i h1 h2 hi x hx
    simp only [kids]
    by_cases e : i = k
    · subst e
      rw [if_neg hi]
      exact List.mem_append_left _ hx
    · exact List.mem_append_right _ (ih (k + 1) i (by omega) (by omega) hi x hx)

/-- How a round is handed a list. -/
def EnRow (x : List Int) (args : Array Value) (W : World) : Prop :=
  ∃ A c, args = #[.slice A x.length c] ∧ x.length ≤ c ∧ Kd.C (Kd.int .i64) W A x.length x

theorem keep_below {S : Nat → Prop} {W0 W1 W2 : World} {B : Nat} (h : KeepS S W0 W1) (k : Below B W1 W2) (hB : W0.heap.size ≤ B) : KeepS S W0 W2 :=
  ⟨Nat.le_trans h.size k.size, fun i hi hs => (k.block i (by omega)).trans (h.same i hi hs), k.os.trans h.os, k.tape.trans h.tape, k.output.trans h.output⟩
theorem keep_high {W1 W2 : World} {B C : Nat} (k : Below B W1 W2) (hC : C ≤ B) : KeepS (fun k => C ≤ k) W1 W2 :=
  ⟨k.size, fun i hi hs => k.block i (by omega), k.os, k.tape, k.output⟩

/-- The four variables of the iterator, as boxes. -/
structure Boxes (n l bl bn bv bx : Nat) (v : Value) (W : World) : Prop where
  list : W.heap[bl]? = some (.cells #[v] 29 (0, 0))
  num : W.heap[bn]? = some (.cells #[.int .i64 (n : Int)] 3 (0, 0))
  yie : W.heap[bv]? = some (.cells #[.func (.yield l) #[] #[]] 34 (0, 0))
  nxt : W.heap[bx]? = some (.cells #[.func (.func 40) #[] #[.pointer (some ⟨bl, 0, none⟩), .pointer (some ⟨bn, 0, none⟩), .pointer (some ⟨bv, 0, none⟩), .pointer (some ⟨bx, 0, none⟩)]] 48 (0, 0))

/-- What holds between two steps: the list holds cur. -/
def PSt (n l bl bn bv bx base : Nat) (S : Nat → Prop) (W0 : World) (cur : List Int) (v : Value) (W : World) : Prop :=
  Boxes n l bl bn bv bx v W ∧ Kd.R (Kd.int .i64) 3 W base (fun _ => True) v cur ∧ KeepS (fun k => S k ∨ k = l) W0 W ∧ base ≤ W.heap.size

section
variable {n l bl bn bv bx base : Nat} {S : Nat → Prop} {W0 W W' : World} {cur : List Int} {v : Value}
theorem PSt.round (h : PSt n l bl bn bv bx base S W0 cur v W) (hS : ∀ k, S k ∨ k = l → k ≠ bl ∧ k ≠ bn ∧ k ≠ bv ∧ k ≠ bx ∧ k < base) (hk : KeepS (fun k => S k ∨ k = l) W W') : PSt n l bl bn bv bx base S W0 cur v W' := by
  obtain ⟨hb, hR, hK, hbW⟩ := h
  refine ⟨⟨hk.heap hb.list (fun h => (hS _ h).1 rfl), hk.heap hb.num (fun h => (hS _ h).2.1 rfl), hk.heap hb.yie (fun h => (hS _ h).2.2.1 rfl), hk.heap hb.nxt (fun h => (hS _ h).2.2.2.1 rfl)⟩, ?_, hK.trans hk, Nat.le_trans hbW hk.size⟩
  have ho := Kd.own_of_R hR
  refine Kd.R_of_own (own_move ho (fun k e => hk.same k (own_lt ho k e) (fun h => ?_))) (fun _ _ => trivial)
  have := (hS _ h).2.2.2.2
  have := own_base ho k e
  omega
theorem PSt.drewN (h : PSt n l bl bn bv bx base S W0 cur v W) (m : Nat) : PSt n l bl bn bv bx base S W0 cur v (W.drewN m) :=
  ⟨⟨h.1.list, h.1.num, h.1.yie, h.1.nxt⟩, Kd.R_drewN h.2.1 m, h.2.2.1.trans (KeepS.drewN _ _ _), h.2.2.2⟩
/-- The list's variable takes a new list. -/
theorem PSt.put (h : PSt n l bl bn bv bx base S W0 cur v W) (hbl : W0.heap.size ≤ bl ∧ bl < base) (hbn : bn < base) (hbv : bv < base) (hbx : bx < base) (hd1 : bl ≠ bn) (hd2 : bl ≠ bv) (hd3 : bl ≠ bx) (hb0 : W0.heap.size ≤ base)
    {cur2 : List Int} {v2 : Value} (hB : Below base W W') (hR : Kd.R (Kd.int .i64) 3 W' base (fun _ => True) v2 cur2) : PSt n l bl bn bv bx base S W0 cur2 v2 (W'.setCell ⟨bl, 0, none⟩ v2) := by
  obtain ⟨hb, _, hK, hbW⟩ := h
  have set : ∀ k o, k ≠ bl → W'.heap[k]? = some o → (W'.setCell ⟨bl, 0, none⟩ v2).heap[k]? = some o := fun k o hk ho => (Below.heap_setCell W' ⟨bl, 0, none⟩ v2 k hk).trans ho
  refine ⟨⟨one_setCell ((hB.block _ hbl.2).trans hb.list), set _ _ (Ne.symm hd1) ((hB.block _ hbn).trans hb.num), set _ _ (Ne.symm hd2) ((hB.block _ hbv).trans hb.yie), set _ _ (Ne.symm hd3) ((hB.block _ hbx).trans hb.nxt)⟩, ?_, ?_, ?_⟩
  · have ho := Kd.own_of_R hR
    refine Kd.R_of_own (own_move ho (fun k e => Below.heap_setCell W' ⟨bl, 0, none⟩ v2 k (fun h => ?_))) (fun _ _ => trivial)
    have := own_base ho k e
    have h : k = bl := h
    omega
  · have h2 := keep_below hK hB hb0
    exact ⟨by simpa using h2.size, fun k hk hn => (Below.heap_setCell W' ⟨bl, 0, none⟩ v2 k (fun h => by have h : k = bl := h; omega)).trans (h2.same k hk hn), h2.os, h2.tape, h2.output⟩
  · have := hB.size; simp; omega
end

theorem pinfo3 : (Try.prog.info? 3).map (fun i => (i.zero, i.size, i.bytes)) = some (some (.int .i64 0), 1, 8) := by kernel_rfl

theorem C_lit {W : World} {s : Nat} {x : Int} (h : W.heap[s]? = some (.cells #[.int .i64 x] 3 (0, 0))) : Kd.C (Kd.int .i64) W (some ⟨s, 0, none⟩) 1 [x] := by
  refine Kd.C_of_reads (d := (0 : Int)) (h1 := fun _ => rfl) ⟨rfl, by omega, fun _ => ⟨_, rfl, fun j hj => ?_⟩⟩
  rw [add_plain, blk_cell h]
  obtain rfl : j = 0 := by simp at hj; omega
  rfl

set_option maxRecDepth 100000 in
set_option maxHeartbeats 4000000 in
theorem next_calls (n l bl bn bv bx base : Nat) (S : Nat → Prop) (J Jx : List (List Int) → World → Prop) (W0 : World) (hn : n ≤ 7)
    (hbl : W0.heap.size ≤ bl ∧ bl < base) (hbn : bn < base) (hbv : bv < base) (hbx : bx < base) (hd1 : bl ≠ bn) (hd2 : bl ≠ bv) (hd3 : bl ≠ bx) (hb0 : W0.heap.size ≤ base)
    (hS : ∀ k, S k ∨ k = l → k ≠ bl ∧ k ≠ bn ∧ k ≠ bv ∧ k ≠ bx ∧ k < base) (hJ : ∀ s, Low W0.heap.size (J s)) (hJx : ∀ s, Low W0.heap.size (Jx s))
    (hY : ∀ pre x args W1, J pre W1 → x ∈ permsF n n [] → W0.heap.size ≤ W1.heap.size → EnRow x args W1 → YieldAt Fence.wide 0 Try.prog l args W1 fun e W' =>
      KeepS (fun k => S k ∨ k = l) W1 W' ∧ ((e = .returned (.bool true) ∧ J (pre ++ [x]) W') ∨ (e = .returned (.bool false) ∧ Jx (pre ++ [x]) W'))) :
    ∀ (m : Nat) (cur : List Int) (pre : List (List Int)) (v : Value) (W1 : World), cur.length + m = n → (∀ x ∈ permsF n m cur, x ∈ permsF n n []) → PSt n l bl bn bv bx base S W0 cur v W1 → J pre W1 →
      Calls Try.prog 40 #[.pointer (some ⟨bl, 0, none⟩), .pointer (some ⟨bn, 0, none⟩), .pointer (some ⟨bv, 0, none⟩), .pointer (some ⟨bx, 0, none⟩)] W1 fun e W' =>
        (∃ v', PSt n l bl bn bv bx base S W0 cur v' W') ∧ ((e = .returned (.bool true) ∧ J (pre ++ permsF n m cur) W') ∨ (e = .returned (.bool false) ∧ ∃ s, Jx s W')) := by
  have HS := Lib.hid hS
  have HJ := Lib.hid hJ
  have HJX := Lib.hid hJx
  have HY := Lib.hid hY
  clear hS hJ hJx hY
  intro m
  induction m with
  | zero =>
    intro cur pre v W1 hm hmem ⟨hbx4, hR, hK, hbW⟩ hj
    obtain ⟨A, c, rfl⟩ := own_slice (Kd.own_of_R hR)
    have hcn : cur.length = n := by omega
    obtain ⟨fn, tmps, assign, body, hy, hYR⟩ := HY.out pre cur #[.slice A cur.length c] W1 hj (hmem cur (by simp [permsF])) hK.size ⟨A, c, rfl, (Kd.R_reads' hR).2.1, (Kd.R_reads' hR).2.2⟩
    have hc1 : W1.cell? ⟨bl, 0, none⟩ = some (.slice A cur.length c) := by simp [World.cell?, hbx4.list]
    have hc2 : W1.cell? ⟨bn, 0, none⟩ = some (.int .i64 (n : Int)) := by simp [World.cell?, hbx4.num]
    have hc3 : W1.cell? ⟨bv, 0, none⟩ = some (.func (.yield l) #[] #[]) := by simp [World.cell?, hbx4.yie]
    rw [← hcn] at hc2
    have HB := Lib.hid hbx4
    have HR := Lib.hid hR
    have HK := Lib.hid hK
    have HM := Lib.hid hmem
    have HC := Lib.hid hcn
    clear hbx4 hR hK hmem hj hcn hm
    refine (callsIn_wide (n := 1)).1 ?_
    refine callsIn_of_wp Try.func40 rfl trivial ?_
    simp only [Try.ntmps40, List.size_toArray, List.length_cons, List.length_nil, Nat.reduceAdd, Nat.reduceSub, Array.replicate_succ, Array.replicate_zero, List.push_toArray, List.append_toArray, List.nil_append, List.cons_append]
    gi_wp2
    refine hYR.mono ?_
    rintro e' W3 ⟨hk3, (⟨rfl, hJ3⟩ | ⟨rfl, hJx3⟩)⟩
    · have HP := Lib.hid (PSt.round ⟨HB.out, HR.out, HK.out, hbW⟩ HS.out hk3)
      have HJ3 := Lib.hid hJ3
      clear hk3 hJ3 hYR hy hc1 hc2 hc3
      gi_wp2
      go_ret
      exact ⟨⟨_, HP.out⟩, .inl ⟨rfl, HJ3.out⟩⟩
    · have HP := Lib.hid (PSt.round ⟨HB.out, HR.out, HK.out, hbW⟩ HS.out hk3)
      have HJ3 := Lib.hid hJx3
      clear hk3 hJx3 hYR hy hc1 hc2 hc3
      gi_wp2
      go_ret
      exact ⟨⟨_, HP.out⟩, .inr ⟨rfl, _, HJ3.out⟩⟩
  | succ m ih =>
    intro cur pre v W1 hm hmem hst hj
    have IH := Lib.hid ih
    clear ih
    obtain ⟨A, c, rfl⟩ := own_slice (Kd.own_of_R hst.2.1)
    have hc1 : W1.cell? ⟨bl, 0, none⟩ = some (.slice A cur.length c) := by simp [World.cell?, hst.1.list]
    have hc2 : W1.cell? ⟨bn, 0, none⟩ = some (.int .i64 (n : Int)) := by simp [World.cell?, hst.1.num]
    have hne : ((cur.length : Int) == (n : Int)) = false := by simp; omega
    have hlen : cur.length < 7 := by omega
    have HST := Lib.hid hst
    have HJ1 := Lib.hid hj
    have HM := Lib.hid hmem
    have HLN := Lib.hid hm
    clear hst hj hmem hm
    go_enter Try.func40, Try.ntmps40
    go_wp2
    clear hc1 hc2 hne
    go_loopw [15] (fun kv wr => ∃ (k : Nat) (v : Value) (s : List (List Int)), k ≤ n ∧ kv = .int .i64 k ∧ Hid (PSt n l bl bn bv bx base S W0 cur v wr) ∧ Hid (J s wr) ∧ Hid (s ++ kids (permsF n m) cur k (n - k) = pre ++ permsF n (m + 1) cur)) (fun kv _ => n - (Go.RowKit.intOf kv).toNat)
    case atStart => exact ⟨0, _, pre, Nat.zero_le _, rfl, HST, HJ1, Lib.hid rfl⟩
    case round =>
      obtain ⟨k, v, s, hk, rfl, HP, HJs, HE⟩ := hrel
      clear HST HJ1
      by_cases hlt : k < n
      · obtain ⟨A, c, rfl⟩ := own_slice (Kd.own_of_R HP.out.2.1)
        have he := HE.out
        rw [show n - k = (n - (k + 1)) + 1 by omega] at he
        simp only [kids] at he
        have hc1 : wr.cell? ⟨bl, 0, none⟩ = some (.slice A cur.length c) := by simp [World.cell?, HP.out.1.list]
        have hcap := (Kd.R_reads' HP.out.2.1).2.1
        by_cases hin : (k : Int) ∈ cur
        · rw [if_pos hin, List.nil_append] at he
          have HE2 := Lib.hid he
          have hcon : Calls Try.prog 41 #[.slice A cur.length c, .int .i64 (k : Int)] wr fun e w' => e = .returned (.bool true) ∧ Drawn0 wr w' :=
            slices_Contains_int_int.calls 20 A c cur (k : Int) true wr (Kd.R_reads' HP.out.2.1).2.2 hcap (by rw [pcontains_eq cur _ (by omega) 20 (by omega)]; simp [hin])
          have HCON := Lib.hid hcon
          clear hcon he HE hin hcap
          go_wp2_with fail
          refine HCON.out.mono ?_
          rintro e w' ⟨rfl, nd, rfl⟩
          have HP2 := Lib.hid (HP.out.drewN nd)
          have HJ2 := Lib.hid (HJ.out _ _ _ HJs.out (KeepS.drewN _ wr nd))
          clear hc1
          go_wp2
          go_roundw
          case rel => exact ⟨k + 1, _, s, by omega, by go_num, HP2, HJ2, HE2⟩
          case measure => simp [Go.RowKit.intOf]; omega
        · rw [if_neg hin] at he
          have HE2 := Lib.hid he
          have hmem2 : ∀ x ∈ permsF n m (cur ++ [(k : Int)]), x ∈ permsF n n [] := fun x hx => HM.out x (by
            simp only [permsF]
            exact kids_mem (permsF n m) cur n 0 k (by omega) (by omega) hin x hx)
          have HMEM2 := Lib.hid hmem2
          have hcon : Calls Try.prog 41 #[.slice A cur.length c, .int .i64 (k : Int)] wr fun e w' => e = .returned (.bool false) ∧ Drawn0 wr w' :=
            slices_Contains_int_int.calls 20 A c cur (k : Int) false wr (Kd.R_reads' HP.out.2.1).2.2 hcap (by rw [pcontains_eq cur _ (by omega) 20 (by omega)]; simp [hin])
          have HCON := Lib.hid hcon
          clear hcon he HE hin hcap hmem2
          go_wp2_with fail
          refine HCON.out.mono ?_
          rintro e w' ⟨rfl, nd, rfl⟩
          have HP2 := Lib.hid (HP.out.drewN nd)
          have HJ2 := Lib.hid (HJ.out _ _ _ HJs.out (KeepS.drewN _ wr nd))
          obtain ⟨wd, hwd⟩ : ∃ wd, wd = wr.drewN nd := ⟨_, rfl⟩
          rw [← hwd] at HP2 HJ2 ⊢
          have hc1 : wd.cell? ⟨bl, 0, none⟩ = some (.slice A cur.length c) := by simp [World.cell?, HP2.out.1.list]
          have hbd : base ≤ wd.heap.size := HP2.out.2.2.2
          clear hwd
          go_wp2_with (at_builtin; refine Kd.R_append_rows (w0 := wd) (Kd.int .i64) base rfl _ _ 29 3 (.int .i64 0) 8 rfl (by kernel_rfl) pinfo3 rfl (by decide) (by decide) _ cur [(k : Int)] _ _ _ (fun _ => True) (fun _ => False) rfl rfl (Kd.R_alloc HP2.out.2.1 _) (C_lit (heap_alloc_new wd _)) (fun x cs hc => hc) (fun k hk => hk.elim) (fun _ _ => trivial) ((Below.refl base wd).alloc hbd _) (by simp; omega) (by omega) (fun v2 w2 hr2 hb2 hg2 _ => ?_); obtain ⟨A2, c2, rfl⟩ := own_slice (Kd.own_of_R hr2); (have hput : PSt n l bl bn bv bx base S W0 (cur ++ [(k : Int)]) (.slice A2 (cur.length + 1) c2) (w2.setCell ⟨bl, 0, none⟩ (.slice A2 (cur.length + 1) c2)) := by have h := HP2.out.put hbl hbn hbv hbx hd1 hd2 hd3 hb0 hb2 hr2; simpa using h); (have hl2 : w2.heap[bl]? = some (.cells #[.slice A cur.length c] 29 (0, 0)) := (hb2.block _ hbl.2).trans HP2.out.1.list); (have hc2 : w2.cell? ⟨bl, 0, none⟩ = some (.slice A cur.length c) := cell_of_one hl2); (have hf2 : w2.frozen? ⟨bl, 0, none⟩ = false := free_of_one hl2); (have hx2 : (w2.setCell ⟨bl, 0, none⟩ (.slice A2 (cur.length + 1) c2)).cell? ⟨bx, 0, none⟩ = some (.func (.func 40) #[] #[.pointer (some ⟨bl, 0, none⟩), .pointer (some ⟨bn, 0, none⟩), .pointer (some ⟨bv, 0, none⟩), .pointer (some ⟨bx, 0, none⟩)]) := cell_of_one hput.1.nxt); (have HPUT := Lib.hid hput); (have HB2 := Lib.hid hb2); clear hput hl2 hr2 hb2 hg2)
          have HJ3 := Lib.hid (HJ.out s _ _ HJ2.out (keep_high (C := W0.heap.size) (W2 := w2.setCell ⟨bl, 0, none⟩ (.slice A2 (cur.length + 1) c2)) ((HB2.out.mono (B' := W0.heap.size) hb0).setCell hbl.1 _) (Nat.le_refl _)))
          obtain ⟨w3, hw3⟩ : ∃ w3, w3 = w2.setCell ⟨bl, 0, none⟩ (.slice A2 (cur.length + 1) c2) := ⟨_, rfl⟩
          rw [← hw3] at HPUT HJ3 ⊢
          clear hw3 hx2 hc2 hf2 HB2 hc1 hbd HP2 HJ2
          refine (IH.out (cur ++ [(k : Int)]) s _ w3 (by have := HLN.out; simp; omega) HMEM2.out HPUT.out HJ3.out).mono ?_
          rintro e w4 ⟨⟨v4, hst4⟩, hres4⟩
          obtain ⟨A4, c4, rfl⟩ := own_slice (Kd.own_of_R hst4.2.1)
          have hput5 : PSt n l bl bn bv bx base S W0 cur (.slice A4 cur.length c4) (w4.setCell ⟨bl, 0, none⟩ (.slice A4 cur.length c4)) :=
            hst4.put hbl hbn hbv hbx hd1 hd2 hd3 hb0 (Below.refl base w4) (by have := Kd.R_take hst4.2.1 (m := cur.length) (by simp); simpa using this)
          have hcap4 : cur.length + 1 ≤ c4 := by have := (Kd.R_reads' hst4.2.1).2.1; simpa using this
          have hl4 : w4.heap[bl]? = some (.cells #[.slice A4 (cur.length + 1) c4] 29 (0, 0)) := by have := hst4.1.list; simpa using this
          have hc4 : w4.cell? ⟨bl, 0, none⟩ = some (.slice A4 (cur.length + 1) c4) := cell_of_one hl4
          have hf4 : w4.frozen? ⟨bl, 0, none⟩ = false := free_of_one hl4
          have hkeep : KeepS (fun k => W0.heap.size ≤ k) w4 (w4.setCell ⟨bl, 0, none⟩ (.slice A4 cur.length c4)) := KeepS.setCell w4 ⟨bl, 0, none⟩ _ (.inl hbl.1)
          have HP5 := Lib.hid hput5
          have HK5 := Lib.hid hkeep
          clear hput5 hkeep hl4 hst4 HPUT HJ3
          rcases hres4 with ⟨rfl, hj4⟩ | ⟨rfl, s4, hj4⟩
          · have HJ5 := Lib.hid (HJ.out _ _ _ hj4 HK5.out)
            have HE5 : Hid ((s ++ permsF n m (cur ++ [(k : Int)])) ++ kids (permsF n m) cur (k + 1) (n - (k + 1)) = pre ++ permsF n (m + 1) cur) := Lib.hid (by rw [List.append_assoc]; exact HE2.out)
            clear hj4 HE2
            go_wp2
            go_roundw
            case rel => exact ⟨k + 1, _, _, by omega, by go_num, HP5, HJ5, HE5⟩
            case measure => simp [Go.RowKit.intOf]; omega
          · have HJ5 := Lib.hid (HJX.out _ _ _ hj4 HK5.out)
            clear hj4 HE2
            go_wp2
            go_ret
            exact ⟨⟨_, HP5.out⟩, .inr ⟨rfl, _, HJ5.out⟩⟩
      · have he := HE.out
        rw [show n - k = 0 by omega] at he
        simp only [kids, List.append_nil] at he
        subst he
        go_wp2
        go_ret
        exact ⟨⟨_, HP.out⟩, .inl ⟨rfl, HJs.out⟩⟩
end Go.Proofs.Ytgehkabfjpifiaa.S

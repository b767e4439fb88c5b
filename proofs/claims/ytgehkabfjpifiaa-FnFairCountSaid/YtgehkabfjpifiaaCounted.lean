/- The walks of impl.everyPerm, its iterator's contract, and of impl.counted. -/
import Derived.Test.YtgehkabfjpifiaaPerms
import Derived.RegionTactic
import Derived.Laws.EntriesVeiled
namespace Go.Proofs.Ytgehkabfjpifiaa.S
open Go.RowKit Go.Proofs.YtgehkabfjpifiaaW.PrintWords Go.Proofs.Ytgehkabfjpifiaa.R Go.Proofs.Ytgehkabfjpifiaa.Qr
set_option linter.unusedVariables false
set_option linter.unusedSimpArgs false

set_option maxRecDepth 100000 in
set_option maxHeartbeats 1000000 in
theorem everyPerm_calls (n : Nat) (w : World) :
    Calls Try.prog 35 #[.int .i64 (n : Int)] w fun e w' => e = .returned (.func (.func 39) #[] #[.pointer (some ⟨w.heap.size, 0, none⟩)]) ∧ w' = w.alloc (.cells #[.int .i64 (n : Int)] 3) := by
  have hmf : ∀ (fn : Fn) (first cap : Array Value) (w : World), (Instr.makeFunc fn first cap).run Try.prog w = .ok (.func fn first cap) w := fun _ _ _ _ => rfl
  go_enter Try.func35, Try.ntmps35
  go_wp2
  go_ret
  exact ⟨rfl, rfl⟩

set_option maxRecDepth 100000 in
set_option maxHeartbeats 4000000 in
theorem perms_iter (n bn : Nat) (w : World) (S : Nat → Prop) (hn : n ≤ 7) (hbox : w.heap[bn]? = some (.cells #[.int .i64 (n : Int)] 3 (0, 0))) (hS1 : ¬ S bn) (hS2 : ∀ k, S k → k < w.heap.size) :
    Iter Try.prog 39 #[.pointer (some ⟨bn, 0, none⟩)] (permsF n n []) EnRow S w := by
  intro l J Jx W hl hlW hW hJ hJx hY h0
  have hbl : bn < w.heap.size := (Array.getElem?_eq_some_iff.1 hbox).1
  have hws := hW.size
  have hbW : W.heap[bn]? = some (.cells #[.int .i64 (n : Int)] 3 (0, 0)) := (hW.block bn hbl).trans hbox
  have HBW := Lib.hid hbW
  have HS : Hid (∀ k, S k ∨ k = l → k ≠ W.heap.size + 1 ∧ k ≠ bn ∧ k ≠ W.heap.size ∧ k ≠ W.heap.size + 1 + 1 ∧ k < W.heap.size + 1 + 1 + 1) := Lib.hid (fun k h => by
    rcases h with h | h
    · have := hS2 k h
      refine ⟨by omega, fun e => hS1 (e ▸ h), by omega, by omega, by omega⟩
    · subst h
      exact ⟨by omega, by omega, by omega, by omega, by omega⟩)
  have HNX := Lib.hid (next_calls n l (W.heap.size + 1) bn W.heap.size (W.heap.size + 1 + 1) (W.heap.size + 1 + 1 + 1) S J Jx W hn ⟨by omega, by omega⟩ (by omega) (by omega) (by omega) (by omega) (by omega) (by omega) (by omega) HS.out hJ hJx hY)
  have HJ := Lib.hid hJ
  have H0 := Lib.hid h0
  have hmf : ∀ (fn : Fn) (first cap : Array Value) (w : World), (Instr.makeFunc fn first cap).run Try.prog w = .ok (.func fn first cap) w := fun _ _ _ _ => rfl
  clear hbW hbox hS1 hS2 hW hJ hJx hY h0
  go_enter Try.func39, Try.ntmps39
  go_wp2_with fail
  obtain ⟨W3, hW3⟩ : ∃ W3, W3 = ((W.alloc (.cells #[.func (.yield l) #[] #[]] 34)).alloc (.cells #[.slice none 0 0] 29)).alloc (.cells #[.func (.func 40) #[] #[.pointer (some ⟨W.heap.size + 1, 0, none⟩), .pointer (some ⟨bn, 0, none⟩), .pointer (some ⟨W.heap.size, 0, none⟩), .pointer (some ⟨W.heap.size + 1 + 1, 0, none⟩)]] 48) := ⟨_, rfl⟩
  have hk3 : ∀ S', KeepS S' W W3 := fun S' => by rw [hW3]; exact ((KeepS.alloc _ W _).trans (KeepS.alloc _ _ _)).trans (KeepS.alloc _ _ _)
  have hbx : Boxes n l (W.heap.size + 1) bn W.heap.size (W.heap.size + 1 + 1) (.slice none 0 0) W3 := by
    rw [hW3]
    refine ⟨blk_alloc (by simpa using heap_alloc_new (W.alloc _) _) _, blk_alloc (blk_alloc (blk_alloc HBW.out _) _) _, blk_alloc (blk_alloc (heap_alloc_new W _) _) _, by simpa using heap_alloc_new ((W.alloc _).alloc _) _⟩
  have hsz : W.heap.size + 1 + 1 + 1 ≤ W3.heap.size := by rw [hW3]; simp
  rw [← hW3]
  clear hW3
  refine (HNX.out n [] [] (.slice none 0 0) W3 (by simp) (fun _ h => h) ⟨hbx, Kd.R_nil _ _ _ _ _, hk3 _, hsz⟩ (HJ.out [] W W3 H0.out (hk3 _))).mono ?_
  rintro e w' ⟨⟨v', hst⟩, hres⟩
  have HST := Lib.hid hst.2.2.1
  clear hst hk3 hbx hsz
  rcases hres with ⟨rfl, hj⟩ | ⟨rfl, s, hj⟩
  · have HJ5 := Lib.hid hj
    clear hj
    go_wp2
    go_end0
    exact ⟨⟨_, rfl⟩, HST.out, .inl (by simpa using HJ5.out)⟩
  · have HJ5 := Lib.hid hj
    clear hj
    go_wp2
    go_end0
    exact ⟨⟨_, rfl⟩, HST.out, .inr ⟨s, HJ5.out⟩⟩

/-- A function value that asks a list. -/
def Asks (f : FuncId) (h : List Int → Bool) : Prop := ∀ (A : Option Addr) (c : Nat) (x : List Int) (W : World), Kd.C (Kd.int .i64) W A x.length x → x.length ≤ c → x.length ≤ 7 →
  Calls Try.prog f #[.slice A x.length c] W fun e W' => e = .returned (.bool (h x)) ∧ Below W.heap.size W W'

theorem permsF_length (n : Nat) : ∀ (m : Nat) (cur : List Int), cur.length + m = n → ∀ x ∈ permsF n m cur, x.length = n := by
  intro m
  induction m with
  | zero => intro cur h x hx; simp only [permsF, List.mem_singleton] at hx; subst hx; omega
  | succ m ih =>
    intro cur h x hx
    simp only [permsF] at hx
    have key : ∀ j k, x ∈ kids (permsF n m) cur k j → x.length = n := by
      intro j
      induction j with
      | zero => intro k hx; simp [kids] at hx
      | succ j ihj =>
        intro k hx
        simp only [kids] at hx
        rcases List.mem_append.1 hx with hx | hx
        · by_cases e : (k : Int) ∈ cur
          · rw [if_pos e] at hx; simp at hx
          · rw [if_neg e] at hx
            exact ih (cur ++ [(k : Int)]) (by simp; omega) x hx
        · exact ihj (k + 1) hx
    exact key n 0 hx

theorem wrap_step (c : Int) : wrap64 (wrap64 c + 1) = wrap64 (c + 1) := by
  unfold wrap64
  have h : (c + 9223372036854775808) % 18446744073709551616 - 9223372036854775808 + 1 + 9223372036854775808 = (c + 9223372036854775808) % 18446744073709551616 + 1 := by omega
  have h2 : c + 1 + 9223372036854775808 = c + 9223372036854775808 + 1 := by omega
  rw [h, h2, Int.emod_add_emod]
theorem kids_length (f : List Int → List (List Int)) (cur : List Int) (B : Nat) (hf : ∀ y, (f y).length ≤ B) : ∀ j k, (kids f cur k j).length ≤ j * B := by
  intro j
  induction j with
  | zero => intro k; simp [kids]
  | succ j ih =>
    intro k
    simp only [kids, List.length_append]
    have h1 := ih (k + 1)
    have h2 : (if (k : Int) ∈ cur then ([] : List (List Int)) else f (cur ++ [(k : Int)])).length ≤ B := by
      split
      · simp
      · exact hf _
    rw [Nat.add_mul, Nat.one_mul]
    omega
theorem permsF_many (n : Nat) : ∀ m cur, (permsF n m cur).length ≤ n ^ m := by
  intro m
  induction m with
  | zero => intro cur; simp [permsF]
  | succ m ih =>
    intro cur
    simp only [permsF]
    have := kids_length (permsF n m) cur (n ^ m) ih n 0
    rw [Nat.pow_succ, Nat.mul_comm]
    exact this
theorem count_small (n : Nat) (h : List Int → Bool) (hn : n ≤ 7) : (permsF n n []).countP h ≤ 823543 := by
  have h1 := permsF_many n n []
  have h2 : n ^ n ≤ 7 ^ 7 := Nat.le_trans (Nat.pow_le_pow_left hn n) (Nat.pow_le_pow_right (by omega) hn)
  have h3 : (7 : Nat) ^ 7 = 823543 := by decide
  have h4 := List.countP_le_length (p := h) (l := permsF n n [])
  omega

/-- A list that a round was handed is read still when the loop's record alone has changed. -/
theorem C_round {W W2 : World} {A : Option Addr} {x : List Int} {l : Nat} {rl : Loop} (h : Kd.C (Kd.int .i64) W A x.length x) (hl : W.heap[l]? = some (.loop rl)) (hk : KeepS (fun k => k = l) W W2) (hx : x.length ≤ 7) : Kd.C (Kd.int .i64) W2 A x.length x := by
  refine Kd.C_of_reads (d := (0 : Int)) (h1 := fun _ => rfl) ⟨rfl, by omega, fun hp => ?_⟩
  obtain ⟨ad, e, _⟩ := Kd.at_int h 0 (by omega) (by omega)
  refine ⟨ad, e, fun j hj => ?_⟩
  obtain ⟨ad', e', hc⟩ := Kd.at_int h (j : Int) (by omega) (by omega)
  rw [e] at e'
  obtain rfl := Option.some.inj e'
  have hc' : W.cell? (ad.add j) = some (.int .i64 (x.getD j 0)) := by simpa [rd] using hc
  refine hk.cell hc' (fun hb => ?_)
  rw [World.cell?, show W.heap[(ad.add j).block]? = some (.loop rl) from by rw [hb]; exact hl] at hc'
  cases hc'

set_option maxRecDepth 100000 in
set_option maxHeartbeats 8000000 in
theorem counted_calls (n : Nat) (f : FuncId) (h : List Int → Bool) (hf : Asks f h) (ef : ∀ args w, (callFunc f args).run Try.prog w = .ok (.enter f args) w) (h1 : 1 ≤ n) (h7 : n ≤ 7) (w : World) :
    Calls Try.prog 28 #[.int .i64 (n : Int), .func (.func f) #[] #[]] w fun e w' => e = .returned (.tuple #[.int .i64 (((permsF n n []).countP h : Nat) : Int), .bool true]) ∧ Below w.heap.size w w' := by
  have HF := Lib.hid hf
  have HEF := Lib.hid ef
  have hd1 : decide ((n : Int) < 1) = false := by simp; omega
  have hd2 : decide ((7 : Int) < (n : Int)) = false := by simp; omega
  clear hf ef
  refine (callsIn_wide (n := 0)).1 ?_
  refine callsIn_of_wp_marks Try.func28 rfl trivial ?_
  simp only [Try.ntmps28, List.size_toArray, List.length_cons, List.length_nil, Nat.reduceAdd, Nat.reduceSub, Array.replicate_succ, Array.replicate_zero, List.push_toArray, List.append_toArray, List.nil_append, List.cons_append]
  gi_wp2
  refine ⟨trivial, rfl, (callsIn_wide.2 (everyPerm_calls _ _)).mono ?_⟩
  rintro e w1 ⟨rfl, rfl⟩
  gi_wp2
  clear hd1 hd2
  obtain ⟨w1, hw1⟩ : ∃ w1, w1 = ((w.alloc (.cells #[.func (.func f) #[] #[]] 34)).alloc (.cells #[.int .i64 0] 3)).alloc (.cells #[.int .i64 (n : Int)] 3) := ⟨_, rfl⟩
  have hs1 : w1.heap.size = w.heap.size + 3 := by rw [hw1]; simp
  have hbw : Below w.heap.size w w1 := by rw [hw1]; exact below_alloc (below_alloc (below_alloc (Below.refl _ _) _) _) _
  have hfn : w1.heap[w.heap.size]? = some (.cells #[.func (.func f) #[] #[]] 34 (0, 0)) := by rw [hw1]; exact blk_alloc (blk_alloc (heap_alloc_new w _) _) _
  have hmany : w1.heap[w.heap.size + 1]? = some (.cells #[.int .i64 0] 3 (0, 0)) := by rw [hw1]; exact blk_alloc (by simpa using heap_alloc_new (w.alloc _) _) _
  have hbox : w1.heap[w.heap.size + 1 + 1]? = some (.cells #[.int .i64 (n : Int)] 3 (0, 0)) := by rw [hw1]; simpa using heap_alloc_new ((w.alloc _).alloc _) _
  have hseq := perms_iter n (w.heap.size + 1 + 1) w1 (fun k => k = w.heap.size + 1) h7 hbox (by omega) (by intro k hk; omega)
  have HSEQ := Lib.hid hseq
  rw [← hw1]
  clear hw1 hseq hbox
  have HFN := Lib.hid hfn
  have HMANY := Lib.hid hmany
  have HBW := Lib.hid hbw
  clear hfn hmany hbw
  refine range_law (gf := 39) (lb := #[.pointer (some ⟨w.heap.size + 1 + 1, 0, none⟩)]) ?hg ?eg HSEQ.out ?hb0 ?hSB ?hps
    (fun pre W => W.heap[w.heap.size + 1]? = some (.cells #[.int .i64 (wrap64 ((pre.countP h : Nat) : Int))] 3 (0, 0)) ∧ W.heap[w.heap.size]? = some (.cells #[.func (.func f) #[] #[]] 34 (0, 0))) (fun c pre W => False)
    ?hI ?hIx ?h0 ?round ?done ?stop
  case hI => exact fun s => (Low.heap _ _ (by omega) _).and (Low.heap _ _ (by omega) _)
  case hIx => exact fun c s => Low.pure _ _
  case h0 => exact ⟨(by rw [show wrap64 (((([] : List (List Int)).countP h : Nat)) : Int) = 0 by simp [wrap64]]; exact HMANY.out), HFN.out⟩
  case hg => rfl
  case eg => intro args w; simp [go_sem]
  case hb0 => exact Below.refl _ _
  case hSB => intro k hk; omega
  case hps => rintro x args W ⟨A, c, rfl, _⟩; rfl
  case stop => rintro D c pre W hD hx; exact hx.elim
  case round =>
    rintro l pre x args W hl1 hl2 ⟨rl, hrl⟩ hI hx hk ⟨A, c, rfl, hxc, hread⟩
    have hx7 : x.length ≤ 7 := by have := permsF_length n n [] (by simp) x hx; omega
    have HI := Lib.hid hI
    have HK := Lib.hid hk
    have HR := Lib.hid hread
    have HRL := Lib.hid hrl
    clear hI hk hx hread hrl
    refine ⟨fun a1 W1 => a1 = { tmps := #[.int .i64 (n : Int), .func (.func f) #[] #[], undef, .pointer (some ⟨w.heap.size, 0, none⟩), .int .i64 0, .bool false, .pointer (some ⟨w.heap.size + 1, 0, none⟩), .slice A x.length c, .int .i64 (n : Int), .bool false, .bool false, .int .i64 (n : Int), .bool false, .bool false, .int .i64 (n : Int), .func (.func 39) #[] #[.pointer (some ⟨w.heap.size + 1 + 1, 0, none⟩)], .slice A x.length c, undef, undef, undef, undef, undef, undef], defers := [] } ∧ W1 = W, ?_, ?_⟩
    · intro K hK
      gi_wp2_with (rw [Oper.semAt_eq _ _ _ (fun c h => by cases h)]; go_simp; try go_bits)
    · rintro a1 W1 ⟨rfl, rfl⟩
      refine ⟨KeepS.refl _ _, fun W2 hk2 hs2 => ?_⟩
      have hm2 := hk2.heap HI.out.1 (by omega)
      have hf2 := hk2.heap HI.out.2 (by omega)
      have hread2 := C_round HR.out HRL.out hk2 hx7
      have hcall := HF.out A c x W2 hread2 hxc hx7
      obtain ⟨q, hq⟩ : ∃ q, q = wrap64 ((pre.countP h : Nat) : Int) := ⟨_, rfl⟩
      rw [← hq] at hm2
      have HQ := Lib.hid hq
      have HM2 := Lib.hid hm2
      have HF2 := Lib.hid hf2
      have hc0 : W2.cell? ⟨w.heap.size, 0, none⟩ = some (.func (.func f) #[] #[]) := cell_of_one hf2
      have hef := HEF.out
      clear hq hm2 hf2 hread2 hk2
      cases hh : h x
      · have HC := Lib.hid (hh ▸ hcall)
        have HP : Hid (wrap64 (((pre ++ [x]).countP h : Nat) : Int) = q) := Lib.hid (by rw [HQ.out]; simp [List.countP_append, hh])
        clear hcall hh
        gi_wp2_with (first | (refine ⟨trivial, rfl, (callsIn_wide.2 (HC.out)).mono ?_⟩; rintro e w2 ⟨rfl, hb2⟩) | (rw [Oper.semAt_eq _ _ _ (fun c h => by cases h)]; go_simp; try go_bits))
        exact ⟨KeepS.of_below _ hb2, by rw [HP.out]; exact (hb2.block _ (blk_lt HM2.out)).trans HM2.out, (hb2.block _ (blk_lt HF2.out)).trans HF2.out⟩
      · have HC := Lib.hid (hh ▸ hcall)
        have HP : Hid (wrap64 (((pre ++ [x]).countP h : Nat) : Int) = wrap64 (q + 1)) := Lib.hid (by rw [HQ.out]; rw [wrap_step]; simp [List.countP_append, hh])
        clear hcall hh
        gi_wp2_with (first | (refine ⟨trivial, rfl, (callsIn_wide.2 (HC.out)).mono ?_⟩; rintro e w2 ⟨rfl, hb2⟩; (have hr2 := (hb2.block _ (blk_lt HM2.out)).trans HM2.out); (have hc2 := cell_of_one hr2); (have hf2 := free_of_one hr2); (have HB2 := Lib.hid hb2); (have HR3 := Lib.hid hr2); clear hb2 hr2) | (rw [Oper.semAt_eq _ _ _ (fun c h => by cases h)]; go_simp; try go_bits))
        refine ⟨(KeepS.of_below _ HB2.out).trans (KeepS.setCell w2 ⟨w.heap.size + 1, 0, none⟩ _ (.inl rfl)), ?_, ?_⟩
        · rw [HP.out]; exact one_setCell HR3.out
        · exact (Below.heap_setCell w2 ⟨w.heap.size + 1, 0, none⟩ _ _ (by show w.heap.size ≠ w.heap.size + 1; omega)).trans ((HB2.out.block _ (blk_lt HF2.out)).trans HF2.out)
  case done =>
    rintro D W hD ⟨hm, _⟩ hk hd
    have hc0 : W.cell? ⟨w.heap.size + 1, 0, none⟩ = some (.int .i64 (wrap64 (((permsF n n []).countP h : Nat) : Int))) := cell_of_one hm
    generalize hq : wrap64 (((permsF n n []).countP h : Nat) : Int) = q at hc0
    have HQ := Lib.hid hq
    have HK := Lib.hid hk
    have HD := Lib.hid hd
    clear hm hk hd hq
    gi_wp2
    clear hc0
    refine ⟨by simp, .inl ⟨_, _, rfl, run_takeDeferred HD.out, ?_⟩⟩
    have k1 : KeepS (fun k => k = w.heap.size + 1 ∨ k = D) w1 W := HK.out.mono (fun _ _ h => .inl h)
    have k3 := k1.trans (KeepS.putObj _ D (.deferred none) (.inl (.inr rfl)))
    have hbf := HBW.out.trans (k3.below (B := w.heap.size) (by omega) (fun k h => by rcases h with h | h <;> omega))
    refine ⟨.tuple #[.int .i64 q, .bool true], ?_, ?_, hbf⟩
    · simp [results, Try.f28, go_sem]
    · have hs := count_small n h h7
      have e := HQ.out
      rw [pw64 _ (by omega)] at e
      rw [e]
end Go.Proofs.Ytgehkabfjpifiaa.S

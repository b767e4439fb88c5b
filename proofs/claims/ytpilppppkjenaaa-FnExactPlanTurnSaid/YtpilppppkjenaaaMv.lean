/- The functions that make a plan of a plan: their grids. -/
import Derived.Test.YtpilppppkjenaaaMoved
namespace Go.Proofs.Ytpilppppkjenaaa.S
open Go.RowKit Go.Maps Go.Proofs.YtpilppppkjenaaaW.PrintWords Go.Proofs.YtpilppppkjenaaaW.PrintMore
set_option linter.unusedVariables false
set_option linter.unusedSimpArgs false

/-- A floor's grid, as a closure reads it. -/
structure FlI (B bx fb o co : Nat) (A0 : Option Addr) (k0 : Nat) (nums : List (List Int)) (W : World) (T : Nat → Prop) : Prop where
  nt : ∀ k, ¬ T k
  lb : bx < B
  lf : fb < B
  lo : o < B
  sz : B ≤ W.heap.size
  f1 : W.cell? ⟨bx, 0, none⟩ = some (.pointer (some ⟨fb, 0, none⟩))
  f2 : W.cell? ⟨fb, 0, none⟩ = some (.slice (some ⟨o, 0, none⟩) nums.length co)
  f3 : W.cell? ⟨o, 0, none⟩ = some (.slice A0 (wid nums) k0)
  gr : GridIn (fun k => k < B) W (.slice (some ⟨o, 0, none⟩) nums.length co) nums
theorem FlI.keep {B bx fb o co : Nat} {A0 : Option Addr} {k0 : Nat} {nums : List (List Int)} {W W' : World} {T T' S : Nat → Prop} (h : FlI B bx fb o co A0 k0 nums W T) (hk : KeepS S W W') (hS : ∀ k, S k → B ≤ k) (hT : ∀ k, ¬ T' k) : FlI B bx fb o co A0 k0 nums W' T' where
  nt := hT
  lb := h.lb
  lf := h.lf
  lo := h.lo
  sz := Nat.le_trans h.sz hk.size
  f1 := hk.cell h.f1 (fun e => by have := hS _ e; have := h.lb; simp only at *; omega)
  f2 := hk.cell h.f2 (fun e => by have := hS _ e; have := h.lf; simp only at *; omega)
  f3 := hk.cell h.f3 (fun e => by have := hS _ e; have := h.lo; simp only at *; omega)
  gr := h.gr.keep hk (fun k hl e => by have := hS _ e; omega)
theorem FlI.at {B bx fb o co : Nat} {A0 : Option Addr} {k0 : Nat} {nums : List (List Int)} {W : World} {T : Nat → Prop} (h : FlI B bx fb o co A0 k0 nums W T) (hrow : ∀ l ∈ nums, l.length = wid nums) {i j : Nat} (hi : i < nums.length) (hj : j < wid nums) :
    ∃ g cg, W.cell? ⟨o, i, none⟩ = some (.slice (some ⟨g, 0, none⟩) (wid nums) cg) ∧ W.cell? ⟨g, j, none⟩ = some (.int .i64 (gat nums i j)) := by
  obtain ⟨A, c, hv, _, hrows⟩ := h.gr
  obtain ⟨l, hl⟩ : ∃ l, nums[i]? = some l := ⟨_, List.getElem?_eq_getElem hi⟩
  obtain ⟨o2, u, hA, _, hcell, A2, c2, rfl, _, hcells⟩ := hrows i l hl
  injection hv with hv1 _ _
  rw [← hv1] at hA
  injection hA with hA
  injection hA with hA
  subst hA
  have hll := hrow l (List.mem_of_getElem? hl)
  obtain ⟨x, hx⟩ : ∃ x, l[j]? = some x := ⟨_, List.getElem?_eq_getElem (by omega)⟩
  obtain ⟨g, rfl, _, hxc⟩ := hcells j x hx
  rw [hll] at hcell
  refine ⟨g, c2, hcell, ?_⟩
  have : gat nums i j = x := by
    unfold gat
    rw [List.getD_eq_getElem?_getD (l := nums), hl]
    simp only [Option.getD_some]
    rw [List.getD_eq_getElem?_getD, hx]
    rfl
  rw [this]
  exact hxc
theorem FloorAt.cells {base : Nat} {W : World} {v : Value} {nums : List (List Int)} {rooms : List Rc} (h : FloorAt base W v nums rooms) (h0 : 0 < nums.length) :
    ∃ fb o co A0 k0, v = .pointer (some ⟨fb, 0, none⟩) ∧ ∀ bx W' (T : Nat → Prop), Below W.heap.size W W' → bx < W'.heap.size → W'.cell? ⟨bx, 0, none⟩ = some (.pointer (some ⟨fb, 0, none⟩)) → (∀ k, ¬ T k) → FlI W'.heap.size bx fb o co A0 k0 nums W' T := by
  obtain ⟨fb, cv, rv, rfl, hfb, hh, hg, _⟩ := h
  have hg0 := hg
  obtain ⟨A, c, rfl, hc, hrows⟩ := hg
  obtain ⟨l, hl⟩ : ∃ l, nums[0]? = some l := ⟨_, List.getElem?_eq_getElem h0⟩
  obtain ⟨o, u, rfl, _, hcell, A2, c2, rfl, _, _⟩ := hrows 0 l hl
  have hw : l.length = wid nums := by unfold wid; rw [List.getD_eq_getElem?_getD, hl]; rfl
  rw [hw] at hcell
  have hcf : W.cell? ⟨fb, 0, none⟩ = some (.slice (some ⟨o, 0, none⟩) nums.length c) := (blk_cell hh 0).trans rfl
  have lo := World.block_lt_of_cell? W _ hcell
  have lf := World.block_lt_of_cell? W _ hcf
  refine ⟨fb, o, c, A2, c2, rfl, fun bx W' T hb hbx hc1 hT => ⟨hT, hbx, Nat.lt_of_lt_of_le lf hb.size, Nat.lt_of_lt_of_le lo hb.size, Nat.le_refl _, hc1, (hb.cell lf).trans hcf, (hb.cell lo).trans hcell, ?_⟩⟩
  exact hg0.go (fun k _ hl => ⟨Nat.lt_of_lt_of_le hl hb.size, hb.block k hl⟩)

set_option maxRecDepth 100000 in
set_option maxHeartbeats 4000000 in
theorem flip_call (bx fb o n co m cg g r c : Nat) (A0 : Option Addr) (k0 : Nat) (x : Int) (W : World) (f1 : W.cell? ⟨bx, 0, none⟩ = some (.pointer (some ⟨fb, 0, none⟩))) (f2 : W.cell? ⟨fb, 0, none⟩ = some (.slice (some ⟨o, 0, none⟩) n co)) (f0 : W.cell? ⟨o, 0, none⟩ = some (.slice A0 m k0))
    (f3 : W.cell? ⟨o, r, none⟩ = some (.slice (some ⟨g, 0, none⟩) m cg)) (f4 : W.cell? ⟨g, m - 1 - c, none⟩ = some (.int .i64 x)) (hr : r < n) (hc : c < m) (hm : m ≤ 1000) :
    Calls Try.prog 38 #[.int .i64 (r : Nat), .int .i64 (c : Nat), .pointer (some ⟨bx, 0, none⟩)] W fun e w' => e = .returned (.int .i64 x) ∧ ∃ d, w' = W.drewN d := by
  have WC : Hid (∀ d, Calls Try.prog 37 #[.pointer (some ⟨fb, 0, none⟩)] (W.drewN d) fun e w' => e = .returned (.int .i64 (m : Nat)) ∧ w' = W.drewN d) := Lib.hid (fun d => wide_calls _ _ _ _ _ _ _ (W.drewN d) f2 (by omega) f0)
  have q1 : (r : Int) < (n : Int) := by omega
  have q2 : (0 : Int) ≤ (r : Int) := by omega
  have e1 : IntKind.i64.wrap ((m : Int) - 1) = (m : Int) - 1 := IntWalk.i64_in _ (by omega)
  obtain ⟨j, hj⟩ : ∃ j : Nat, m - 1 - c = j := ⟨_, rfl⟩
  rw [hj] at f4
  have e2 : IntKind.i64.wrap ((m : Int) - 1 - (c : Int)) = (j : Int) := by
    rw [IntWalk.i64_in _ (by omega)]
    omega
  have q3 : (j : Int) < (m : Int) := by omega
  have q4 : (0 : Int) ≤ (j : Int) := by omega
  clear hr hc hm hj f0
  go_enter Try.func38, Try.ntmps38
  go_wp2_with fail
  go_quiet (first | (go_at_call 37; with_reducible exact Calls.quiet_of_same (WC.out _)))
  go_wp2
  go_ret
  exact ⟨rfl, _, rfl⟩
set_option maxRecDepth 100000 in
set_option maxHeartbeats 4000000 in
theorem cross_call (bx fb o n co m cg g r c : Nat) (x : Int) (W : World) (f1 : W.cell? ⟨bx, 0, none⟩ = some (.pointer (some ⟨fb, 0, none⟩))) (f2 : W.cell? ⟨fb, 0, none⟩ = some (.slice (some ⟨o, 0, none⟩) n co))
    (f3 : W.cell? ⟨o, c, none⟩ = some (.slice (some ⟨g, 0, none⟩) m cg)) (f4 : W.cell? ⟨g, r, none⟩ = some (.int .i64 x)) (hc : c < n) (hr : r < m) :
    Calls Try.prog 39 #[.int .i64 (r : Nat), .int .i64 (c : Nat), .pointer (some ⟨bx, 0, none⟩)] W fun e w' => e = .returned (.int .i64 x) ∧ ∃ d, w' = W.drewN d := by
  have q1 : (c : Int) < (n : Int) := by omega
  have q2 : (0 : Int) ≤ (c : Int) := by omega
  have q3 : (r : Int) < (m : Int) := by omega
  have q4 : (0 : Int) ≤ (r : Int) := by omega
  clear hr hc
  go_enter Try.func39, Try.ntmps39
  go_wp2
  go_ret
  exact ⟨rfl, 0, rfl⟩
set_option maxRecDepth 100000 in
set_option maxHeartbeats 4000000 in
theorem turn_call (bx fb o n co m cg g r c : Nat) (x : Int) (W : World) (f1 : W.cell? ⟨bx, 0, none⟩ = some (.pointer (some ⟨fb, 0, none⟩))) (f2 : W.cell? ⟨fb, 0, none⟩ = some (.slice (some ⟨o, 0, none⟩) n co))
    (f3 : W.cell? ⟨o, n - 1 - c, none⟩ = some (.slice (some ⟨g, 0, none⟩) m cg)) (f4 : W.cell? ⟨g, r, none⟩ = some (.int .i64 x)) (hc : c < n) (hr : r < m) (hn : n ≤ 1000) :
    Calls Try.prog 40 #[.int .i64 (r : Nat), .int .i64 (c : Nat), .pointer (some ⟨bx, 0, none⟩)] W fun e w' => e = .returned (.int .i64 x) ∧ ∃ d, w' = W.drewN d := by
  have HC : Hid (∀ d, Calls Try.prog 36 #[.pointer (some ⟨fb, 0, none⟩)] (W.drewN d) fun e w' => e = .returned (.int .i64 (n : Nat)) ∧ w' = W.drewN d) := Lib.hid (fun d => high_calls _ _ _ _ (W.drewN d) f2)
  have e1 : IntKind.i64.wrap ((n : Int) - 1) = (n : Int) - 1 := IntWalk.i64_in _ (by omega)
  obtain ⟨j, hj⟩ : ∃ j : Nat, n - 1 - c = j := ⟨_, rfl⟩
  rw [hj] at f3
  have e2 : IntKind.i64.wrap ((n : Int) - 1 - (c : Int)) = (j : Int) := by
    rw [IntWalk.i64_in _ (by omega)]
    omega
  have q1 : (j : Int) < (n : Int) := by omega
  have q2 : (0 : Int) ≤ (j : Int) := by omega
  have q3 : (r : Int) < (m : Int) := by omega
  have q4 : (0 : Int) ≤ (r : Int) := by omega
  clear hr hc hn hj
  go_enter Try.func40, Try.ntmps40
  go_wp2_with fail
  go_quiet (first | (go_at_call 36; with_reducible exact Calls.quiet_of_same (HC.out _)))
  go_wp2
  go_ret
  exact ⟨rfl, _, rfl⟩
end Go.Proofs.Ytpilppppkjenaaa.S

/- The functions that make a plan of a plan: PlanFlip, PlanTrans, PlanTurn. -/
import Derived.Test.YtpilppppkjenaaaMv
namespace Go.Proofs.Ytpilppppkjenaaa.S
open Go.RowKit Go.Maps Go.Proofs.YtpilppppkjenaaaW.PrintWords Go.Proofs.YtpilppppkjenaaaW.PrintMore
set_option linter.unusedVariables false
set_option linter.unusedSimpArgs false

def Good (nums : List (List Int)) : Prop := 1 ≤ nums.length ∧ nums.length ≤ 6 ∧ 1 ≤ wid nums ∧ wid nums ≤ 6 ∧ ∀ l ∈ nums, l.length = wid nums
theorem good_nums {m : List (List Int)} (hf : fine m = true) : Good (numsOf m) := by
  obtain ⟨f1, f2, f3, f4, f5, f6, f7⟩ := of_decide_eq_true hf
  have e : numsOf m = mk m.length (wid m) (vals m (wid m)) := rfl
  rw [e]
  have hw := mk_wid (H := m.length) (W := wid m) (g := vals m (wid m)) f1
  unfold Good
  rw [mk_len, hw]
  exact ⟨f1, f2, f3, f4, mk_row⟩
/-- As seen from behind. -/
def flipG (nums : List (List Int)) : List (List Int) := mk nums.length (wid nums) fun r c => gat nums r (wid nums - 1 - c)
/-- Rows and columns exchanged. -/
def crossG (nums : List (List Int)) : List (List Int) := mk (wid nums) nums.length fun r c => gat nums c r
/-- A quarter to the right. -/
def turnG (nums : List (List Int)) : List (List Int) := mk (wid nums) nums.length fun r c => gat nums (nums.length - 1 - c) r
theorem mk_all {H W : Nat} {g : Nat → Nat → Int} {P : Int → Prop} (h : ∀ r c, r < H → c < W → P (g r c)) : ∀ l ∈ mk H W g, ∀ x ∈ l, P x := fun l hl x hx => by
  simp only [mk, List.mem_map, List.mem_range] at hl
  obtain ⟨r, hr, rfl⟩ := hl
  simp only [List.mem_map, List.mem_range] at hx
  obtain ⟨c, hc, rfl⟩ := hx
  exact h r c hr hc
theorem gat_all {m : List (List Int)} {P : Int → Prop} (h : ∀ l ∈ m, ∀ x ∈ l, P x) (hrow : ∀ l ∈ m, l.length = wid m) {r c : Nat} (hr : r < m.length) (hc : c < wid m) : P (gat m r c) := by
  unfold gat
  rw [List.getD_eq_getElem?_getD (l := m), List.getElem?_eq_getElem hr]
  simp only [Option.getD_some]
  have hl := hrow _ (List.getElem_mem hr)
  rw [List.getD_eq_getElem?_getD, List.getElem?_eq_getElem (by omega)]
  exact h _ (List.getElem_mem hr) _ (List.getElem_mem (by omega))

theorem told_flip {B bx fb o co : Nat} {A0 : Option Addr} {k0 : Nat} {nums : List (List Int)} (hg : Good nums) :
    Told 38 #[.pointer (some ⟨bx, 0, none⟩)] nums.length (wid nums) (fun r c => gat nums r (wid nums - 1 - c)) (fun _ W T => FlI B bx fb o co A0 k0 nums W T) B where
  call := fun r c W T hr hc hI => by
    obtain ⟨g1, g2, g3, g4, hrow⟩ := hg
    obtain ⟨g, cg, f3, f4⟩ := hI.at hrow hr (show wid nums - 1 - c < wid nums by omega)
    show Calls Try.prog 38 #[.int .i64 (r : Nat), .int .i64 (c : Nat), .pointer (some ⟨bx, 0, none⟩)] W _
    refine (flip_call bx fb o nums.length co (wid nums) cg g r c A0 k0 _ W hI.f1 hI.f2 hI.f3 f3 f4 hr hc (by omega)).mono ?_
    rintro e w' ⟨rfl, d, rfl⟩
    exact ⟨rfl, T, hI.keep (KeepS.drewN (fun _ => False) W d) (fun _ e => e.elim) hI.nt, KeepS.drewN _ _ _, fun k h => .inl h⟩
  still := fun i W T W' hI hk => hI.keep hk (fun k h => h.1) hI.nt
  lt := fun i W T hI k hT => absurd hT (hI.nt k)
set_option maxRecDepth 100000 in
set_option maxHeartbeats 4000000 in
theorem flipped_calls (base : Nat) (v : Value) (nums : List (List Int)) (rooms : List Rc) (W : World) (hf : FloorAt base W v nums rooms) (hg : Good nums) :
    Calls Try.prog 21 #[v] W fun e w' => ∃ gv, e = .returned gv ∧ GridIn (fun k => W.heap.size ≤ k) w' gv (flipG nums) ∧ Below W.heap.size W w' := by
  obtain ⟨g1, g2, g3, g4, hrow⟩ := hg
  obtain ⟨fb, o, co, A0, k0, rfl, hfl⟩ := hf.cells (by omega)
  have hmf : ∀ (fn : Fn) (first cap : Array Value) (w : World), (Instr.makeFunc fn first cap).run Try.prog w = .ok (.func fn first cap) w := fun _ _ _ _ => rfl
  have hb1 : Below W.heap.size W (W.alloc (Obj.cells #[.pointer (some ⟨fb, 0, none⟩)] 33)).drew := (below_alloc (Below.refl _ _) _).drew
  have x1 : (W.alloc (Obj.cells #[.pointer (some ⟨fb, 0, none⟩)] 33)).drew.cell? ⟨W.heap.size, 0, none⟩ = some (.pointer (some ⟨fb, 0, none⟩)) := (blk_cell (w := (W.alloc (Obj.cells #[.pointer (some ⟨fb, 0, none⟩)] 33)).drew) (new_at W _) 0).trans rfl
  have hI := hfl W.heap.size (W.alloc (Obj.cells #[.pointer (some ⟨fb, 0, none⟩)] 33)).drew (fun _ => False) hb1 (by simp) x1 (fun k e => e)
  have HC := Lib.hid (high_calls fb _ _ _ (W.alloc (Obj.cells #[.pointer (some ⟨fb, 0, none⟩)] 33)).drew hI.f2)
  have WC := Lib.hid (wide_calls fb _ _ _ _ _ _ (W.alloc (Obj.cells #[.pointer (some ⟨fb, 0, none⟩)] 33)).drew hI.f2 (by omega) hI.f3)
  have BC := Lib.hid (blank_calls 38 #[.pointer (some ⟨W.heap.size, 0, none⟩)] nums.length (wid nums) (by omega) (by omega) (fun r c => gat nums r (wid nums - 1 - c)) _ (W.alloc (Obj.cells #[.pointer (some ⟨fb, 0, none⟩)] 33)).drew (fun _ => False) (told_flip ⟨g1, g2, g3, g4, hrow⟩) hI (enters_of Try.func38 rfl rfl))
  have HB1 := Lib.hid hb1
  clear hI hfl hf hb1 hrow g1 g2 g3 g4
  go_enter Try.func21, Try.ntmps21
  go_wp2_with fail
  generalize hW1 : W.alloc (Obj.cells #[.pointer (some ⟨fb, 0, none⟩)] 33) = W1 at *
  have x0 : W1.cell? ⟨W.heap.size, 0, none⟩ = some (.pointer (some ⟨fb, 0, none⟩)) := x1
  clear hW1
  go_region_held3 (fun w' => w'.cell? ⟨W.heap.size, 0, none⟩ = some (.pointer (some ⟨fb, 0, none⟩)))
    (first
      | exact x1
      | exact m1)
    (first
      | (go_at_call 36; with_reducible refine (HC.out).mono ?_; rintro e w2 ⟨rfl, rfl⟩)
      | (go_at_call 37; with_reducible refine (WC.out).mono ?_; rintro e w2 ⟨rfl, rfl⟩)
      | (go_at_call 35; with_reducible refine (BC.out).mono ?_; rintro e w2 ⟨o2, T2, vs, rfl, hbl⟩; have m1 := hbl.kp.cell (p := ⟨W.heap.size, 0, none⟩) x1 (fun e => e)))
  all_goals (have HBL := Lib.hid hbl; clear hbl m1 x0 x1; go_wp2; go_ret; exact ⟨_, rfl, HBL.out.out.grid.go (fun k h hl => ⟨Nat.le_trans HB1.out.size h.1, rfl⟩), HB1.out.trans (HBL.out.kp.below HB1.out.size (fun k e => e.elim))⟩)
theorem told_cross {B bx fb o co : Nat} {A0 : Option Addr} {k0 : Nat} {nums : List (List Int)} (hg : Good nums) :
    Told 39 #[.pointer (some ⟨bx, 0, none⟩)] (wid nums) nums.length (fun r c => gat nums c r) (fun _ W T => FlI B bx fb o co A0 k0 nums W T) B where
  call := fun r c W T hr hc hI => by
    obtain ⟨g1, g2, g3, g4, hrow⟩ := hg
    obtain ⟨g, cg, f3, f4⟩ := hI.at hrow hc hr
    show Calls Try.prog 39 #[.int .i64 (r : Nat), .int .i64 (c : Nat), .pointer (some ⟨bx, 0, none⟩)] W _
    refine (cross_call bx fb o nums.length co (wid nums) cg g r c _ W hI.f1 hI.f2 f3 f4 hc hr).mono ?_
    rintro e w' ⟨rfl, d, rfl⟩
    exact ⟨rfl, T, hI.keep (KeepS.drewN (fun _ => False) W d) (fun _ e => e.elim) hI.nt, KeepS.drewN _ _ _, fun k h => .inl h⟩
  still := fun i W T W' hI hk => hI.keep hk (fun k h => h.1) hI.nt
  lt := fun i W T hI k hT => absurd hT (hI.nt k)
set_option maxRecDepth 100000 in
set_option maxHeartbeats 4000000 in
theorem crossed_calls (base : Nat) (v : Value) (nums : List (List Int)) (rooms : List Rc) (W : World) (hf : FloorAt base W v nums rooms) (hg : Good nums) :
    Calls Try.prog 25 #[v] W fun e w' => ∃ gv, e = .returned gv ∧ GridIn (fun k => W.heap.size ≤ k) w' gv (crossG nums) ∧ Below W.heap.size W w' := by
  obtain ⟨g1, g2, g3, g4, hrow⟩ := hg
  obtain ⟨fb, o, co, A0, k0, rfl, hfl⟩ := hf.cells (by omega)
  have hmf : ∀ (fn : Fn) (first cap : Array Value) (w : World), (Instr.makeFunc fn first cap).run Try.prog w = .ok (.func fn first cap) w := fun _ _ _ _ => rfl
  have hb1 : Below W.heap.size W (W.alloc (Obj.cells #[.pointer (some ⟨fb, 0, none⟩)] 33)).drew := (below_alloc (Below.refl _ _) _).drew
  have x1 : (W.alloc (Obj.cells #[.pointer (some ⟨fb, 0, none⟩)] 33)).drew.cell? ⟨W.heap.size, 0, none⟩ = some (.pointer (some ⟨fb, 0, none⟩)) := (blk_cell (w := (W.alloc (Obj.cells #[.pointer (some ⟨fb, 0, none⟩)] 33)).drew) (new_at W _) 0).trans rfl
  have hI := hfl W.heap.size (W.alloc (Obj.cells #[.pointer (some ⟨fb, 0, none⟩)] 33)).drew (fun _ => False) hb1 (by simp) x1 (fun k e => e)
  have HC := Lib.hid (high_calls fb _ _ _ (W.alloc (Obj.cells #[.pointer (some ⟨fb, 0, none⟩)] 33)).drew hI.f2)
  have WC := Lib.hid (wide_calls fb _ _ _ _ _ _ (W.alloc (Obj.cells #[.pointer (some ⟨fb, 0, none⟩)] 33)).drew hI.f2 (by omega) hI.f3)
  have BC := Lib.hid (blank_calls 39 #[.pointer (some ⟨W.heap.size, 0, none⟩)] (wid nums) nums.length (by omega) (by omega) (fun r c => gat nums c r) _ (W.alloc (Obj.cells #[.pointer (some ⟨fb, 0, none⟩)] 33)).drew (fun _ => False) (told_cross ⟨g1, g2, g3, g4, hrow⟩) hI (enters_of Try.func39 rfl rfl))
  have HB1 := Lib.hid hb1
  clear hI hfl hf hb1 hrow g1 g2 g3 g4
  go_enter Try.func25, Try.ntmps25
  go_wp2_with fail
  generalize hW1 : W.alloc (Obj.cells #[.pointer (some ⟨fb, 0, none⟩)] 33) = W1 at *
  have x0 : W1.cell? ⟨W.heap.size, 0, none⟩ = some (.pointer (some ⟨fb, 0, none⟩)) := x1
  clear hW1
  go_region_held3 (fun w' => w'.cell? ⟨W.heap.size, 0, none⟩ = some (.pointer (some ⟨fb, 0, none⟩)))
    (first
      | exact x1
      | exact m1)
    (first
      | (go_at_call 36; with_reducible refine (HC.out).mono ?_; rintro e w2 ⟨rfl, rfl⟩)
      | (go_at_call 37; with_reducible refine (WC.out).mono ?_; rintro e w2 ⟨rfl, rfl⟩)
      | (go_at_call 35; with_reducible refine (BC.out).mono ?_; rintro e w2 ⟨o2, T2, vs, rfl, hbl⟩; have m1 := hbl.kp.cell (p := ⟨W.heap.size, 0, none⟩) x1 (fun e => e)))
  all_goals (have HBL := Lib.hid hbl; clear hbl m1 x0 x1; go_wp2; go_ret; exact ⟨_, rfl, HBL.out.out.grid.go (fun k h hl => ⟨Nat.le_trans HB1.out.size h.1, rfl⟩), HB1.out.trans (HBL.out.kp.below HB1.out.size (fun k e => e.elim))⟩)
theorem told_turn {B bx fb o co : Nat} {A0 : Option Addr} {k0 : Nat} {nums : List (List Int)} (hg : Good nums) :
    Told 40 #[.pointer (some ⟨bx, 0, none⟩)] (wid nums) nums.length (fun r c => gat nums (nums.length - 1 - c) r) (fun _ W T => FlI B bx fb o co A0 k0 nums W T) B where
  call := fun r c W T hr hc hI => by
    obtain ⟨g1, g2, g3, g4, hrow⟩ := hg
    obtain ⟨g, cg, f3, f4⟩ := hI.at hrow (show nums.length - 1 - c < nums.length by omega) hr
    show Calls Try.prog 40 #[.int .i64 (r : Nat), .int .i64 (c : Nat), .pointer (some ⟨bx, 0, none⟩)] W _
    refine (turn_call bx fb o nums.length co (wid nums) cg g r c _ W hI.f1 hI.f2 f3 f4 hc hr (by omega)).mono ?_
    rintro e w' ⟨rfl, d, rfl⟩
    exact ⟨rfl, T, hI.keep (KeepS.drewN (fun _ => False) W d) (fun _ e => e.elim) hI.nt, KeepS.drewN _ _ _, fun k h => .inl h⟩
  still := fun i W T W' hI hk => hI.keep hk (fun k h => h.1) hI.nt
  lt := fun i W T hI k hT => absurd hT (hI.nt k)
set_option maxRecDepth 100000 in
set_option maxHeartbeats 4000000 in
theorem turned_calls (base : Nat) (v : Value) (nums : List (List Int)) (rooms : List Rc) (W : World) (hf : FloorAt base W v nums rooms) (hg : Good nums) :
    Calls Try.prog 27 #[v] W fun e w' => ∃ gv, e = .returned gv ∧ GridIn (fun k => W.heap.size ≤ k) w' gv (turnG nums) ∧ Below W.heap.size W w' := by
  obtain ⟨g1, g2, g3, g4, hrow⟩ := hg
  obtain ⟨fb, o, co, A0, k0, rfl, hfl⟩ := hf.cells (by omega)
  have hmf : ∀ (fn : Fn) (first cap : Array Value) (w : World), (Instr.makeFunc fn first cap).run Try.prog w = .ok (.func fn first cap) w := fun _ _ _ _ => rfl
  have hb1 : Below W.heap.size W (W.alloc (Obj.cells #[.pointer (some ⟨fb, 0, none⟩)] 33)).drew := (below_alloc (Below.refl _ _) _).drew
  have x1 : (W.alloc (Obj.cells #[.pointer (some ⟨fb, 0, none⟩)] 33)).drew.cell? ⟨W.heap.size, 0, none⟩ = some (.pointer (some ⟨fb, 0, none⟩)) := (blk_cell (w := (W.alloc (Obj.cells #[.pointer (some ⟨fb, 0, none⟩)] 33)).drew) (new_at W _) 0).trans rfl
  have hI := hfl W.heap.size (W.alloc (Obj.cells #[.pointer (some ⟨fb, 0, none⟩)] 33)).drew (fun _ => False) hb1 (by simp) x1 (fun k e => e)
  have HC := Lib.hid (high_calls fb _ _ _ (W.alloc (Obj.cells #[.pointer (some ⟨fb, 0, none⟩)] 33)).drew hI.f2)
  have WC := Lib.hid (wide_calls fb _ _ _ _ _ _ (W.alloc (Obj.cells #[.pointer (some ⟨fb, 0, none⟩)] 33)).drew hI.f2 (by omega) hI.f3)
  have BC := Lib.hid (blank_calls 40 #[.pointer (some ⟨W.heap.size, 0, none⟩)] (wid nums) nums.length (by omega) (by omega) (fun r c => gat nums (nums.length - 1 - c) r) _ (W.alloc (Obj.cells #[.pointer (some ⟨fb, 0, none⟩)] 33)).drew (fun _ => False) (told_turn ⟨g1, g2, g3, g4, hrow⟩) hI (enters_of Try.func40 rfl rfl))
  have HB1 := Lib.hid hb1
  clear hI hfl hf hb1 hrow g1 g2 g3 g4
  go_enter Try.func27, Try.ntmps27
  go_wp2_with fail
  generalize hW1 : W.alloc (Obj.cells #[.pointer (some ⟨fb, 0, none⟩)] 33) = W1 at *
  have x0 : W1.cell? ⟨W.heap.size, 0, none⟩ = some (.pointer (some ⟨fb, 0, none⟩)) := x1
  clear hW1
  go_region_held3 (fun w' => w'.cell? ⟨W.heap.size, 0, none⟩ = some (.pointer (some ⟨fb, 0, none⟩)))
    (first
      | exact x1
      | exact m1)
    (first
      | (go_at_call 36; with_reducible refine (HC.out).mono ?_; rintro e w2 ⟨rfl, rfl⟩)
      | (go_at_call 37; with_reducible refine (WC.out).mono ?_; rintro e w2 ⟨rfl, rfl⟩)
      | (go_at_call 35; with_reducible refine (BC.out).mono ?_; rintro e w2 ⟨o2, T2, vs, rfl, hbl⟩; have m1 := hbl.kp.cell (p := ⟨W.heap.size, 0, none⟩) x1 (fun e => e)))
  all_goals (have HBL := Lib.hid hbl; clear hbl m1 x0 x1; go_wp2; go_ret; exact ⟨_, rfl, HBL.out.out.grid.go (fun k h hl => ⟨Nat.le_trans HB1.out.size h.1, rfl⟩), HB1.out.trans (HBL.out.kp.below HB1.out.size (fun k e => e.elim))⟩)

/-! ### the plan of a grid -/
theorem texts_row {base : Nat} {g : List (List Int)} {w : World} {o : Nat} (ho : w.ownsRow base 9 1 (.slice (some ⟨o, 0, none⟩) (numsOf g).length (numsOf g).length) (numsOf g).length ((numsOf g).map fun l => Value.string (rowText l))) :
    Kd.R Kd.string 9 w base (fun _ => True) (.slice (some ⟨o, 0, none⟩) (numsOf g).length (numsOf g).length) ((numsOf g).map rowText) := by
  have e1 : ((numsOf g).map rowText).length = (numsOf g).length := by simp
  have e2 : (numsOf g).map (fun l => Value.string (rowText l)) = ((numsOf g).map rowText).map .string := by simp
  rw [e2, ← e1] at ho
  rw [← e1]
  exact R_texts ho
set_option maxRecDepth 100000 in
set_option maxHeartbeats 4000000 in
theorem plan_calls (g : List (List Int)) (P : Nat → Prop) (gv : Value) (W : World) (hg : GridIn P W gv g) (hP : ∀ k, P k → k < W.heap.size) (hwf : ∀ l ∈ g, ∀ x ∈ l, 0 ≤ x ∧ x ≤ 1000) (hml : ∀ l ∈ g, l.length ≤ 4000000) :
    Calls Try.prog 34 #[gv] W fun e w' => ∃ v0, e = .returned (.tuple #[v0, .bool (fine g)]) ∧ Kd.R Kd.string 9 w' W.heap.size (fun _ => True) v0 (if fine g = true then (numsOf g).map rowText else []) ∧ Below W.heap.size W w' := by
  have SC := Lib.hid (settled_calls g P gv W hg hP hwf hml)
  clear hg hP hwf hml
  cases hf : fine g with
  | false =>
    have HF := Lib.hid hf
    clear hf
    go_enter Try.func34, Try.ntmps34
    go_wp2_with fail
    refine SC.out.mono ?_
    rintro e w1 ⟨v, rfl, -, hb⟩
    rw [HF.out]
    have HB := Lib.hid hb
    clear hb
    go_wp2
    go_ret2
    exact ⟨_, rfl, Kd.R_nil _ _ _ _ _, HB.out⟩
  | true =>
    have HF := Lib.hid hf
    clear hf
    go_enter Try.func34, Try.ntmps34
    go_wp2_with fail
    refine SC.out.mono ?_
    rintro e w1 ⟨v, rfl, hfl, hb⟩
    have hfa := hfl HF.out
    rw [HF.out]
    obtain ⟨g1, g2, g3, g4⟩ := numsOf_low HF.out
    have TC := Lib.hid (text_calls W.heap.size v _ _ w1 hfa g1 g2 g3 g4)
    have HB := Lib.hid hb
    clear hb hfa hfl g1 g2 g3 g4
    go_wp2_with fail
    refine TC.out.mono ?_
    rintro e w2 ⟨o, rfl, ho, hb2⟩
    have HR := Lib.hid (Kd.R_lower (texts_row ho) HB.out.size)
    have HB2 : Hid (Below W.heap.size W w2) := Lib.hid (HB.out.trans (low_below hb2 HB.out.size))
    clear ho hb2
    go_wp2
    go_ret2
    exact ⟨_, rfl, HR.out, HB2.out⟩

/-! ### remade -/
/-- Whether the moved grid is a plan, and its texts. -/
def movedOk (G : List (List Int) → List (List Int)) (ps : List ByteArray) : Bool := ffine ps && fine (G (numsOf (ps.map bnum)))
def moved (G : List (List Int) → List (List Int)) (ps : List ByteArray) : List ByteArray := if movedOk G ps = true then (numsOf (G (numsOf (ps.map bnum)))).map rowText else []
def Moves (hw : FuncId) (G : List (List Int) → List (List Int)) : Prop := ∀ base v nums rooms W, FloorAt base W v nums rooms → Good nums → Calls Try.prog hw #[v] W fun e w' => ∃ gv, e = .returned gv ∧ GridIn (fun k => W.heap.size ≤ k) w' gv (G nums) ∧ Below W.heap.size W w'
set_option maxRecDepth 100000 in
set_option maxHeartbeats 4000000 in
theorem remade_calls (hw : FuncId) (G : List (List Int) → List (List Int)) (en : ∀ (args : Array Value) (w : World), (callFunc hw args).run Try.prog w = .ok (.enter hw args) w) (HW : Moves hw G)
    (hG : ∀ nums, Good nums → (∀ l ∈ nums, ∀ x ∈ l, 0 ≤ x ∧ x ≤ 25) → (∀ l ∈ G nums, ∀ x ∈ l, 0 ≤ x ∧ x ≤ 1000) ∧ ∀ l ∈ G nums, l.length ≤ 4000000)
    (ps : List ByteArray) (A : Option Addr) (c : Nat) (W : World) (hr : Kd.C Kd.string W A ps.length ps) (hc0 : ps.length ≤ c) (hn : ps.length ≤ 4000000) (hs : ∀ s ∈ ps, s.size ≤ 4000000) :
    Calls Try.prog 20 #[.slice A ps.length c, .func (Fn.func hw) #[] #[]] W fun e w' => ∃ v0, e = .returned (.tuple #[v0, .bool (movedOk G ps)]) ∧ Kd.R Kd.string 9 w' W.heap.size (fun _ => True) v0 (moved G ps) ∧ Below W.heap.size W w' := by
  have FC := Lib.hid (floorOf_calls ps A c W hr hc0 hn hs)
  have HWH := Lib.hid HW
  have HGH := Lib.hid hG
  clear hr hc0 hn hs HW hG
  cases hf : ffine ps with
  | false =>
    have hx : movedOk G ps = false := by unfold movedOk; rw [hf]; rfl
    have hm : moved G ps = [] := by unfold moved; rw [hx]; rfl
    rw [hx, hm]
    have HF := Lib.hid hf
    clear hf hx hm
    go_enter Try.func20, Try.ntmps20
    go_wp2_with fail
    refine FC.out.mono ?_
    rintro e w1 ⟨v, rfl, -, hb⟩
    rw [HF.out]
    have HB := Lib.hid hb
    clear hb
    go_wp2
    go_ret2
    exact ⟨_, rfl, Kd.R_nil _ _ _ _ _, HB.out⟩
  | true =>
    have hx : movedOk G ps = fine (G (numsOf (ps.map bnum))) := by unfold movedOk; rw [hf]; rfl
    have hm : moved G ps = if fine (G (numsOf (ps.map bnum))) = true then (numsOf (G (numsOf (ps.map bnum)))).map rowText else [] := by unfold moved; rw [hx]
    rw [hx, hm]
    obtain ⟨rs, hrs⟩ : ∃ rs, rs = (if fine (G (numsOf (ps.map bnum))) = true then (numsOf (G (numsOf (ps.map bnum)))).map rowText else []) := ⟨_, rfl⟩
    obtain ⟨b, hbb⟩ : ∃ b, b = fine (G (numsOf (ps.map bnum))) := ⟨_, rfl⟩
    rw [← hrs, ← hbb]
    have HRS := Lib.hid hrs
    have HBB := Lib.hid hbb
    have HF := Lib.hid hf
    clear hf hx hm hrs hbb
    go_enter Try.func20, Try.ntmps20
    go_wp2_with fail
    refine FC.out.mono ?_
    rintro e w1 ⟨v, rfl, hfl, hb⟩
    rw [HF.out]
    have hgn := good_nums (ffine_fine HF.out)
    have CC := Lib.hid (HWH.out _ _ _ _ w1 (hfl HF.out) hgn)
    have HGG := Lib.hid (HGH.out _ hgn (numsOf_low (ffine_fine HF.out)).1)
    have HB := Lib.hid hb
    clear hb hfl hgn
    go_wp2_with fail
    refine CC.out.mono ?_
    rintro e w2 ⟨gv, rfl, hgr, hb2⟩
    have PC := Lib.hid (plan_calls _ (fun k => k < w2.heap.size) gv w2 (hgr.go (fun k _ hl => ⟨hl, rfl⟩)) (fun k h => h) HGG.out.1 HGG.out.2)
    have HB2 : Hid (Below W.heap.size W w2) := Lib.hid (HB.out.trans (low_below hb2 HB.out.size))
    clear hgr hb2
    go_wp2_with fail
    refine PC.out.mono ?_
    rintro e w3 ⟨v0, rfl, hR, hb3⟩
    rw [← HRS.out] at hR
    rw [← HBB.out]
    clear HGG PC CC HWH HGH FC HF HRS HBB
    have HR := Lib.hid (Kd.R_lower hR HB2.out.size)
    have HB3 : Hid (Below W.heap.size W w3) := Lib.hid (HB2.out.trans (low_below hb3 HB2.out.size))
    clear hR hb3
    go_wp2
    go_ret2
    exact ⟨_, rfl, HR.out, HB3.out⟩

theorem flip_low : ∀ nums, Good nums → (∀ l ∈ nums, ∀ x ∈ l, 0 ≤ x ∧ x ≤ 25) → (∀ l ∈ flipG nums, ∀ x ∈ l, 0 ≤ x ∧ x ≤ 1000) ∧ ∀ l ∈ flipG nums, l.length ≤ 4000000 := fun nums hg h => by
  obtain ⟨g1, g2, g3, g4, g5⟩ := hg
  refine ⟨mk_all (P := fun x => 0 ≤ x ∧ x ≤ 1000) (fun r c hr hc => ?_), fun l hl => by rw [mk_row l hl]; omega⟩
  have h : ∀ l ∈ nums, ∀ x ∈ l, 0 ≤ x ∧ x ≤ 1000 := fun l hl x hx => by have := h l hl x hx; omega
  exact gat_all h g5 hr (show wid nums - 1 - c < wid nums by omega)
def impl_PlanFlip.f (ps : List ByteArray) : Option (List ByteArray × Bool) := if small ps = true then some (moved flipG ps, movedOk flipG ps) else none
set_option maxRecDepth 100000 in
set_option maxHeartbeats 4000000 in
theorem impl_PlanFlip.calls (A0 : Option Addr) (c0 : Nat) (l0 : List ByteArray) (r1 : List ByteArray) (r2 : Bool) (w : World) (hr0 : Kd.C Kd.string w A0 l0.length l0) (hc0 : l0.length ≤ c0) (h : impl_PlanFlip.f l0 = some (r1, r2)) :
    Calls Try.prog 9 #[.slice A0 l0.length c0] w fun e w' => ∃ v0_ : Value, e = .returned (.tuple #[v0_, .bool r2]) ∧ Kd.R Kd.string 9 w' w.heap.size (fun _ => True) v0_ r1 ∧ Below w.heap.size w w' := by
  unfold impl_PlanFlip.f at h
  split at h
  case isFalse => cases h
  rename_i hs
  have h2 := Option.some.inj h
  injection h2 with h3 h4
  subst h3
  subst h4
  have RC := Lib.hid (remade_calls 21 flipG (enters_of Try.func21 rfl rfl) flipped_calls flip_low l0 A0 c0 w hr0 hc0 (small_out hs).1 (small_out hs).2)
  clear hs hr0 hc0
  go_enter Try.func9, Try.ntmps9
  go_wp2_with fail
  refine RC.out.mono ?_
  rintro e w1 ⟨v0, rfl, hR, hb⟩
  have HR := Lib.hid hR
  have HB := Lib.hid hb
  clear hR hb
  go_wp2
  go_ret2
  exact ⟨_, rfl, HR.out, HB.out⟩

theorem cross_low : ∀ nums, Good nums → (∀ l ∈ nums, ∀ x ∈ l, 0 ≤ x ∧ x ≤ 25) → (∀ l ∈ crossG nums, ∀ x ∈ l, 0 ≤ x ∧ x ≤ 1000) ∧ ∀ l ∈ crossG nums, l.length ≤ 4000000 := fun nums hg h => by
  obtain ⟨g1, g2, g3, g4, g5⟩ := hg
  refine ⟨mk_all (P := fun x => 0 ≤ x ∧ x ≤ 1000) (fun r c hr hc => ?_), fun l hl => by rw [mk_row l hl]; omega⟩
  have h : ∀ l ∈ nums, ∀ x ∈ l, 0 ≤ x ∧ x ≤ 1000 := fun l hl x hx => by have := h l hl x hx; omega
  exact gat_all h g5 hc hr
def impl_PlanTrans.f (ps : List ByteArray) : Option (List ByteArray × Bool) := if small ps = true then some (moved crossG ps, movedOk crossG ps) else none
set_option maxRecDepth 100000 in
set_option maxHeartbeats 4000000 in
theorem impl_PlanTrans.calls (A0 : Option Addr) (c0 : Nat) (l0 : List ByteArray) (r1 : List ByteArray) (r2 : Bool) (w : World) (hr0 : Kd.C Kd.string w A0 l0.length l0) (hc0 : l0.length ≤ c0) (h : impl_PlanTrans.f l0 = some (r1, r2)) :
    Calls Try.prog 14 #[.slice A0 l0.length c0] w fun e w' => ∃ v0_ : Value, e = .returned (.tuple #[v0_, .bool r2]) ∧ Kd.R Kd.string 9 w' w.heap.size (fun _ => True) v0_ r1 ∧ Below w.heap.size w w' := by
  unfold impl_PlanTrans.f at h
  split at h
  case isFalse => cases h
  rename_i hs
  have h2 := Option.some.inj h
  injection h2 with h3 h4
  subst h3
  subst h4
  have RC := Lib.hid (remade_calls 25 crossG (enters_of Try.func25 rfl rfl) crossed_calls cross_low l0 A0 c0 w hr0 hc0 (small_out hs).1 (small_out hs).2)
  clear hs hr0 hc0
  go_enter Try.func14, Try.ntmps14
  go_wp2_with fail
  refine RC.out.mono ?_
  rintro e w1 ⟨v0, rfl, hR, hb⟩
  have HR := Lib.hid hR
  have HB := Lib.hid hb
  clear hR hb
  go_wp2
  go_ret2
  exact ⟨_, rfl, HR.out, HB.out⟩

theorem turn_low : ∀ nums, Good nums → (∀ l ∈ nums, ∀ x ∈ l, 0 ≤ x ∧ x ≤ 25) → (∀ l ∈ turnG nums, ∀ x ∈ l, 0 ≤ x ∧ x ≤ 1000) ∧ ∀ l ∈ turnG nums, l.length ≤ 4000000 := fun nums hg h => by
  obtain ⟨g1, g2, g3, g4, g5⟩ := hg
  refine ⟨mk_all (P := fun x => 0 ≤ x ∧ x ≤ 1000) (fun r c hr hc => ?_), fun l hl => by rw [mk_row l hl]; omega⟩
  have h : ∀ l ∈ nums, ∀ x ∈ l, 0 ≤ x ∧ x ≤ 1000 := fun l hl x hx => by have := h l hl x hx; omega
  exact gat_all h g5 (show nums.length - 1 - c < nums.length by omega) hr
def impl_PlanTurn.f (ps : List ByteArray) : Option (List ByteArray × Bool) := if small ps = true then some (moved turnG ps, movedOk turnG ps) else none
set_option maxRecDepth 100000 in
set_option maxHeartbeats 4000000 in
theorem impl_PlanTurn.calls (A0 : Option Addr) (c0 : Nat) (l0 : List ByteArray) (r1 : List ByteArray) (r2 : Bool) (w : World) (hr0 : Kd.C Kd.string w A0 l0.length l0) (hc0 : l0.length ≤ c0) (h : impl_PlanTurn.f l0 = some (r1, r2)) :
    Calls Try.prog 16 #[.slice A0 l0.length c0] w fun e w' => ∃ v0_ : Value, e = .returned (.tuple #[v0_, .bool r2]) ∧ Kd.R Kd.string 9 w' w.heap.size (fun _ => True) v0_ r1 ∧ Below w.heap.size w w' := by
  unfold impl_PlanTurn.f at h
  split at h
  case isFalse => cases h
  rename_i hs
  have h2 := Option.some.inj h
  injection h2 with h3 h4
  subst h3
  subst h4
  have RC := Lib.hid (remade_calls 27 turnG (enters_of Try.func27 rfl rfl) turned_calls turn_low l0 A0 c0 w hr0 hc0 (small_out hs).1 (small_out hs).2)
  clear hs hr0 hc0
  go_enter Try.func16, Try.ntmps16
  go_wp2_with fail
  refine RC.out.mono ?_
  rintro e w1 ⟨v0, rfl, hR, hb⟩
  have HR := Lib.hid hR
  have HB := Lib.hid hb
  clear hR hb
  go_wp2
  go_ret2
  exact ⟨_, rfl, HR.out, HB.out⟩
end Go.Proofs.Ytpilppppkjenaaa.S

/- The walk of laws.sorted: a copy, put in order by inserting. -/
import Derived.Test.YtplndfadlconlaaDrawn
namespace Go.Proofs.Ytplndfadlconlaa.S
open Go.RowKit Go.Proofs.YtplndfadlconlaaW.PrintWords Go.Proofs.Ytplndfadlconlaa.Qr
set_option linter.unusedVariables false
set_option linter.unusedSimpArgs false

/-- The number x comes from place k to its place. -/
def shiftTo : Nat → List Int → Int → List Int
  | 0, l, x => l.set 0 x
  | k + 1, l, x => if x < l.getD k 0 then shiftTo k (l.set (k + 1) (l.getD k 0)) x else l.set (k + 1) x
/-- The first m + 1 numbers in order. -/
def sortTo (l : List Int) : Nat → List Int
  | 0 => l
  | m + 1 => shiftTo (m + 1) (sortTo l m) ((sortTo l m).getD (m + 1) 0)
def laws_sorted.f (l : List Int) : Option (List Int) := if l.length ≤ 1000 then some (sortTo l (l.length - 1)) else none
theorem shiftTo_length (k : Nat) : ∀ (l : List Int) (x : Int), (shiftTo k l x).length = l.length := by
  induction k with
  | zero => intro l x; simp [shiftTo]
  | succ k ih => intro l x; simp only [shiftTo]; split <;> simp [ih]
theorem sortTo_length (l : List Int) (m : Nat) : (sortTo l m).length = l.length := by
  induction m with
  | zero => rfl
  | succ m ih => simp only [sortTo]; rw [shiftTo_length, ih]
theorem rd_nat (l : List Int) (k : Nat) : rdOf 0 l (k : Int) = l.getD k 0 := by simp [rdOf]

/-- A cell of a row of the call's own is read, and written. -/
theorem cell_put {W : World} {base n c : Nat} {A : Option Addr} {l : List Int} (h : Kd.R (Kd.int .i64) 3 W base (fun _ => True) (.slice A n c) l) (hn : l.length = n) (k : Nat) (hk : k < n) :
    ∃ g, A = some ⟨g, 0, none⟩ ∧ base ≤ g ∧ W.cell? ⟨g, k, none⟩ = some (.int .i64 (l.getD k 0)) ∧ W.frozen? ⟨g, k, none⟩ = false ∧
      ∀ x, Kd.R (Kd.int .i64) 3 (W.setCell ⟨g, k, none⟩ (.int .i64 x)) base (fun _ => True) (.slice A n c) (l.set k x) := by
  have ho := Kd.own_of_R h
  rw [hn] at ho
  obtain ⟨gg, cc, e, hgg, _⟩ := ho.form (by omega)
  injection e with e1 e2 e3
  subst e1
  obtain ⟨hc0, hf0⟩ := Kd.R_celln 0 h (k : Int) (by omega) (by omega)
  rw [rd_nat, show (k : Int).toNat = k by omega] at hc0
  rw [show (k : Int).toNat = k by omega] at hf0
  refine ⟨gg, rfl, hgg, hc0, hf0, fun x => ?_⟩
  have hp := Kd.R_putn h (k : Int) x
  rw [show (k : Int).toNat = k by omega] at hp
  exact hp

set_option maxHeartbeats 4000000 in
set_option maxRecDepth 100000 in
theorem laws_sorted.calls (A0 : Option Addr) (c0 : Nat) (l0 : List Int) (r : List Int) (w : World) (hr0 : Kd.C (Kd.int .i64) w A0 l0.length l0) (hc0 : l0.length ≤ c0) (h : laws_sorted.f l0 = some r) :
    Calls Try.prog 25 #[.slice A0 l0.length c0] w fun e w' => ∃ v0_ : Value, e = .returned v0_ ∧ Kd.R (Kd.int .i64) 3 w' w.heap.size (fun _ => True) v0_ r ∧ Below w.heap.size w w' := by
  unfold laws_sorted.f at h
  by_cases hl : l0.length ≤ 1000
  case neg => rw [if_neg hl] at h; cases h
  rw [if_pos hl] at h
  obtain rfl := Option.some.inj h
  have HR0 := Lib.hid hr0
  clear h hr0
  go_enter Try.func25, Try.ntmps25
  go_wp2_with (at_builtin; refine Kd.R_append_rows (w0 := w) (Kd.int .i64) w.heap.size rfl _ _ 22 3 (.int .i64 0) 8 rfl (by kernel_rfl) info3 rfl (by decide) (by decide) _ [] l0 _ _ _ (fun _ => True) (fun _ => False) rfl rfl (R_made _ _ _ rfl (Nat.le_refl _)) (Kd.C_alloc HR0.out _) (fun x cs hc => hc) (fun k hk => hk.elim) (fun _ _ => trivial) (below_alloc (Below.refl _ _) _) (by simp) (by simp; omega) (fun v1 w1 hr1 hb1 hg1 _ => ?_); obtain ⟨A1, c1, rfl⟩ := own_slice (Kd.own_of_R hr1); (have HR1 := Lib.hid hr1); (have HB1 := Lib.hid hb1); clear hr1 hb1 hg1)
  have HS1 : Hid (Kd.R (Kd.int .i64) 3 w1 w.heap.size (fun _ => True) (.slice A1 l0.length c1) l0) := Lib.hid (by have := HR1.out; simpa using this)
  clear HR1
  go_loopw [4] (fun i wr => ∃ m : Nat, m ≤ l0.length - 1 ∧ i = .int .i64 ((m : Int) + 1) ∧ Hid (Kd.R (Kd.int .i64) 3 wr w.heap.size (fun _ => True) (.slice A1 l0.length c1) (sortTo l0 m)) ∧ Hid (Below w.heap.size w wr)) (fun i _ => l0.length - (Go.RowKit.intOf i).toNat)
  case atStart => exact ⟨0, Nat.zero_le _, rfl, HS1, HB1⟩
  case round =>
    obtain ⟨m, hm, rfl, HRm, HBm⟩ := hrel
    clear HS1 HB1
    by_cases hlt : m + 1 < l0.length
    · have hml := sortTo_length l0 m
      obtain ⟨g, rfl, hg, hcx, hfx, _⟩ := cell_put HRm.out hml (m + 1) hlt
      obtain ⟨x, hx⟩ : ∃ x, x = (sortTo l0 m).getD (m + 1) 0 := ⟨_, rfl⟩
      rw [← hx] at hcx
      have hT : shiftTo (m + 1) (sortTo l0 m) x = sortTo l0 (m + 1) := by rw [hx]; rfl
      have HT := Lib.hid hT
      have HL := Lib.hid hml
      clear hx hT hml
      have hlt' : (m : Int) + 1 < (l0.length : Int) := by omega
      go_wp2
      obtain ⟨wo, rfl⟩ : ∃ wo : World, wo = wr := ⟨_, rfl⟩
      go_loopw [6] (fun kv wi => ∃ (j : Nat) (cur : List Int), j ≤ m + 1 ∧ kv = .int .i64 j ∧ Hid (cur.length = l0.length) ∧ Hid (shiftTo j cur x = sortTo l0 (m + 1)) ∧ Hid (Kd.R (Kd.int .i64) 3 wi w.heap.size (fun _ => True) (.slice (some ⟨g, 0, none⟩) l0.length c1) cur) ∧ Hid (Below w.heap.size w wi)) (fun kv _ => (Go.RowKit.intOf kv).toNat)
      case atStart => exact ⟨m + 1, sortTo l0 m, Nat.le_refl _, by go_num, HL, HT, HRm, HBm⟩
      case round =>
        obtain ⟨j, cur, hj, rfl, HC, HS, HRc, HBc⟩ := hrel
        clear HRm HBm HT HL
        rcases j with _ | j
        · obtain ⟨g', eg, _, hc0, hf0, hput⟩ := cell_put HRc.out HC.out 0 (by omega)
          obtain rfl : g = g' := by injection eg with eg; injection eg
          have HP := Lib.hid (hput x)
          have HBn := Lib.hid (HBc.out.setCell (p := ⟨g, 0, none⟩) hg (.int .i64 x))
          have hs : cur.set 0 x = sortTo l0 (m + 1) := HS.out
          rw [hs] at HP
          clear hput eg hs HS HRc HBc HC hcx hfx
          go_wp2
          go_roundw
          case rel => exact ⟨m + 1, by omega, by go_num, HP, HBn⟩
          case measure => simp [Go.RowKit.intOf]; omega
        · obtain ⟨g', eg, _, hcj, hfj, _⟩ := cell_put HRc.out HC.out j (by omega)
          obtain rfl : g = g' := by injection eg with eg; injection eg
          obtain ⟨g', eg', _, hc1, hf1, hput⟩ := cell_put HRc.out HC.out (j + 1) (by omega)
          obtain rfl : g = g' := by injection eg' with eg'; injection eg'
          clear eg eg' hcx hfx
          obtain ⟨y, hy⟩ : ∃ y, y = cur.getD j 0 := ⟨_, rfl⟩
          obtain ⟨z, hz⟩ : ∃ z, z = cur.getD (j + 1) 0 := ⟨_, rfl⟩
          rw [← hy] at hcj
          rw [← hz] at hc1
          have hs := HS.out
          simp only [shiftTo] at hs
          rw [← hy] at hs
          clear hz
          by_cases hxy : x < y
          · rw [if_pos hxy] at hs
            have HP := Lib.hid (hput y)
            have HS2 := Lib.hid hs
            have HBn := Lib.hid (HBc.out.setCell (p := ⟨g, j + 1, none⟩) hg (.int .i64 y))
            have HC2 : Hid ((cur.set (j + 1) y).length = l0.length) := Lib.hid (by rw [List.length_set]; exact HC.out)
            clear hput hs HS HRc HBc HC hy
            go_wp2
            go_roundw
            case rel => exact ⟨j, cur.set (j + 1) y, by omega, by go_num, HC2, HS2, HP, HBn⟩
            case measure => simp [Go.RowKit.intOf]
          · rw [if_neg hxy] at hs
            have HP := Lib.hid (hput x)
            rw [hs] at HP
            have HBn := Lib.hid (HBc.out.setCell (p := ⟨g, j + 1, none⟩) hg (.int .i64 x))
            clear hput hs HS HRc HBc HC hy
            go_wp2
            go_roundw
            case rel => exact ⟨m + 1, by omega, by go_num, HP, HBn⟩
            case measure => simp [Go.RowKit.intOf]; omega
    · have hml : m = l0.length - 1 := by omega
      subst hml
      go_wp2
      go_ret
      exact ⟨_, rfl, HRm.out, HBm.out⟩
end Go.Proofs.Ytplndfadlconlaa.S

/- The reference's text with brackets to the left. -/
import Derived.Test.YtmocablibmkebaaParts2
import Derived.Test.YtmocablibmkebaaImpB
namespace Go.Proofs.Ytmocablibmkebaa.S
open Go.RowKit Go.Proofs.Ytmocablibmkebaa.Qs Go.Proofs.YtmocablibmkebaaW.PrintWords Go.Proofs.YtmocablibmkebaaW.PrintMore Go.Proofs.Ytmocablibmkebaa.Qi
set_option linter.unusedVariables false
set_option linter.unusedSimpArgs false

/-- One text put behind another. -/
def js (q : Bool) (x s : ByteArray) : ByteArray := (((⟨#[40]⟩ ++ x) ++ bz q) ++ s) ++ ⟨#[41]⟩
theorem al_pt : ∀ (t : Tm) (q : Bool), al t q = (pt t q).map lf
  | .o, _ => rfl
  | .one _ _, _ => rfl
  | .two p a b, q => by
    unfold al pt
    by_cases e : p = q
    · rw [if_pos e, if_pos e, List.map_append, al_pt a q, al_pt b q]
    · rw [if_neg e, if_neg e]
      rfl
theorem txt_fold (q : Bool) : ∀ (l : List Tm) (x : Tm), txt (l.foldl (Tm.two q) x) = (l.map txt).foldl (js q) (txt x)
  | [], _ => rfl
  | y :: l, x => by
    rw [List.foldl_cons, txt_fold q l, List.map_cons, List.foldl_cons]
    rfl
theorem pt_mem : ∀ (t : Tm) (q : Bool) (x : Tm), Td t → x ∈ pt t q → Td x ∧ x.rooms ≤ t.rooms
  | .o, _, x, _, h => by
    simp only [pt, List.mem_singleton] at h
    subst h
    exact ⟨trivial, Nat.le_refl _⟩
  | .one _ _, _, _, h, _ => h.elim
  | .two p a b, q, x, ht, h => by
    unfold pt at h
    by_cases e : p = q
    · rw [if_pos e] at h
      simp only [Tm.rooms]
      rcases List.mem_append.1 h with h | h
      · have := pt_mem a q x ht.1 h
        exact ⟨this.1, by omega⟩
      · have := pt_mem b q x ht.2 h
        exact ⟨this.1, by omega⟩
    · rw [if_neg e] at h
      simp only [List.mem_singleton] at h
      subst h
      exact ⟨ht, Nat.le_refl _⟩

/-- l11Left's contract at a term. -/
def SpLeftC (t : Tm) : Prop := ∀ (v : Value) (R W : World), Below R.heap.size R W → SpV R t v →
  Calls Try.prog 26 #[.agg #[.int .u8 (enc t).f0, v]] W fun e w' => e = .returned (.string (txt (lf t))) ∧ Below W.heap.size W w'

set_option maxRecDepth 100000 in
set_option maxHeartbeats 4000000 in
theorem spleft_o : SpLeftC .o := by
  rintro v R W _ ⟨A, c, rfl⟩
  show Calls Try.prog 26 #[.agg #[.int .u8 111, .slice A 0 c]] W fun e w' => e = .returned (.string ⟨#[111]⟩) ∧ Below W.heap.size W w'
  go_enter Try.func26, Try.ntmps26
  go_wp2
  go_ret
  exact ⟨rfl, below_alloc (Below.refl _ _) _⟩

theorem cell_new {W w : World} {u : Value} {t : TypeId} (h : Below (W.alloc (Obj.cells #[u] t)).heap.size (W.alloc (Obj.cells #[u] t)) w) : w.cell? ⟨W.heap.size, 0, none⟩ = some u := by
  have h0 : (W.alloc (Obj.cells #[u] t)).cell? ⟨W.heap.size, 0, none⟩ = some u := (blk_cell (new_at W _) 0).trans rfl
  exact (h.cell (World.block_lt_of_cell? _ _ h0)).trans h0
theorem cell_new' {W w : World} {u : Value} {t : TypeId} (h : Below (W.alloc (Obj.cells #[u] t)).drew.heap.size (W.alloc (Obj.cells #[u] t)).drew w) : w.cell? ⟨W.heap.size, 0, none⟩ = some u := by
  have h0 : (W.alloc (Obj.cells #[u] t)).drew.cell? ⟨W.heap.size, 0, none⟩ = some u := (blk_cell (new_at W _) 0).trans rfl
  exact (h.cell (World.block_lt_of_cell? _ _ h0)).trans h0
theorem conv_one (q : Bool) (w : World) (b : Nat) (h : w.cell? ⟨b, 0, none⟩ = some (.int .u8 (bs q))) : (convert 25 9 (.slice (some ⟨b, 0, none⟩) 1 1)).run Try.prog w = .ok (.string (bz q)) w := by
  have e : bz q = strOfNums [bs q] := by cases q <;> rfl
  rw [e]
  refine run_convert_bytes_arg w 25 5 Try.underlying25 Try.underlying5 b 0 1 1 [bs q] rfl (fun i hi => ?_) 9 Try.underlying9
  obtain rfl : i = 0 := by simpa using hi
  exact h

set_option maxRecDepth 100000 in
set_option maxHeartbeats 8000000 in
theorem spleft_two (q : Bool) (a b : Tm) (hp : PartsC (.two q a b) q) (p0 : Tm) (ps : List Tm) (hpt : pt (.two q a b) q = p0 :: ps) (hlen : ps.length ≤ 1000000)
    (ih : ∀ p ∈ p0 :: ps, SpLeftC p) (hsz : ∀ K, K ≤ ps.length → ((((ps.map fun p => txt (lf p)).take K).foldl (js q) (txt (lf p0))).size ≤ 1000000)) (hsz2 : ∀ p ∈ p0 :: ps, (txt (lf p)).size ≤ 1000000)
    (hres : txt (lf (.two q a b)) = (ps.map fun p => txt (lf p)).foldl (js q) (txt (lf p0))) : SpLeftC (.two q a b) := by
  intro v R W hRW hv
  have hv0 := hv
  obtain ⟨ad, c, A1, n1, c1, A2, n2, c2, rfl, _⟩ := hv
  rw [hres]
  show Calls Try.prog 26 #[.agg #[.int .u8 (bs q), .slice (some ad) 2 c]] W fun e w' => e = .returned (.string ((ps.map fun p => txt (lf p)).foldl (js q) (txt (lf p0)))) ∧ Below W.heap.size W w'
  have e111 : (bs q == 111) = false := by cases q <;> rfl
  obtain ⟨W1, hW1⟩ : ∃ W1, W1 = W.alloc (Obj.cells #[.int .u8 (bs q), .slice (some ad) 2 c] 32) := ⟨_, rfl⟩
  have hb01 : Below W.heap.size W W1 := by rw [hW1]; exact below_alloc (Below.refl _ _) _
  have hR1 : Below R.heap.size R W1 := below_step hRW hb01
  have hn : W1.heap[W.heap.size]? = some (Obj.cells #[.int .u8 (bs q), .slice (some ad) 2 c] 32) := by rw [hW1]; exact new_at _ _
  have f0 : W1.cell? ⟨W.heap.size, 0, none⟩ = some (.int .u8 (bs q)) := (blk_cell hn 0).trans rfl
  have f1 : W1.cell? ⟨W.heap.size, 1, none⟩ = some (.slice (some ad) 2 c) := (blk_cell hn 1).trans rfl
  have hP1 := hp _ R W1 hR1 hv0
  have henc : (enc (.two q a b)).f0 = bs q := rfl
  rw [henc, hpt] at hP1
  have P1 := Lib.hid hP1
  have HW1 := Lib.hid hW1
  have HB01 := Lib.hid hb01
  have HR1 := Lib.hid hR1
  have IH := Lib.hid ih
  have HSZ := Lib.hid hsz
  have HSZ2 := Lib.hid hsz2
  clear hv0 hP1 hW1 hb01 hR1 hRW hn hp hpt ih hsz hsz2 hres henc
  simp only [List.length_cons] at P1
  go_enter Try.func26, Try.ntmps26
  go_wp2_with fail
  rw [← HW1.out]
  refine P1.out.mono ?_
  rintro e w2 ⟨g, cap, vs, rfl, ho, he, hb⟩
  have hget : ∀ (i : Nat) (t : Tm), (p0 :: ps)[i]? = some t → ∃ u, w2.cell? ⟨g, 2 * i, none⟩ = some (.int .u8 (enc t).f0) ∧ w2.cell? ⟨g, 2 * i + 1, none⟩ = some u ∧ SpV R t u := fun i t h => by
    obtain ⟨u, h1, h2, h3⟩ := he.get i t h
    have k1 := own32_news ho _ _ h1
    have k2 := own32_news ho _ _ h2
    rw [add_plain] at k1 k2
    exact ⟨u, k1, k2, h3⟩
  obtain ⟨u0, g0, g1, s0⟩ := hget 0 p0 rfl
  obtain ⟨Au, nu, cu, rfl⟩ := s0.slice
  have HG := Lib.hid hget
  have f2 := (hb.cell (World.block_lt_of_cell? W1 _ f0)).trans f0
  have f3 := (hb.cell (World.block_lt_of_cell? W1 _ f1)).trans f1
  have HB2 := Lib.hid (below_step HB01.out hb)
  have HR2 : Hid (Below R.heap.size R w2) := Lib.hid (below_step HR1.out hb)
  have C0 := Lib.hid (IH.out p0 (by simp) _ R w2 HR2.out s0)
  have i1 : (0 : Int) < (ps.length : Int) + 1 := by omega
  rw [show 2 * 0 = 0 from rfl] at g0 g1
  rw [show 0 + 1 = 1 from rfl] at g1
  clear hb ho he hget s0 f0 f1
  go_wp2_with fail
  refine C0.out.mono ?_
  rintro e w3 ⟨rfl, hb3⟩
  have HB3 := Lib.hid hb3
  have f4 := (hb3.cell (World.block_lt_of_cell? w2 _ f2)).trans f2
  clear hb3 g0 g1 f3
  go_wp2_with fail
  go_loopw [4, 5] (fun ov kv wr => ∃ (K : Nat) (wl : World), wl = wr ∧ K ≤ ps.length ∧ kv = .int .i64 ((K : Int) + 1) ∧ ov = .string (((ps.map fun p => txt (lf p)).take K).foldl (js q) (txt (lf p0))) ∧ Below w2.heap.size w2 wl) (fun _ kv _ => ps.length + 2 - (Go.RowKit.intOf kv).toNat)
  case atStart => exact ⟨0, w3, rfl, Nat.zero_le _, by simp, by simp, HB3.out⟩
  case round =>
    obtain ⟨K, wl, rfl, hK, rfl, rfl, hb⟩ := hrel
    have HB := Lib.hid hb
    clear hb
    by_cases hlt : K < ps.length
    · obtain ⟨u, k0, k1, su⟩ := HG.out (K + 1) (ps[K]) (by simp [hlt])
      obtain ⟨Au', nu', cu', rfl⟩ := su.slice
      have l0 := (HB.out.cell (World.block_lt_of_cell? w2 _ k0)).trans k0
      have l1 := (HB.out.cell (World.block_lt_of_cell? w2 _ k1)).trans k1
      have l2 := (HB.out.cell (World.block_lt_of_cell? w2 _ f2)).trans f2
      have C := Lib.hid (fun (W' : World) (h : Below wl.heap.size wl W') => IH.out (ps[K]) (by simp) _ R W' (below_step (below_step HR2.out HB.out) h) su)
      have hs1 := HSZ.out K hK
      have hs2 := HSZ2.out (ps[K]) (by simp)
      have q1 : ((K : Int) + 1 < (ps.length : Int) + 1) = True := eq_true (by omega)
      rw [Nat.mul_comm] at l0 l1
      have hE : ((ps.map fun p => txt (lf p)).take (K + 1)).foldl (js q) (txt (lf p0)) = js q (((ps.map fun p => txt (lf p)).take K).foldl (js q) (txt (lf p0))) (txt (lf (ps[K]))) := by
        rw [List.take_succ_eq_append_getElem (by simpa using hlt), List.foldl_append]
        simp
      have HE := Lib.hid hE
      clear hE
      generalize ((ps.map fun p => txt (lf p)).take K).foldl (js q) (txt (lf p0)) = X at *
      generalize (enc (ps[K])).f0 = ee at *
      generalize txt (lf (ps[K])) = Y at *
      have i2 : (0 : Int) ≤ (K : Int) + 1 := by omega
      have i3 : ((K : Int) + 1).toNat = K + 1 := by omega
      have i4 : (K : Int) + 1 < (ps.length : Int) + 1 := by omega
      have z1 : (9223372036854775807 < 1 + X.size) = False := eq_false (by omega)
      have zq : (bz q).size = 1 := by cases q <;> rfl
      have z2 : (9223372036854775807 < 1 + X.size + (bz q).size) = False := eq_false (by omega)
      have z3 : (9223372036854775807 < 1 + X.size + (bz q).size + Y.size) = False := eq_false (by omega)
      have z4 : (9223372036854775807 < 1 + X.size + (bz q).size + Y.size + 1) = False := eq_false (by omega)
      clear zq
      have hcv := conv_one q
      go_wp2_with fail
      have a0 := ((below_alloc (Below.refl wl.heap.size wl) (Obj.cells #[.int .u8 (bs q)] 5)).cell (World.block_lt_of_cell? wl _ l0)).trans l0
      have a1 := ((below_alloc (Below.refl wl.heap.size wl) (Obj.cells #[.int .u8 (bs q)] 5)).cell (World.block_lt_of_cell? wl _ l1)).trans l1
      go_region_with
        (go_at_call 26; with_reducible refine (C.out _ ?hb).mono ?_; (case hb => first | exact below_drew1 (Below.refl _ _) | exact below_drew1 (below_alloc (Below.refl _ _) _)); rintro e w1 ⟨rfl, hb1⟩; have hbw : Below wl.heap.size wl w1 := below_step (by first | exact below_drew1 (Below.refl _ _) | exact below_drew1 (below_alloc (Below.refl _ _) _)) hb1; have m0 := (hbw.cell (World.block_lt_of_cell? wl _ l0)).trans l0; have m1 := (hbw.cell (World.block_lt_of_cell? wl _ l1)).trans l1; have m2 := (hbw.cell (World.block_lt_of_cell? wl _ l2)).trans l2; (try have hcn := cell_new' hb1))
      all_goals
        have HBW := Lib.hid (below_step HB.out hbw)
        go_wp2_with fail
        go_roundw
        case rel =>
          refine ⟨K + 1, _, rfl, hlt, by push_cast; rfl, by rw [HE.out]; rfl, ?_⟩
          first
            | exact HBW.out
            | exact below_alloc HBW.out _
        case measure => simp [intOf]; omega
    · obtain rfl : K = ps.length := by omega
      have q1 : ((ps.length : Int) + 1 < (ps.length : Int) + 1) = False := eq_false (by omega)
      have et : (ps.map fun p => txt (lf p)).take ps.length = ps.map fun p => txt (lf p) := List.take_of_length_le (by simp)
      rw [et]
      go_wp2
      go_ret
      exact ⟨rfl, below_step HB2.out HB.out⟩

theorem sumR_take : ∀ (l : List Tm) (K : Nat), sumR (l.take K) ≤ sumR l
  | [], K => by simp
  | x :: l, 0 => by simp [sumR]
  | x :: l, K + 1 => by
    have := sumR_take l K
    simp only [List.take_succ_cons, sumR]
    omega

theorem spleft_all : ∀ (n : Nat) (t : Tm), Td t → t.rooms ≤ n → n ≤ 1000 → SpLeftC t := by
  intro n
  induction n with
  | zero =>
    intro t _ h
    have := rooms_pos t
    omega
  | succ n ih =>
    intro t ht hr hn
    cases t with
    | o => exact spleft_o
    | one f a => exact ht.elim
    | two q a b =>
      have hP := parts_calls (.two q a b) ht (by omega) q
      have hpt : pt (.two q a b) q = pt a q ++ pt b q := if_pos rfl
      have hal : al (.two q a b) q = al a q ++ al b q := if_pos rfl
      have hmem : ∀ p ∈ pt (.two q a b) q, Td p ∧ p.rooms ≤ n := by
        intro p hp
        rw [hpt] at hp
        simp only [Tm.rooms] at hr
        have ra := rooms_pos a
        have rb := rooms_pos b
        rcases List.mem_append.1 hp with hp | hp
        · have := pt_mem a q p ht.1 hp
          exact ⟨this.1, by omega⟩
        · have := pt_mem b q p ht.2 hp
          exact ⟨this.1, by omega⟩
      have hle := pt_le (.two q a b) q
      have hlf : lf (.two q a b) = joinT q ((pt (.two q a b) q).map lf) := by
        rw [← al_pt, hal]
        rfl
      have hsum := (al_both (.two q a b) q ht).1
      have htd := (al_both (.two q a b) q ht).2
      rw [al_pt] at hsum htd
      obtain ⟨p0, ps, hl⟩ := List.exists_cons_of_length_pos (pt_pos (.two q a b) q)
      rw [hl] at hmem hle hlf hsum htd
      simp only [List.map_cons, List.length_cons, sumR] at hle hlf hsum htd
      have key : ∀ K, K ≤ ps.length → ((ps.map fun p => txt (lf p)).take K).foldl (js q) (txt (lf p0)) = txt (((ps.map lf).take K).foldl (Tm.two q) (lf p0)) := by
        intro K _
        rw [txt_fold, List.map_take, List.map_map]
        rfl
      refine spleft_two q a b hP p0 ps hl (by omega) (fun p hp => ih p (hmem p hp).1 (hmem p hp).2 (by omega)) ?_ ?_ ?_
      · intro K hK
        rw [key K hK]
        have h1 := txt_size (((ps.map lf).take K).foldl (Tm.two q) (lf p0)) (foldl_td q _ _ (htd _ (by simp)) (fun t h => htd t (List.mem_cons_of_mem _ (List.mem_of_mem_take h))))
        have h2 := foldl_rooms q ((ps.map lf).take K) (lf p0)
        have h3 := sumR_take (ps.map lf) K
        omega
      · intro p hp
        have h1 := txt_size (lf p) (lf_td p (hmem p hp).1)
        have h2 := lf_rooms p (hmem p hp).1
        have h3 := (hmem p hp).2
        omega
      · have h := key ps.length (Nat.le_refl _)
        rw [List.take_of_length_le (by simp), List.take_of_length_le (by simp)] at h
        rw [hlf, h]
        rfl

end Go.Proofs.Ytmocablibmkebaa.S

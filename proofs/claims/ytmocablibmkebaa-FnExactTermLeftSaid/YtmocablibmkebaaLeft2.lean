/- Brackets to the left, second part. -/
import Derived.Test.YtmocablibmkebaaLeft
namespace Go.Proofs.Ytmocablibmkebaa.S
open Go.RowKit Go.Proofs.YtmocablibmkebaaW.PrintWords Go.Proofs.YtmocablibmkebaaW.PrintMore Go.Proofs.Ytmocablibmkebaa.Qi
set_option linter.unusedVariables false
set_option linter.unusedSimpArgs false

theorem info35 : (Try.prog.info? 35).map (fun i => (i.zero, i.size, i.bytes)) = some (some (.pointer none), 1, 8) := by kernel_rfl

/-- The rest of the keep at along's region. -/
theorem al_app {P : Nat → Prop} {W w1 w2 w3 : World} {g1 g2 g : Nat} {vs us : List Value} {ts rs : List Tm} (hP : ∀ b, P b → b < W.heap.size)
    (hg1 : W.heap.size ≤ g1 ∧ g1 < w1.heap.size) (e1 : Each (TmIn (fun b => P b ∨ (W.heap.size ≤ b ∧ b ≠ g1)) w1) vs ts) (e2 : Each (TmIn (fun b => P b ∨ (w1.heap.size ≤ b ∧ b ≠ g2)) w2) us rs)
    (h1 : Below W.heap.size W w1) (h2 : Below w1.heap.size w1 w2) (hg : w2.grownBy w3 (some g1)) (hat : some g1 = some g ∨ g = w2.heap.size) :
    Each (TmIn (fun b => P b ∨ (W.heap.size ≤ b ∧ b ≠ g)) w3) (vs ++ us) (ts ++ rs) := by
  have k1 : ∀ b, P b → b ≠ g1 := fun b p e => by have := hP b p; omega
  have k2 : ∀ b, b < w2.heap.size → b ≠ g1 → b ≠ g := fun b hl hb e => by
    rcases hat with h | h
    · exact hb (by injection h with h; omega)
    · omega
  refine Each.append (e1.imp fun v t h => h.go fun b p hl => ?_) (e2.imp fun v t h => h.go fun b p hl => ?_)
  · have hne : b ≠ g1 := p.elim (k1 b) (fun x => x.2)
    have hl2 : b < w2.heap.size := Nat.lt_of_lt_of_le hl h2.size
    exact ⟨p.elim .inl (fun x => .inr ⟨x.1, k2 b hl2 hne⟩), (hg.block b hl2 (fun e => hne (by injection e))).trans (h2.block b hl)⟩
  · have hne : b ≠ g1 := p.elim (k1 b) (fun x => by omega)
    exact ⟨p.elim .inl (fun x => .inr ⟨Nat.le_trans h1.size x.1, k2 b hl hne⟩), hg.block b hl (fun e => hne (by injection e))⟩

theorem own_in {w : World} {base g n cap : Nat} {xs : List Value} (h : w.ownsRow base 35 1 (.slice (some ⟨g, 0, none⟩) n cap) n xs) : base ≤ g ∧ g < w.heap.size := h.lt g rfl

theorem own_news {w : World} {base g n cap : Nat} {xs : List Value} (h : w.ownsRow base 35 1 (.slice (some ⟨g, 0, none⟩) n cap) n xs) : ∀ j u, xs[j]? = some u → w.cell? ((⟨g, 0, none⟩ : Addr).add j) = some u := h.cells rfl

theorem own_kept {w w' : World} {base g n cap : Nat} {xs : List Value} (h : w.ownsRow base 35 1 (.slice (some ⟨g, 0, none⟩) n cap) n xs) (hb : Below w.heap.size w w') : w'.ownsRow base 35 1 (.slice (some ⟨g, 0, none⟩) n cap) n xs :=
  h.kept (grown_of_below hb none) (.inr (by simp [Value.ownBlock]))
theorem own_len {w : World} {base g n cap : Nat} {xs : List Value} (h : w.ownsRow base 35 1 (.slice (some ⟨g, 0, none⟩) n cap) n xs) : xs.length = n * 1 := h.1

set_option maxRecDepth 100000 in
set_option maxHeartbeats 8000000 in
theorem along_two (q : Bool) (a b : Tm) (ha : AlongC a q) (hb : AlongC b q) (na : (al a q).length ≤ 1000000) (nb : (al b q).length ≤ 1000000) (nb0 : 0 < (al b q).length) : AlongC (.two q a b) q := by
  rintro P v W hP ⟨l, k, u, x, rfl, pl, pk, hl, hk, ta, tb⟩
  have hc0 : W.cell? ⟨l, 0, none⟩ = some (.int .u8 (bs q)) := (blk_cell hl 0).trans rfl
  have hc1 : W.cell? ⟨l, 1, none⟩ = some (.slice (some ⟨k, 0, none⟩) 2 2) := (blk_cell hl 1).trans rfl
  have hc2 : W.cell? ⟨k, 0, none⟩ = some u := (blk_cell hk 0).trans rfl
  have hc3 : W.cell? ⟨k, 1, none⟩ = some x := (blk_cell hk 1).trans rfl
  obtain ⟨i0, hi0, hz0, hz1, hz2⟩ := info_parts info35
  have hal : al (.two q a b) q = al a q ++ al b q := if_pos rfl
  have hPl : ∀ W', Below W.heap.size W W' → ∀ b, P b → b < W'.heap.size := fun W' h b p => Nat.lt_of_lt_of_le (hP b p) h.size
  have A : Hid (∀ W', Below W.heap.size W W' → Calls Try.prog 35 #[u, .int .u8 (bs q)] W' fun e w' => ∃ g cap vs, e = .returned (.slice (some ⟨g, 0, none⟩) (al a q).length cap) ∧
    w'.ownsRow W'.heap.size 35 1 (.slice (some ⟨g, 0, none⟩) (al a q).length cap) (al a q).length vs ∧ Each (TmIn (fun b => P b ∨ (W'.heap.size ≤ b ∧ b ≠ g)) w') vs (al a q) ∧ Below W'.heap.size W' w') := Lib.hid (fun W' h => ha P u W' (hPl W' h) (ta.below h))
  have B : Hid (∀ W', Below W.heap.size W W' → Calls Try.prog 35 #[x, .int .u8 (bs q)] W' fun e w' => ∃ g cap vs, e = .returned (.slice (some ⟨g, 0, none⟩) (al b q).length cap) ∧
    w'.ownsRow W'.heap.size 35 1 (.slice (some ⟨g, 0, none⟩) (al b q).length cap) (al b q).length vs ∧ Each (TmIn (fun b => P b ∨ (W'.heap.size ≤ b ∧ b ≠ g)) w') vs (al b q) ∧ Below W'.heap.size W' w') := Lib.hid (fun W' h => hb P x W' (hPl W' h) (tb.below h))
  rw [hal, List.length_append]
  generalize al a q = ts at *
  generalize al b q = rs at *
  have hnm : ts.length + rs.length ≤ maxLen := Nat.le_trans (Nat.add_le_add na nb) (by decide)
  have hby : (ts.length + rs.length) * 8 ≤ 140737488355328 := by omega
  have HPH := Lib.hid hP
  clear hl hk ta tb pl pk ha hb hPl hal hP
  cases q <;> simp only [bs, if_true, if_false, Bool.false_eq_true, reduceIte] at hc0 A B ⊢
  all_goals
    go_enter Try.func35, Try.ntmps35
    go_wp2_with fail
    go_region_held3 (fun w' => Below W.heap.size W w' ∧ w'.cell? ⟨l, 1, none⟩ = some (.slice (some ⟨k, 0, none⟩) 2 2) ∧ w'.cell? ⟨k, 0, none⟩ = some u ∧ w'.cell? ⟨k, 1, none⟩ = some x)
      (first
        | exact ⟨below_drew1 (Below.refl _ _), hc1, hc2, hc3⟩
        | (go_split_ands; exact hold3 (below_step (by assumption) hb1) hc1 hc2 hc3)
        | (go_split_ands; exact hold3 (below_step (by assumption) hb2) hc1 hc2 hc3)
        | (go_split_ands; exact hold3 (Below.grown (by assumption) hgrow (Below.size (B := W.heap.size) (w := W) (by assumption)) (fun i hi => by injection hi with hi; subst hi; exact (own_in ho1).1)) hc1 hc2 hc3))
      (first
        | (go_at_call 35; with_reducible refine (A.out _ ?hb).mono ?_; (case hb => first | assumption | (go_split_ands; assumption)); rintro e w1 ⟨g1, cap1, vs1, rfl, ho1, ht1, hb1⟩)
        | (go_at_call 35; with_reducible refine (B.out _ ?hb).mono ?_; (case hb => first | assumption | (go_split_ands; assumption)); rintro e w2 ⟨g2, cap2, vs2, rfl, ho2, ht2, hb2⟩)
        | (have hown1 := own_kept ho1 hb2
           have hone := ht2.one (fun v t h => by obtain ⟨m, rfl⟩ := h.ptr; rfl)
           refine step_append_lies _ (by rfl) _ _ _ (by rfl) W.heap.size 35 i0 _ 1 8 Try.underlying49 hi0 hz0 hz1 hz2 rfl (by omega) (.slice (some ⟨g1, 0, none⟩) ts.length cap1) ts.length vs1 (by rfl) hown1 ⟨g2, 0, none⟩ rs.length cap2 vs2 (by rfl)
             (own_len ho2) (own_news ho2) hone nb0 hnm hby (Below.size (B := W.heap.size) (w := W) (by first | assumption | (go_split_ands; assumption))) w2.heap.size rfl ?_
           intro g cap w3 hown hgrow hat hlt))
    have HB3 : Hid (Below W.heap.size W w3) := Lib.hid (by first | assumption | (go_split_ands; assumption))
    have HE := Lib.hid (al_app HPH.out (own_in ho1) ht1 ht2 (below_step (below_drew1 (Below.refl _ _)) hb1) hb2 hgrow hat)
    have HO := Lib.hid hown
    clear ho1 ho2 ht1 ht2 hb1 hb2 hgrow hat hlt hown
    go_wp2
    go_ret
    exact ⟨g, cap, _, rfl, HO.out, HE.out, HB3.out⟩

theorem TmIn.new_two {P : Nat → Prop} {W : World} {u x : Value} {a b : Tm} {s : Bool} (h : TmIn P W u a) (h2 : TmIn P W x b) (p1 : P W.heap.size) (p2 : P (W.heap.size + 1)) :
    TmIn P ((W.alloc (Obj.cells #[u, x] 35)).alloc (Obj.cells #[.int .u8 (bs s), .slice (some ⟨W.heap.size, 0, none⟩) 2 2] 51)) (.pointer (some ⟨W.heap.size + 1, 0, none⟩)) (.two s a b) := by
  have hb : Below W.heap.size W ((W.alloc (Obj.cells #[u, x] 35)).alloc (Obj.cells #[.int .u8 (bs s), .slice (some ⟨W.heap.size, 0, none⟩) 2 2] 51)) := below_alloc (below_alloc (Below.refl _ _) _) _
  refine ⟨W.heap.size + 1, W.heap.size, u, x, rfl, p2, p1, ?_, ?_, h.below hb, h2.below hb⟩
  · rw [show W.heap.size + 1 = (W.alloc (Obj.cells #[u, x] 35)).heap.size by simp]
    exact new_at _ _
  · exact ((below_alloc (Below.refl _ (W.alloc (Obj.cells #[u, x] 35))) _).block _ (by simp)).trans (new_at W _)

theorem own_cap {w : World} {base g n cap : Nat} {xs : List Value} (h : w.ownsRow base 35 1 (.slice (some ⟨g, 0, none⟩) n cap) n xs) : n ≤ cap := by
  obtain ⟨_, ⟨h, _⟩ | ⟨g', cap', cur, h, _, _, h2, _⟩⟩ := h
  · cases h
  · injection h with _ _ h
    omega

set_option maxRecDepth 100000 in
set_option maxHeartbeats 8000000 in
theorem left_two (q : Bool) (a b : Tm) (h : AlongC (.two q a b) q) (n0 : 0 < (al (.two q a b) q).length) (nm : (al (.two q a b) q).length ≤ 1000000) : LeftC (.two q a b) := by
  intro P v W hP ht
  have C := Lib.hid (h P v W hP ht)
  obtain ⟨l, k, u, x, rfl, pl, pk, hl, hk, ta, tb⟩ := ht
  have hc0 : W.cell? ⟨l, 0, none⟩ = some (.int .u8 (bs q)) := (blk_cell hl 0).trans rfl
  have hc1 : W.cell? ⟨l, 1, none⟩ = some (.slice (some ⟨k, 0, none⟩) 2 2) := (blk_cell hl 1).trans rfl
  have hlf : lf (.two q a b) = joinT q (al (.two q a b) q) := by
    show joinT q (al a q ++ al b q) = _
    rw [show al (.two q a b) q = al a q ++ al b q from if_pos rfl]
  rw [hlf]
  generalize al (.two q a b) q = ts at *
  obtain ⟨x0, xs, rfl⟩ := List.exists_cons_of_length_pos n0
  show Calls _ _ _ _ fun e w' => ∃ v', e = .returned v' ∧ TmIn (fun b => P b ∨ W.heap.size ≤ b) w' v' (xs.foldl (Tm.two q) x0) ∧ Below W.heap.size W w'
  simp only [List.length_cons] at nm C
  clear hl hk ta tb pl pk h hlf hP n0
  go_enter Try.func27, Try.ntmps27
  go_wp2_with fail
  refine C.out.mono ?_
  rintro e w1 ⟨g, cap, vs, rfl, ho, he, hb⟩
  have HW := Lib.hid hb
  have hget : ∀ (j : Nat) (t : Tm), (x0 :: xs)[j]? = some t → ∃ u, w1.cell? ⟨g, j, none⟩ = some u ∧ TmIn (fun b => P b ∨ (W.heap.size ≤ b ∧ b ≠ g)) w1 u t := fun j t h => by
    obtain ⟨u, hu, hr⟩ := he.get j t h
    exact ⟨u, by have := own_news ho j u hu; rwa [add_plain] at this, hr⟩
  obtain ⟨v0, hg0, h0⟩ := hget 0 x0 rfl
  have HG := Lib.hid hget
  have H0 := Lib.hid h0
  have hd0 := (hb.cell (World.block_lt_of_cell? W _ hc0)).trans hc0
  have i1 : (0 : Int) < (xs.length : Int) + 1 := by omega
  have i2 : (1 : Int) ≤ (xs.length : Int) + 1 := by omega
  have hcap := own_cap ho
  have hgl := own_in ho
  have j1 : (cap = 1) = decide (cap = 1) := by simp
  clear hb ho he C hget h0 hc0 hc1 j1
  by_cases hk1 : cap = 1
  · obtain rfl : xs = [] := List.eq_nil_of_length_eq_zero (by omega)
    subst hk1
    clear hcap hgl
    go_wp2_with fail
    go_loopw [4, 26] (fun ov kv wr => ov = v0 ∧ kv = .int .i64 0 ∧ w1 = wr) (fun _ _ _ => 0)
    case atStart => exact ⟨rfl, rfl, rfl⟩
    case round =>
      obtain ⟨rfl, rfl, rfl⟩ := hrel
      go_wp2
      go_ret
      exact ⟨_, rfl, H0.out.go (fun b p hl => ⟨p.elim .inl (fun p => .inr p.1), rfl⟩), HW.out⟩
  · have HGL := Lib.hid hgl
    clear hcap hgl
    go_wp2_with fail
    go_loopw [4, 26] (fun ov kv wr => ∃ (K : Nat) (wl : World), wl = wr ∧ K ≤ xs.length ∧ kv = .int .i64 K ∧ Below w1.heap.size w1 wl ∧ TmIn (fun b => P b ∨ W.heap.size ≤ b) wl ov ((xs.take K).foldl (Tm.two q) x0)) (fun _ kv _ => xs.length + 1 - (Go.RowKit.intOf kv).toNat)
    case atStart => exact ⟨0, w1, rfl, Nat.zero_le _, rfl, Below.refl _ _, H0.out.go (fun b p hl => ⟨p.elim .inl (fun p => .inr p.1), rfl⟩)⟩
    case round =>
      obtain ⟨K, wl, rfl, hK, rfl, hb, ht⟩ := hrel
      obtain ⟨m1, rfl⟩ := ht.ptr
      have HB := Lib.hid hb
      have HT := Lib.hid ht
      clear hb ht
      by_cases hlt : K < xs.length
      · obtain ⟨u, hu, hru⟩ := HG.out (K + 1) (xs[K]) (by simp [hlt])
        obtain ⟨m2, rfl⟩ := hru.ptr
        have hu2 : wl.cell? ⟨g, 1 + K, none⟩ = some (.pointer (some ⟨m2, 0, none⟩)) := by rw [Nat.add_comm]; exact (HB.out.cell (World.block_lt_of_cell? w1 _ hu)).trans hu
        have hu3 : wl.cell? ⟨g, K + 1, none⟩ = some (.pointer (some ⟨m2, 0, none⟩)) := (HB.out.cell (World.block_lt_of_cell? w1 _ hu)).trans hu
        have hd1 := (HB.out.cell (World.block_lt_of_cell? w1 _ hd0)).trans hd0
        have HU := Lib.hid (hru.below HB.out)
        have q1 : (K : Int) < (xs.length : Int) := by omega
        have q2 : (0 : Int) ≤ (K : Int) := by omega
        clear hu hru
        go_wp2_with fail
        go_roundw
        case rel =>
          refine ⟨K + 1, _, rfl, hlt, by push_cast; rfl, below_alloc (below_alloc HB.out _) _, ?_⟩
          rw [List.take_succ_eq_append_getElem hlt, List.foldl_append]
          have hz : W.heap.size ≤ wl.heap.size := Nat.le_trans HW.out.size HB.out.size
          exact TmIn.new_two HT.out (HU.out.go (fun b p hl => ⟨p.elim .inl (fun p => .inr p.1), rfl⟩)) (.inr hz) (.inr (by omega))
        case measure => simp [intOf]; omega
      · obtain rfl : K = xs.length := by omega
        go_wp2
        go_ret
        have ht := HT.out
        rw [List.take_length] at ht
        exact ⟨_, rfl, ht, below_step HW.out HB.out⟩

theorem al_pos : ∀ (t : Tm) (q : Bool), 0 < (al t q).length
  | .o, _ => Nat.one_pos
  | .one _ _, _ => Nat.one_pos
  | .two p a b, q => by
    unfold al
    split
    · rw [List.length_append]
      have := al_pos a q
      omega
    · exact Nat.one_pos
theorem rooms_pos : ∀ (t : Tm), 0 < t.rooms
  | .o => Nat.one_pos
  | .one _ a => rooms_pos a
  | .two _ a b => by have := rooms_pos a; simp only [Tm.rooms]; omega
theorem al_le : ∀ (t : Tm) (q : Bool), (al t q).length ≤ t.rooms
  | .o, _ => Nat.le_refl _
  | .one _ a, _ => rooms_pos a
  | .two p a b, q => by
    have h1 := al_le a q
    have h2 := al_le b q
    have h3 := rooms_pos a
    unfold al
    simp only [Tm.rooms]
    split
    · rw [List.length_append]; omega
    · simp only [List.length_cons, List.length_nil]; omega
theorem lf_al : ∀ (t : Tm) (q : Bool), (∀ a b, t ≠ .two q a b) → al t q = [lf t]
  | .o, _, _ => rfl
  | .one _ _, _, _ => rfl
  | .two p a b, q, h => by
    have : p ≠ q := fun e => by subst e; exact h a b rfl
    unfold al lf
    rw [if_neg this]

theorem left_both : ∀ (t : Tm), Td t → t.rooms ≤ 1000 → LeftC t ∧ ∀ q, AlongC t q
  | .o, _, _ => ⟨left_o, fun q => along_one .o q 111 rfl left_o (.inl rfl) (fun P W v ⟨l, h, _, hl⟩ => ⟨l, h, (blk_cell hl 0).trans rfl⟩)⟩
  | .one _ _, h, _ => h.elim
  | .two p a b, h, hr => by
    simp only [Tm.rooms] at hr
    have ha := left_both a h.1 (by omega)
    have hb := left_both b h.2 (by omega)
    have la := al_le a p
    have lb := al_le b p
    have h2 : AlongC (.two p a b) p := along_two p a b (ha.2 p) (hb.2 p) (by omega) (by omega) (al_pos b p)
    have l2 := al_le (.two p a b) p
    simp only [Tm.rooms] at l2
    have hL : LeftC (.two p a b) := left_two p a b h2 (al_pos _ p) (by omega)
    refine ⟨hL, fun q => ?_⟩
    by_cases e : p = q
    · subst e; exact h2
    · refine along_one _ q (bs p) (lf_al _ q (fun a' b' h' => by injection h' with h' _ _; exact e h')) hL (.inr ?_) (fun P W v ⟨l, k, u, x, h, _, _, hl, _⟩ => ⟨l, h, (blk_cell hl 0).trans rfl⟩)
      cases p <;> cases q <;> simp_all

theorem left_calls (t : Tm) (ht : Td t) (hr : t.rooms ≤ 1000) (v : Value) (W : World) (h : TmAt W v t) : Gives 27 #[v] W (lf t) :=
  ((left_both t ht hr).1 _ v W (fun _ p => p) (TmAt.in_ h)).mono fun _ _ ⟨v', h1, h2, h3⟩ => ⟨v', h1, h2.at_, h3⟩
end Go.Proofs.Ytmocablibmkebaa.S

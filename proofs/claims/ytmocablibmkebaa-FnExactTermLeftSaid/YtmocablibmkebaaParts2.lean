/- The reference's parts, second part. -/
import Derived.Test.YtmocablibmkebaaParts
namespace Go.Proofs.Ytmocablibmkebaa.S
open Go.RowKit Go.Proofs.Ytmocablibmkebaa.Qs Go.Proofs.YtmocablibmkebaaW.PrintWords Go.Proofs.YtmocablibmkebaaW.PrintMore Go.Proofs.Ytmocablibmkebaa.Qi
set_option linter.unusedVariables false
set_option linter.unusedSimpArgs false

theorem info32 : (Try.prog.info? 32).map (fun i => (i.zero, i.size, i.bytes)) = some (some (.agg #[(.int .u8 0), (.slice none 0 0)]), 2, 32) := by kernel_rfl

theorem pt_pos : ∀ (t : Tm) (q : Bool), 0 < (pt t q).length
  | .o, _ => Nat.one_pos
  | .one _ _, _ => Nat.one_pos
  | .two p a b, q => by
    unfold pt
    split
    · rw [List.length_append]
      have := pt_pos a q
      omega
    · exact Nat.one_pos

theorem pt_le : ∀ (t : Tm) (q : Bool), (pt t q).length ≤ t.rooms
  | .o, _ => Nat.le_refl _
  | .one _ a, _ => rooms_pos a
  | .two p a b, q => by
    have h1 := pt_le a q
    have h2 := pt_le b q
    have h3 := rooms_pos a
    unfold pt
    simp only [Tm.rooms]
    split
    · rw [List.length_append]; omega
    · simp only [List.length_cons, List.length_nil]; omega

theorem hold6 {W w2 : World} {a0 a1 a2 a3 a4 a5 : Addr} {v0 v1 v2 v3 v4 v5 : Value} (hq : Below W.heap.size W w2) (h0 : W.cell? a0 = some v0) (h1 : W.cell? a1 = some v1) (h2 : W.cell? a2 = some v2) (h3 : W.cell? a3 = some v3) (h4 : W.cell? a4 = some v4) (h5 : W.cell? a5 = some v5) :
    Below W.heap.size W w2 ∧ w2.cell? a0 = some v0 ∧ w2.cell? a1 = some v1 ∧ w2.cell? a2 = some v2 ∧ w2.cell? a3 = some v3 ∧ w2.cell? a4 = some v4 ∧ w2.cell? a5 = some v5 :=
  ⟨hq, (hq.cell (World.block_lt_of_cell? W _ h0)).trans h0, (hq.cell (World.block_lt_of_cell? W _ h1)).trans h1, (hq.cell (World.block_lt_of_cell? W _ h2)).trans h2, (hq.cell (World.block_lt_of_cell? W _ h3)).trans h3, (hq.cell (World.block_lt_of_cell? W _ h4)).trans h4, (hq.cell (World.block_lt_of_cell? W _ h5)).trans h5⟩

theorem own32_in {w : World} {base g n cap : Nat} {xs : List Value} (h : w.ownsRow base 32 2 (.slice (some ⟨g, 0, none⟩) n cap) n xs) : base ≤ g ∧ g < w.heap.size := h.lt g rfl
theorem own32_news {w : World} {base g n cap : Nat} {xs : List Value} (h : w.ownsRow base 32 2 (.slice (some ⟨g, 0, none⟩) n cap) n xs) : ∀ j u, xs[j]? = some u → w.cell? ((⟨g, 0, none⟩ : Addr).add j) = some u := h.cells rfl
theorem own32_kept {w w' : World} {base base' g n cap : Nat} {xs : List Value} (h : w.ownsRow base 32 2 (.slice (some ⟨g, 0, none⟩) n cap) n xs) (hb : Below w.heap.size w w') (hle : base' ≤ base) : w'.ownsRow base' 32 2 (.slice (some ⟨g, 0, none⟩) n cap) n xs :=
  own_less (h.kept (grown_of_below hb none) (.inr (by simp [Value.ownBlock]))) hle
theorem own32_cap {w : World} {base g n cap : Nat} {xs : List Value} (h : w.ownsRow base 32 2 (.slice (some ⟨g, 0, none⟩) n cap) n xs) : n ≤ cap := by
  obtain ⟨_, ⟨h, _⟩ | ⟨g', cap', cur, h, _, _, h2, _⟩⟩ := h
  · cases h
  · injection h with _ _ h
    omega

set_option maxRecDepth 100000 in
set_option maxHeartbeats 8000000 in
theorem parts_two (q : Bool) (a b : Tm) (ha : PartsC a q) (hb : PartsC b q) (na : (pt a q).length ≤ 1000000) (nb : (pt b q).length ≤ 1000000) : PartsC (.two q a b) q := by
  rintro v R W hRW ⟨ad, c, A1, n1, c1, A2, n2, c2, rfl, x0, x1, x2, x3, sa, sb⟩
  obtain ⟨i0, hi0, hz0, hz1, hz2⟩ := info_parts info32
  have hpt : pt (.two q a b) q = pt a q ++ pt b q := if_pos rfl
  have nb0 := pt_pos b q
  obtain ⟨W1, hW1⟩ : ∃ W1, W1 = W.alloc (Obj.cells #[.int .u8 (bs q), .slice (some ad) 2 c] 32) := ⟨_, rfl⟩
  have hb01 : Below W.heap.size W W1 := by rw [hW1]; exact below_alloc (Below.refl _ _) _
  have hn : W1.heap[W.heap.size]? = some (Obj.cells #[.int .u8 (bs q), .slice (some ad) 2 c] 32) := by rw [hW1]; exact new_at _ _
  have hR1 : Below R.heap.size R W1 := below_step hRW hb01
  have f0 : W1.cell? ⟨W.heap.size, 0, none⟩ = some (.int .u8 (bs q)) := (blk_cell hn 0).trans rfl
  have f1 : W1.cell? ⟨W.heap.size, 1, none⟩ = some (.slice (some ad) 2 c) := (blk_cell hn 1).trans rfl
  have y0 := (hR1.cell (World.block_lt_of_cell? R _ x0)).trans x0
  have y1 := (hR1.cell (World.block_lt_of_cell? R _ x1)).trans x1
  have y2 := (hR1.cell (World.block_lt_of_cell? R _ x2)).trans x2
  have y3 := (hR1.cell (World.block_lt_of_cell? R _ x3)).trans x3
  have A : Hid (∀ W', Below W1.heap.size W1 W' → Calls Try.prog 34 #[.agg #[.int .u8 (enc a).f0, .slice A1 n1 c1], .int .u8 (bs q)] W' fun e w' => ∃ g cap vs, e = .returned (.slice (some ⟨g, 0, none⟩) (pt a q).length cap) ∧
    w'.ownsRow W'.heap.size 32 2 (.slice (some ⟨g, 0, none⟩) (pt a q).length cap) (pt a q).length vs ∧ EachP R vs (pt a q) ∧ Below W'.heap.size W' w') := Lib.hid (fun W' h => ha _ R W' (below_step hR1 h) sa)
  have B : Hid (∀ W', Below W1.heap.size W1 W' → Calls Try.prog 34 #[.agg #[.int .u8 (enc b).f0, .slice A2 n2 c2], .int .u8 (bs q)] W' fun e w' => ∃ g cap vs, e = .returned (.slice (some ⟨g, 0, none⟩) (pt b q).length cap) ∧
    w'.ownsRow W'.heap.size 32 2 (.slice (some ⟨g, 0, none⟩) (pt b q).length cap) (pt b q).length vs ∧ EachP R vs (pt b q) ∧ Below W'.heap.size W' w') := Lib.hid (fun W' h => hb _ R W' (below_step hR1 h) sb)
  rw [hpt, List.length_append]
  have henc : (enc (.two q a b)).f0 = bs q := rfl
  rw [henc]
  generalize pt a q = ts at *
  generalize pt b q = rs at *
  generalize (enc a).f0 = ea at *
  generalize (enc b).f0 = eb at *
  have hnm : ts.length + rs.length ≤ maxLen := Nat.le_trans (Nat.add_le_add na nb) (by decide)
  have hby : (ts.length + rs.length) * 32 ≤ 140737488355328 := by omega
  have HB01 := Lib.hid hb01
  have HW1 := Lib.hid hW1
  have i1 : (1 : Int) < 2 := by decide
  clear hb01 hR1 hRW hW1 hn sa sb ha hb hpt henc x0 x1 x2 x3
  go_enter Try.func34, Try.ntmps34
  go_wp2_with fail
  rw [← HW1.out]
  go_region_held3 (fun w' => Below W1.heap.size W1 w' ∧ w'.cell? ⟨W.heap.size, 0, none⟩ = some (.int .u8 (bs q)) ∧ w'.cell? ⟨W.heap.size, 1, none⟩ = some (.slice (some ad) 2 c) ∧ w'.cell? ad = some (.int .u8 ea) ∧ w'.cell? ⟨ad.block, ad.off + 1, none⟩ = some (.slice A1 n1 c1) ∧ w'.cell? ⟨ad.block, ad.off + 2, none⟩ = some (.int .u8 eb) ∧ w'.cell? ⟨ad.block, ad.off + 2 + 1, none⟩ = some (.slice A2 n2 c2))
    (first
      | exact ⟨below_drew1 (Below.refl _ _), f0, f1, y0, y1, y2, y3⟩
      | (go_split_ands; exact hold6 (below_step (by assumption) hb1) f0 f1 y0 y1 y2 y3)
      | (go_split_ands; exact hold6 (below_step (by assumption) hb2) f0 f1 y0 y1 y2 y3)
      | (go_split_ands; exact hold6 (Below.grown (by assumption) hgrow (Below.size (B := W1.heap.size) (w := W1) (by assumption)) (fun i hi => by injection hi with hi; subst hi; exact (own32_in ho1).1)) f0 f1 y0 y1 y2 y3))
    (first
      | (go_at_call 34; with_reducible refine (A.out _ ?hb).mono ?_; (case hb => first | assumption | (go_split_ands; assumption)); rintro e w1 ⟨g1, cap1, vs1, rfl, ho1, ht1, hb1⟩)
      | (go_at_call 34; with_reducible refine (B.out _ ?hb).mono ?_; (case hb => first | assumption | (go_split_ands; assumption)); rintro e w2 ⟨g2, cap2, vs2, rfl, ho2, ht2, hb2⟩)
      | (have hown1 := own32_kept (base' := W1.heap.size) ho1 hb2 (Nat.le_refl _)
         have hone := ht2.one
         refine step_append_lies _ (by rfl) _ _ _ (by rfl) W1.heap.size 32 i0 _ 2 32 Try.underlying30 hi0 hz0 hz1 hz2 rfl (by omega) (.slice (some ⟨g1, 0, none⟩) ts.length cap1) ts.length vs1 (by rfl) hown1 ⟨g2, 0, none⟩ rs.length cap2 vs2 (by rfl)
           ho2.1 (own32_news ho2) hone nb0 hnm hby (Below.size (B := W1.heap.size) (w := W1) (by first | assumption | (go_split_ands; assumption))) w2.heap.size rfl ?_
         intro g cap w3 hown hgrow hat hlt))
  have HB3 : Hid (Below W1.heap.size W1 w3) := Lib.hid (by first | assumption | (go_split_ands; assumption))
  have HE := Lib.hid (EachP.append ht1 ht2)
  have HO := Lib.hid hown
  clear ho1 ho2 ht1 ht2 hb1 hb2 hgrow hat hlt hown
  go_wp2
  go_ret
  exact ⟨g, cap, _, rfl, own_less HO.out HB01.out.size, HE.out, below_step HB01.out HB3.out⟩

theorem parts_calls : ∀ (t : Tm), Td t → t.rooms ≤ 1000 → ∀ (q : Bool), PartsC t q
  | .o, _, _, q => parts_one .o q rfl (.inl rfl)
  | .one _ _, h, _, _ => h.elim
  | .two p a b, h, hr, q => by
    simp only [Tm.rooms] at hr
    by_cases e : p = q
    · subst e
      have la := pt_le a p
      have lb := pt_le b p
      exact parts_two p a b (parts_calls a h.1 (by omega) p) (parts_calls b h.2 (by omega) p) (by omega) (by omega)
    · refine parts_one _ q (if_neg e) (.inr ?_)
      show bs p = bs (!q)
      cases p <;> cases q <;> simp_all
end Go.Proofs.Ytmocablibmkebaa.S

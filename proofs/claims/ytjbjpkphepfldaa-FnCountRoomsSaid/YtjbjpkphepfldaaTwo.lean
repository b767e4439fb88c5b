import Derived.Test.YtjbjpkphepfldaaOne
import Derived.Deep.RegionHeld3
import Derived.OwnWalk
import Derived.Shelf.Abstract
import Derived.Deep.DeepCutAuto
import Derived.Test.YtjbjpkphepfldaaCell3
/- A grid of cells told by a function: blank. -/
namespace Go.Proofs.Ytjbjpkphepfldaa.S
open Go.RowKit Go.Proofs.YtjbjpkphepfldaaW.PrintWords Go.Proofs.YtjbjpkphepfldaaW.PrintMore
set_option linter.unusedVariables false
set_option linter.unusedSimpArgs false

theorem info3 : (Try.prog.info? 3).map (fun i => (i.zero, i.size, i.bytes)) = some (some (.int .i64 0), 1, 8) := by kernel_rfl
theorem info24 : (Try.prog.info? 22).map (fun i => (i.zero, i.size, i.bytes)) = some (some (.slice none 0 0), 1, 24) := by kernel_rfl

theorem own_keepS {w w' : World} {S : Nat → Prop} {base g n c size : Nat} {e : TypeId} {xs : List Value} (h : w.ownsRow base e size (.slice (some ⟨g, 0, none⟩) n c) n xs) (k : KeepS S w w') (hg : ¬ S g) :
    w'.ownsRow base e size (.slice (some ⟨g, 0, none⟩) n c) n xs := by
  obtain ⟨hl, ⟨h, _⟩ | ⟨g', cap, cur, h, hb, hh, h1, h2, h3, h4⟩⟩ := h
  · cases h
  · injection h with hA _ hc
    injection hA with hA
    injection hA with hA _
    subst hA
    subst hc
    exact ⟨hl, .inr ⟨g, c, cur, rfl, hb, k.heap hh hg, h1, h2, h3, h4⟩⟩

/-- A row that is done. -/
def Done (base o : Nat) (Wd : Nat) (w : World) (T : Nat → Prop) (val : Nat → Int) (v : Value) (x : Option Nat) : Prop :=
  ∃ g, v = .slice (some ⟨g, 0, none⟩) Wd Wd ∧ w.ownsRow base 3 1 (.slice (some ⟨g, 0, none⟩) Wd Wd) Wd ((List.range Wd).map fun c => .int .i64 (val c)) ∧ g ≠ o ∧ ¬ T g ∧ x ≠ some g
theorem Done.go {base o Wd : Nat} {w w' : World} {T T' S : Nat → Prop} {val : Nat → Int} {v : Value} {x x' : Option Nat} (h : Done base o Wd w T val v x) (k : KeepS S w w') (hS : ∀ g, ¬ T g → g ≠ o → x ≠ some g → g < w.heap.size → ¬ S g) (hT : ∀ g, ¬ T g → g < w.heap.size → ¬ T' g)
    (hx : ∀ g, x ≠ some g → g < w.heap.size → x' ≠ some g) : Done base o Wd w' T' val v x' := by
  obtain ⟨g, rfl, ho, h1, h2, h3⟩ := h
  have hl := (ho.lt g rfl).2
  exact ⟨g, rfl, own_keepS ho k (hS g h2 h1 h3 hl), h1, hT g h2 hl, hx g h3 hl⟩

/-- What holds of blank's own rows: out lies in block o; r rows are done; x: the block of the row under way. -/
structure Out (base o H Wd r : Nat) (w : World) (T : Nat → Prop) (val : Nat → Nat → Int) (vs : List Value) (x : Option Nat) : Prop where
  own : w.ownsRow base 22 1 (.slice (some ⟨o, 0, none⟩) H H) H vs
  nt : ¬ T o
  done : ∀ i, i < r → ∃ v, vs[i]? = some v ∧ Done base o Wd w T (val i) v x
theorem Out.go {base o H Wd r : Nat} {w w' : World} {T T' S : Nat → Prop} {val : Nat → Nat → Int} {vs : List Value} {x x' : Option Nat} (h : Out base o H Wd r w T val vs x) (k : KeepS S w w') (hS : ∀ g, ¬ T g → x ≠ some g → g < w.heap.size → ¬ S g) (hxo : x ≠ some o)
    (hT : ∀ g, ¬ T g → g < w.heap.size → ¬ T' g) (hx : ∀ g, x ≠ some g → g < w.heap.size → x' ≠ some g) : Out base o H Wd r w' T' val vs x' where
  own := own_keepS h.own k (hS o h.nt hxo (h.own.lt o rfl).2)
  nt := hT o h.nt (h.own.lt o rfl).2
  done := fun i hi => by
    obtain ⟨v, hv, hd⟩ := h.done i hi
    exact ⟨v, hv, hd.go k (fun g h1 _ h3 h4 => hS g h1 h3 h4) hT hx⟩

/-- How a cell's function is called. -/
structure Told (f : FuncId) (caps : Array Value) (H Wd : Nat) (val : Nat → Nat → Int) (I : Nat → World → (Nat → Prop) → Prop) (B : Nat) : Prop where
  call : ∀ r c W T, r < H → c < Wd → I (r * Wd + c) W T → Calls Try.prog f (#[.int .i64 (r : Nat), .int .i64 (c : Nat)] ++ caps) W fun e w' => e = .returned (.int .i64 (val r c)) ∧ ∃ T', I (r * Wd + c + 1) w' T' ∧ KeepS T W w' ∧ (∀ k, T' k → T k ∨ W.heap.size ≤ k)
  still : ∀ i W T W', I i W T → KeepS (fun k => B ≤ k ∧ ¬ T k) W W' → I i W' T
  lt : ∀ i W T, I i W T → ∀ k, T k → k < W.heap.size

/-- Between two rows. -/
structure Bl (I : Nat → World → (Nat → Prop) → Prop) (H Wd : Nat) (val : Nat → Nat → Int) (W0 : World) (T0 : Nat → Prop) (o r : Nat) (w : World) (T : Nat → Prop) (vs : List Value) : Prop where
  inv : I (r * Wd) w T
  out : Out W0.heap.size o H Wd r w T val vs none
  kp : KeepS T0 W0 w
  tn : ∀ k, T k → T0 k ∨ W0.heap.size ≤ k
/-- In a row. -/
structure Ro (I : Nat → World → (Nat → Prop) → Prop) (H Wd : Nat) (val : Nat → Nat → Int) (W0 : World) (T0 : Nat → Prop) (o r c g : Nat) (w : World) (T : Nat → Prop) (vs : List Value) (L : List Value) : Prop where
  inv : I (r * Wd + c) w T
  out : Out W0.heap.size o H Wd r w T val vs (some g)
  hv : vs[r]? = some (.slice (some ⟨g, 0, none⟩) Wd Wd)
  row : w.ownsRow W0.heap.size 3 1 (.slice (some ⟨g, 0, none⟩) Wd Wd) Wd L
  got : ∀ j, j < c → L[j]? = some (.int .i64 (val r j))
  ng : ¬ T g
  go : g ≠ o
  kp : KeepS T0 W0 w
  tn : ∀ k, T k → T0 k ∨ W0.heap.size ≤ k

theorem Ro.step {I : Nat → World → (Nat → Prop) → Prop} {f : FuncId} {caps : Array Value} {H Wd : Nat} {val : Nat → Nat → Int} {W0 : World} {T0 : Nat → Prop} {o r c g : Nat} {w w1 : World} {T T' : Nat → Prop} {vs L : List Value}
    (tl : Told f caps H Wd val I W0.heap.size) (h : Ro I H Wd val W0 T0 o r c g w T vs L) (hc : c < Wd) (h1 : I (r * Wd + c + 1) w1 T') (hk : KeepS T w w1) (ht : ∀ k, T' k → T k ∨ w.heap.size ≤ k) :
    Ro I H Wd val W0 T0 o r (c + 1) g (w1.setCell ⟨g, c, none⟩ (.int .i64 (val r c))) T' vs (L.set c (.int .i64 (val r c))) := by
  have hgl := (h.row.lt g rfl)
  have hne : ∀ k, ¬ T k → k < w.heap.size → ¬ T' k := fun k h1 h2 h3 => (ht k h3).elim h1 (fun h4 => by omega)
  have hg' : ¬ T' g := hne g h.ng hgl.2
  have ks : ∀ S : Nat → Prop, S g → KeepS S w1 (w1.setCell ⟨g, c, none⟩ (.int .i64 (val r c))) := fun S hs => KeepS.setCell w1 ⟨g, c, none⟩ _ (.inl hs)
  have hl : L.length = Wd := by have := h.row.1; omega
  refine ⟨tl.still _ _ _ _ h1 (ks _ ⟨hgl.1, hg'⟩), ?_, h.hv, ((own_keepS h.row hk h.ng).stored c _).1, fun j hj => ?_, hg', h.go, ?_, fun k hk2 => ?_⟩
  · have o1 : Out W0.heap.size o H Wd r w1 T' val vs (some g) := h.out.go hk (fun g' a _ _ => a) (fun e => h.go (by injection e)) hne (fun _ a _ => a)
    exact o1.go (ks (fun k => k = g) rfl) (fun g' _ b _ e => b (by rw [e])) (fun e => h.go (by injection e)) (fun _ a _ => a) (fun _ a _ => a)
  · by_cases e : j = c
    · subst e
      rw [List.getElem?_set_self (by omega)]
    · rw [List.getElem?_set_ne (fun x => e x.symm)]
      exact h.got j (by omega)
  · have kk : KeepS (fun k => W0.heap.size ≤ k ∨ T0 k) W0 (w1.setCell ⟨g, c, none⟩ (.int .i64 (val r c))) :=
      ((h.kp.mono (fun k _ a => .inr a)).trans (hk.mono (fun k _ a => (h.tn k a).symm.imp id id))).trans (ks _ (.inl hgl.1))
    exact kk.mono (fun k hk2 a => a.resolve_left (by omega))
  · exact (ht k hk2).elim (h.tn k) (fun a => .inr (Nat.le_trans h.kp.size a))

theorem Ro.last {I : Nat → World → (Nat → Prop) → Prop} {H Wd : Nat} {val : Nat → Nat → Int} {W0 : World} {T0 : Nat → Prop} {o r g : Nat} {w : World} {T : Nat → Prop} {vs L : List Value} (h : Ro I H Wd val W0 T0 o r Wd g w T vs L) :
    Bl I H Wd val W0 T0 o (r + 1) w T vs := by
  refine ⟨by rw [Nat.succ_mul]; exact h.inv, ⟨h.out.own, h.out.nt, fun i hi => ?_⟩, h.kp, h.tn⟩
  by_cases e : i = r
  · subst e
    refine ⟨_, h.hv, g, rfl, ?_, h.go, h.ng, by simp⟩
    have hl : L.length = Wd := by have := h.row.1; omega
    have : (List.range Wd).map (fun c => Value.int .i64 (val i c)) = L := by
      apply List.ext_getElem?
      intro j
      by_cases hj : j < Wd
      · rw [h.got j hj]
        simp [hj]
      · rw [List.getElem?_eq_none (by simp; omega), List.getElem?_eq_none (by omega)]
    rw [this]
    exact h.row
  · obtain ⟨v, hv, g', rfl, a1, a2, a3, _⟩ := h.out.done i (by omega)
    exact ⟨_, hv, g', rfl, a1, a2, a3, by simp⟩

theorem Bl.open {I : Nat → World → (Nat → Prop) → Prop} {f : FuncId} {caps : Array Value} {H Wd : Nat} {val : Nat → Nat → Int} {W0 : World} {T0 : Nat → Prop} {o r : Nat} {w w2 : World} {T : Nat → Prop} {vs L : List Value}
    (tl : Told f caps H Wd val I W0.heap.size) (h : Bl I H Wd val W0 T0 o r w T vs) (hr : r < H) (hg : w.grownBy w2 none) (row : w2.ownsRow W0.heap.size 3 1 (.slice (some ⟨w.heap.size, 0, none⟩) Wd Wd) Wd L) :
    Ro I H Wd val W0 T0 o r 0 w.heap.size (w2.setCell ⟨o, r, none⟩ (.slice (some ⟨w.heap.size, 0, none⟩) Wd Wd)) T (vs.set r (.slice (some ⟨w.heap.size, 0, none⟩) Wd Wd)) L := by
  have hol := h.out.own.lt o rfl
  have k2 : ∀ S, KeepS S w w2 := fun S => KeepS.grown' hg (by simp)
  have ks : ∀ S : Nat → Prop, S o → KeepS S w2 (w2.setCell ⟨o, r, none⟩ (.slice (some ⟨w.heap.size, 0, none⟩) Wd Wd)) := fun S hs => KeepS.setCell w2 ⟨o, r, none⟩ _ (.inl hs)
  have hT : ¬ T w.heap.size := fun e => by have := tl.lt _ _ _ h.inv _ e; omega
  have hl : vs.length = H := by have := h.out.own.1; omega
  have hne : w.heap.size ≠ o := by omega
  refine ⟨tl.still _ _ _ _ h.inv ((k2 _).trans (ks _ ⟨hol.1, h.out.nt⟩)), ⟨((own_keepS h.out.own (k2 (fun _ => False)) (fun e => e)).stored r _).1, h.out.nt, fun i hi => ?_⟩, ?_, own_keepS row (ks (fun k => k = o) rfl) hne, fun j hj => absurd hj (by omega), hT, hne, ?_, h.tn⟩
  · obtain ⟨v, hv, hd⟩ := h.out.done i hi
    refine ⟨v, by rw [List.getElem?_set_ne (by omega)]; exact hv, ?_⟩
    exact Done.go (hd.go (k2 (fun _ => False)) (fun _ _ _ _ _ e => e) (fun _ a _ => a) (x' := some w.heap.size) (fun g _ b e => by injection e with e; omega)) (ks (fun k => k = o) rfl) (fun g _ b _ _ e => b e) (fun _ a _ => a) (fun _ a _ => a)
  · rw [List.getElem?_set_self (by omega)]
  · have kk : KeepS (fun k => W0.heap.size ≤ k ∨ T0 k) W0 (w2.setCell ⟨o, r, none⟩ (.slice (some ⟨w.heap.size, 0, none⟩) Wd Wd)) := ((h.kp.mono (fun k _ a => .inr a)).trans (k2 _)).trans (ks _ (.inl hol.1))
    exact kk.mono (fun k hk2 a => a.resolve_left (by omega))

theorem cell_apart {w : World} {o r g c : Nat} {u v : Value} (h : w.cell? ⟨o, r, none⟩ = some v) (hne : g ≠ o) : (w.setCell ⟨g, c, none⟩ u).cell? ⟨o, r, none⟩ = some v :=
  (KeepS.setCell (S := fun k => k = g) w ⟨g, c, none⟩ u (.inl rfl)).cell h (fun e => hne e.symm)

set_option maxRecDepth 100000 in
set_option maxHeartbeats 8000000 in
theorem blank_calls (f : FuncId) (caps : Array Value) (H Wd : Nat) (hH : H ≤ 1000) (hW : Wd ≤ 1000) (val : Nat → Nat → Int) (I : Nat → World → (Nat → Prop) → Prop) (W0 : World) (T0 : Nat → Prop) (tl : Told f caps H Wd val I W0.heap.size) (h0 : I 0 W0 T0) (en : ∀ (args : Array Value) (w : World), (callFunc f args).run Try.prog w = .ok (.enter f args) w) :
    Calls Try.prog 31 #[.int .i64 (H : Nat), .int .i64 (Wd : Nat), .func (Fn.func f) #[] caps] W0 fun e w' => ∃ o T' vs, e = .returned (.slice (some ⟨o, 0, none⟩) H H) ∧ Bl I H Wd val W0 T0 o H w' T' vs := by
  obtain ⟨i3, hi3, hz30, hz31, hz32⟩ := info_parts info3
  obtain ⟨i24, hi24, hz0, hz1, hz2⟩ := info_parts info24
  have TL := Lib.hid tl
  have H0 := Lib.hid h0
  have p1 : i24.bytes * H ≤ 281474976710656 := by rw [hz2]; omega
  have p2 : H ≤ maxLen := Nat.le_trans hH (by decide)
  have p3 : i3.bytes * Wd ≤ 281474976710656 := by rw [hz32]; omega
  have p4 : Wd ≤ maxLen := Nat.le_trans hW (by decide)
  clear tl h0
  go_enter Try.func31, Try.ntmps31
  go_wp2_with (first | (refine wpList_make_full _ rfl _ _ 49 rfl W0.heap.size 22 i24 _ 1 Try.underlying49 hi24 hz0 hz1 .i64 .i64 _ _ H rfl rfl rfl rfl p1 p2 (Nat.le_refl _) ?_; intro w1 hown1 hg1))
  have HB0 : Hid (∃ vs, Bl I H Wd val W0 T0 W0.heap.size 0 w1 T0 vs) := Lib.hid ⟨_, by
    have k1 : ∀ S, KeepS S W0 w1 := fun S => KeepS.grown' hg1 (by simp)
    exact ⟨by rw [Nat.zero_mul]; exact TL.out.still _ _ _ _ H0.out (k1 _), ⟨hown1, fun e => by have := TL.out.lt _ _ _ H0.out _ e; omega, fun i hi => absurd hi (by omega)⟩, k1 _, fun k a => .inl a⟩⟩
  clear hown1 hg1
  go_loopw [14] (fun kv wr => ∃ (r : Nat) (wl : World) (T : Nat → Prop) (vs : List Value), wl = wr ∧ r ≤ H ∧ kv = .int .i64 (r : Nat) ∧ Hid (Bl I H Wd val W0 T0 W0.heap.size r wl T vs)) (fun kv _ => H + 1 - (Go.RowKit.intOf kv).toNat)
  case atStart => obtain ⟨vs, hb⟩ := HB0.out; exact ⟨0, w1, T0, vs, rfl, Nat.zero_le _, rfl, hb⟩
  case round =>
    obtain ⟨r, wl, T, vs, rfl, hr, rfl, HBL⟩ := hrel
    clear HB0
    by_cases hlt : r < H
    · have q1 : (r : Int) < (H : Int) := by omega
      have q2 : (0 : Int) ≤ (r : Int) := by omega
      have HR := Lib.hid hlt
      go_wp2_with (first | (refine wpList_make_full _ rfl _ _ 22 rfl W0.heap.size 3 i3 _ 1 Try.underlying22 hi3 hz30 hz31 .i64 .i64 _ _ Wd rfl rfl rfl rfl p3 p4 (HBL.out.kp.size) ?_; intro w2 hown2 hg2; have o2 := own_keepS HBL.out.out.own (KeepS.grown' (S := fun _ => False) hg2 (by simp)) (fun e => e); have z2 := o2.frozenAt r; have c2 : ∃ u, w2.cell? ⟨W0.heap.size, r, none⟩ = some u := ⟨_, (o2.cellAt r (by omega)).trans (List.getElem?_eq_getElem (by have := o2.1; omega))⟩; obtain ⟨u2, c2⟩ := c2))
      have HRO : Hid (∃ L vs', Ro I H Wd val W0 T0 W0.heap.size r 0 wl.heap.size (w2.setCell ⟨W0.heap.size, r, none⟩ (.slice (some ⟨wl.heap.size, 0, none⟩) Wd Wd)) T vs' L) := Lib.hid ⟨_, _, Bl.open TL.out HBL.out HR.out hg2 hown2⟩
      clear hown2 hg2 o2 z2 c2
      go_loopw [27] (fun kv wr => ∃ (c : Nat) (wx : World) (T' : Nat → Prop) (vs' L : List Value), wx = wr ∧ c ≤ Wd ∧ kv = .int .i64 (c : Nat) ∧ Hid (Ro I H Wd val W0 T0 W0.heap.size r c wl.heap.size wx T' vs' L)) (fun kv _ => Wd + 1 - (Go.RowKit.intOf kv).toNat)
      case atStart => obtain ⟨L, vs', hro⟩ := HRO.out; exact ⟨0, _, T, vs', L, rfl, Nat.zero_le _, rfl, hro⟩
      case round =>
        obtain ⟨c, wx, T', vs', L, rfl, hc, rfl, HX⟩ := hrel
        clear HRO
        by_cases hlc : c < Wd
        · have q3 : (c : Int) < (Wd : Int) := by omega
          have q4 : (0 : Int) ≤ (c : Int) := by omega
          have HC := Lib.hid hlc
          have x1 : wx.cell? ⟨W0.heap.size, r, none⟩ = some (.slice (some ⟨wl.heap.size, 0, none⟩) Wd Wd) := (HX.out.out.own.cellAt r (by have := HR.out; omega)).trans HX.out.hv
          have C : Hid (∀ W', KeepS (fun _ => False) wx W' → Calls Try.prog f (#[.int .i64 (r : Nat), .int .i64 (c : Nat)] ++ caps) W' fun e w' => e = .returned (.int .i64 (val r c)) ∧ ∃ T2, I (r * Wd + c + 1) w' T2 ∧ KeepS T' W' w' ∧ (∀ k, T2 k → T' k ∨ W'.heap.size ≤ k)) :=
            Lib.hid (fun W' hk => TL.out.call r c W' T' HR.out HC.out (TL.out.still _ _ _ _ HX.out.inv (hk.mono (fun _ _ e => e.elim))))
          clear hlc
          go_wp2_with fail
          go_region_held3 (fun w' => w'.cell? ⟨W0.heap.size, r, none⟩ = some (.slice (some ⟨wl.heap.size, 0, none⟩) Wd Wd))
            (first
              | exact x1
              | assumption
              | exact KeepS.cell hk1 x1 HX.out.out.nt
              | exact cell_apart (KeepS.cell hk1 x1 HX.out.out.nt) HX.out.go)
            (first
              | (refine (C.out _ (KeepS.drew _ _)).mono ?_; rintro e w3 ⟨rfl, T2, hi2, hk1, ht2⟩; have o3 := own_keepS (w := wx.drew) HX.out.row hk1 HX.out.ng; have z3 := o3.frozenAt c; obtain ⟨u3', c3⟩ : ∃ u, w3.cell? ⟨wl.heap.size, c, none⟩ = some u := ⟨_, (o3.cellAt c (by have := HC.out; omega)).trans (List.getElem?_eq_getElem (by have := o3.1; have := HC.out; omega))⟩))
          have hkx : KeepS T' wx w3 := (KeepS.drew T' wx).trans hk1
          have RS := Lib.hid (HX.out.step TL.out HC.out hi2 hkx (fun k hk => ht2 k hk))
          clear hi2 hk1 ht2 o3 z3 c3 hkx
          go_wp2_with fail
          go_roundw
          case rel => exact ⟨c + 1, _, T2, vs', _, rfl, HC.out, by push_cast; rfl, RS⟩
          case measure => simp [intOf]; have := HC.out; omega
        · obtain rfl : c = Wd := by omega
          go_wp2
          go_roundw
          case rel => exact ⟨r + 1, wx, T', vs', rfl, by have := HR.out; omega, by push_cast; rfl, HX.out.last⟩
          case measure => simp [intOf]; omega
    · obtain rfl : r = H := by omega
      go_wp2
      go_ret
      exact ⟨_, T, vs, rfl, HBL.out⟩
end Go.Proofs.Ytjbjpkphepfldaa.S
/- Whether all rows are as long as the first one. -/
namespace Go.Proofs.Ytjbjpkphepfldaa.S
open Go.RowKit Go.Proofs.YtjbjpkphepfldaaW.PrintWords Go.Proofs.YtjbjpkphepfldaaW.PrintMore
set_option linter.unusedVariables false
set_option linter.unusedSimpArgs false

set_option maxRecDepth 100000 in
set_option maxHeartbeats 4000000 in
theorem diff_calls (A : Option Addr) (n c wb Wd : Nat) (W : World) (h : W.cell? ⟨wb, 0, none⟩ = some (.int .i64 (Wd : Nat))) (b : Bool) (hb : ((n : Int) != (Wd : Int)) = b) (hb2 : ((n : Int) == (Wd : Int)) = !b) (hb3 : (n == Wd) = !b) :
    Calls Try.prog 51 #[.slice A n c, .pointer (some ⟨wb, 0, none⟩)] W fun e w' => e = .returned (.bool b) ∧ W = w' := by
  go_enter Try.func51, Try.ntmps51
  go_wp2
  go_ret
  exact ⟨by simp [*], rfl⟩

set_option maxRecDepth 100000 in
set_option maxHeartbeats 4000000 in
theorem index_calls (P : Nat → Prop) (gv : Value) (m : List (List Int)) (wb Wd : Nat) (hm : m.length ≤ 1000) (hml : ∀ l ∈ m, l.length ≤ 4000000) (W : World) (hg : GridIn P W gv m) (h : W.cell? ⟨wb, 0, none⟩ = some (.int .i64 (Wd : Nat))) (hWd : Wd ≤ 4000000) :
    Calls Try.prog 34 #[gv, .func (Fn.func 51) #[] #[.pointer (some ⟨wb, 0, none⟩)]] W fun e w' => ∃ k : Int, e = .returned (.int .i64 k) ∧ W = w' ∧ ((0 ≤ k) = ¬ ∀ l ∈ m, l.length = Wd) ∧ k ≤ 1000 ∧ -1 ≤ k := by
  obtain ⟨A, c, rfl, hc, hrows⟩ := hg
  have HR := Lib.hid hrows
  have HM := Lib.hid hml
  have hen := enters_of (P := Try.prog) Try.func51 rfl rfl
  clear hrows hml
  go_enter Try.func34, Try.ntmps34
  go_wp2_with fail
  go_loopw [8] (fun kv wr => ∃ K : Nat, W = wr ∧ K ≤ m.length ∧ kv = .int .i64 (K : Nat) ∧ Hid (∀ i l, i < K → m[i]? = some l → l.length = Wd)) (fun kv _ => m.length + 1 - (Go.RowKit.intOf kv).toNat)
  case atStart => exact ⟨0, rfl, Nat.zero_le _, rfl, fun i l hi => absurd hi (by omega)⟩
  case round =>
    obtain ⟨K, rfl, hK, rfl, HL⟩ := hrel
    by_cases hlt : K < m.length
    · obtain ⟨l, hl⟩ : ∃ l, m[K]? = some l := ⟨_, List.getElem?_eq_getElem hlt⟩
      obtain ⟨g, u, rfl, p, hcell, A2, c2, rfl, hc2, _⟩ := HR.out K l hl
      have HML := Lib.hid hl
      have q1 : (K : Int) < (m.length : Int) := by omega
      have q2 : (0 : Int) ≤ (K : Int) := by omega
      have hll := HM.out l (List.mem_of_getElem? hl)
      clear hl hc2 p
      by_cases he : l.length = Wd
      · have D := Lib.hid (diff_calls A2 l.length c2 wb Wd W h false (by simp [he]) (by simp [he]) (by simp [he]))
        have HE := Lib.hid he
        clear he
        go_wp2_with fail
        refine D.out.mono ?_
        rintro e w' ⟨rfl, rfl⟩
        go_wp2_with fail
        go_roundw
        case rel =>
          refine ⟨K + 1, trivial, hlt, by push_cast; rfl, fun i l' hi h' => ?_⟩
          by_cases e : i = K
          · subst e
            rw [HML.out] at h'
            obtain rfl := Option.some.inj h'
            exact HE.out
          · exact HL.out i l' (by omega) h'
        case measure => simp [intOf]; omega
      · have D := Lib.hid (diff_calls A2 l.length c2 wb Wd W h true (by simp; omega) (by simp; omega) (by simp; omega))
        have HE := Lib.hid he
        clear he
        go_wp2_with fail
        refine D.out.mono ?_
        rintro e w' ⟨rfl, rfl⟩
        go_wp2
        go_ret
        refine ⟨_, rfl, rfl, eq_of_iff ⟨fun _ ha => HE.out (ha l (List.mem_of_getElem? HML.out)), fun _ => q2⟩, by omega, by omega⟩
    · obtain rfl : K = m.length := by omega
      go_wp2
      go_ret
      refine ⟨_, rfl, rfl, eq_of_iff ⟨fun h => absurd h (by decide), fun h => absurd (fun l hl => ?_) h⟩, by decide, by decide⟩
      obtain ⟨i, hi, rfl⟩ := List.getElem_of_mem hl
      exact HL.out i _ hi (List.getElem?_eq_getElem hi)
where eq_of_iff {p q : Prop} (h : p ↔ q) : p = q := propext h

set_option maxRecDepth 100000 in
set_option maxHeartbeats 4000000 in
theorem contains_calls (P : Nat → Prop) (gv : Value) (m : List (List Int)) (wb Wd : Nat) (hm : m.length ≤ 1000) (hml : ∀ l ∈ m, l.length ≤ 4000000) (W : World) (hg : GridIn P W gv m) (h : W.cell? ⟨wb, 0, none⟩ = some (.int .i64 (Wd : Nat))) (hWd : Wd ≤ 4000000) (b : Bool) (hb : b = !decide (∀ l ∈ m, l.length = Wd)) :
    Calls Try.prog 50 #[gv, .func (Fn.func 51) #[] #[.pointer (some ⟨wb, 0, none⟩)]] W fun e w' => e = .returned (.bool b) ∧ W = w' := by
  have C := Lib.hid (index_calls P gv m wb Wd hm hml W hg h hWd)
  obtain ⟨A, c, rfl, _⟩ := hg
  have HB := Lib.hid hb
  clear hml h hb
  go_enter Try.func50, Try.ntmps50
  go_wp2_with fail
  refine C.out.mono ?_
  rintro e w' ⟨k, rfl, rfl, hk, h1, h2⟩
  have e1 : decide ((0 : Int) ≤ k) = b := by
    rw [HB.out]
    by_cases hh : ∀ l ∈ m, l.length = Wd
    · rw [decide_eq_true hh, decide_eq_false (by rw [hk]; exact fun h => h hh)]; rfl
    · rw [decide_eq_false hh, decide_eq_true (by rw [hk]; exact hh)]; rfl
  clear hk
  go_wp2
  go_ret
  exact ⟨by first | rfl | simp [*], rfl⟩
end Go.Proofs.Ytjbjpkphepfldaa.S
/- settled's cells, told one after another. -/
namespace Go.Proofs.Ytjbjpkphepfldaa.S
open Go.RowKit Go.Maps Go.Proofs.YtjbjpkphepfldaaW.PrintWords Go.Proofs.YtjbjpkphepfldaaW.PrintMore
set_option linter.unusedVariables false
set_option linter.unusedSimpArgs false

/-- A cell of rows of numbers. -/
def gat (m : List (List Int)) (r c : Nat) : Int := (m.getD r []).getD c 0
/-- One cell more. -/
def stp (s : List Int × List Rc) (x : Int) (r c : Nat) : List Int × List Rc :=
  if x ∈ s.1 then (s.1, s.2.set (pos x s.1) ((s.2.getD (pos x s.1) ⟨0, 0, 0, 0⟩).both ⟨r, c, 1, 1⟩)) else (s.1 ++ [x], s.2 ++ [Rc.both ⟨r, c, 1, 1⟩ ⟨r, c, 1, 1⟩])
/-- What has been told behind i cells: the numbers in the order of first cells, and the rooms. -/
def run (m : List (List Int)) (Wd : Nat) : Nat → List Int × List Rc
  | 0 => ([], [])
  | i + 1 => stp (run m Wd i) (gat m (i / Wd) (i % Wd)) (i / Wd) (i % Wd)
theorem run_len (m : List (List Int)) (Wd : Nat) : ∀ i, (run m Wd i).1.length ≤ i
  | 0 => Nat.le_refl _
  | i + 1 => by
    have := run_len m Wd i
    simp only [run, stp]
    split
    · simp only; omega
    · simp only [List.length_append, List.length_cons, List.length_nil]; omega
/-- The number told for a cell. -/
def vals (m : List (List Int)) (Wd r c : Nat) : Int := (pos (gat m r c) (run m Wd (r * Wd + c + 1)).1 : Nat)

/-- What holds between two cells. -/
def CI (K : Cx) (cvF : Value) (m : List (List Int)) (Wd i : Nat) (W : World) (T : Nat → Prop) : Prop :=
  ∃ rv D, Fix K W ∧ St K W cvF rv D (run m Wd i).1 (run m Wd i).2 ∧ GridIn (fun k => k < K.base ∧ k ≠ K.fb ∧ k ≠ K.mb) W K.cv m ∧ K.base ≤ W.heap.size ∧ T = Tn K rv

theorem Fix.keep {K : Cx} {W W' : World} {S : Nat → Prop} (h : Fix K W) (hL : Lo K) (hk : KeepS S W W') (hS : ∀ k, S k → k = K.fb ∨ k = K.mb ∨ K.base ≤ k) : Fix K W' where
  mp := hk.heap h.mp (fun e => by rcases hS _ e with e | e | e; exact hL.mp.2.2 e; exact hL.mp.2.1 e; have := hL.mp.1; omega)
  cb := hk.heap h.cb (fun e => by rcases hS _ e with e | e | e; exact hL.cb.2.2 e; exact hL.cb.2.1 e; have := hL.cb.1; omega)
  fp := hk.heap h.fp (fun e => by rcases hS _ e with e | e | e; exact hL.fp.2.2 e; exact hL.fp.2.1 e; have := hL.fp.1; omega)
theorem GridIn.keep {P : Nat → Prop} {W W' : World} {S : Nat → Prop} {v : Value} {m : List (List Int)} (h : GridIn P W v m) (hk : KeepS S W W') (hS : ∀ k, P k → ¬ S k) : GridIn P W' v m := h.go (fun k p hl => ⟨p, hk.same k hl (hS k p)⟩)

theorem map_keep {w w' : World} {b n : Nat} {D : DataW Unit} (h : w.ownsMap Try.prog 3 (plainElem Try.prog 3) b n D) (e : w'.heap[b]? = w.heap[b]?) : w'.ownsMap Try.prog 3 (plainElem Try.prog 3) b n D := by
  obtain ⟨es, clock, hb, F, hs, hD⟩ := h
  exact ⟨es, clock, e.trans hb, F, hs, hD⟩
theorem own_keepV {w w' : World} {S : Nat → Prop} {base n size : Nat} {e : TypeId} {v : Value} {xs : List Value} (h : w.ownsRow base e size v n xs) (k : KeepS S w w') (hg : ∀ g, v.ownBlock = some g → ¬ S g) : w'.ownsRow base e size v n xs := by
  obtain ⟨hl, ⟨h, hn⟩ | ⟨g', cap, cur, h, hb, hh, h1, h2, h3, h4⟩⟩ := h
  · exact ⟨hl, .inl ⟨h, hn⟩⟩
  · subst h
    exact ⟨hl, .inr ⟨g', cap, cur, rfl, hb, k.heap hh (hg g' rfl), h1, h2, h3, h4⟩⟩
theorem St.keep {K : Cx} {W W' : World} {cvF rv : Value} {D : DataW Unit} {ord : List Int} {rooms : List Rc} (h : St K W cvF rv D ord rooms) {S : Nat → Prop} (hk : KeepS S W W') (hS : ∀ k, Tn K rv k → ¬ S k) : St K W' cvF rv D ord rooms where
  fb := hk.heap h.fb (hS _ (.inl rfl))
  idx := h.idx
  map := map_keep h.map (hk.same _ h.map.lt (hS _ (.inr (.inl rfl))))
  row := own_keepV h.row hk (fun g e => hS g (.inr (.inr e)))
  len := h.len
  ok := h.ok

theorem told (K : Cx) (hL : Lo K) (cvF : Value) (m : List (List Int)) (H Wd : Nat) (hH : m.length = H) (hH2 : H ≤ 100) (hW : Wd ≤ 100) (hN : H * Wd ≤ 1000) (hrow : ∀ l ∈ m, l.length = Wd) (hwf : ∀ l ∈ m, ∀ x ∈ l, 0 ≤ x ∧ x ≤ 1000) :
    Told 52 #[.pointer (some ⟨K.mp, 0, none⟩), .pointer (some ⟨K.cb, 0, none⟩), .pointer (some ⟨K.fp, 0, none⟩)] H Wd (vals m Wd) (CI K cvF m Wd) K.base where
  call := fun r c W T hr hc hI => by
    obtain ⟨rv, D, hF, hS, hG, hB, rfl⟩ := hI
    have hG0 := hG
    obtain ⟨A, co, hcv, hco, hrows⟩ := hG
    have hrl : r < m.length := by omega
    obtain ⟨l, hl⟩ : ∃ l, m[r]? = some l := ⟨_, List.getElem?_eq_getElem hrl⟩
    obtain ⟨o, u, rfl, ⟨po1, po2, po3⟩, hcell, A2, cg, rfl, hcg, hcells⟩ := hrows r l hl
    have hlm : l ∈ m := List.mem_of_getElem? hl
    have hll := hrow l hlm
    obtain ⟨x, hx⟩ : ∃ x, l[c]? = some x := ⟨_, List.getElem?_eq_getElem (by omega)⟩
    obtain ⟨g, rfl, ⟨pg1, pg2, pg3⟩, hxc⟩ := hcells c x hx
    have hxm := hwf l hlm x (List.mem_of_getElem? hx)
    have hgat : gat m r c = x := by
      have e1 : m.getD r [] = l := by rw [List.getD_eq_getElem?_getD, hl]; rfl
      unfold gat
      rw [e1, List.getD_eq_getElem?_getD, hx]
      rfl
    have hwfx : (Lit.int .i64 x).wf = true := WalkArith.wf_i64 (by omega)
    have hA : At W K.cv r c x o g m.length co l.length cg := ⟨hcv, hrl, hcell, by omega, hxc⟩
    have hdiv : (r * Wd + c) / Wd = r := by rw [Nat.mul_comm, Nat.mul_add_div (by omega), Nat.div_eq_of_lt hc]; rfl
    have hmod : (r * Wd + c) % Wd = c := by rw [Nat.mul_comm, Nat.mul_add_mod, Nat.mod_eq_of_lt hc]
    have hle : r * Wd + c ≤ 1000 := by
      have := Nat.mul_le_mul_right Wd (Nat.succ_le_of_lt hr)
      rw [Nat.succ_mul] at this
      omega
    have hol : (run m Wd (r * Wd + c)).1.length ≤ 1000 := Nat.le_trans (run_len m Wd _) hle
    have hrun : run m Wd (r * Wd + c + 1) = stp (run m Wd (r * Wd + c)) x r c := by
      show stp _ _ _ _ = _
      rw [hdiv, hmod, hgat]
    have hkS : ∀ k, Tn K rv k → k = K.fb ∨ k = K.mb ∨ K.base ≤ k := fun k h => h.imp id (fun h => h.imp id (fun h => (hS.row.lt k h).1))
    have hnS : ∀ k, (k < K.base ∧ k ≠ K.fb ∧ k ≠ K.mb) → ¬ Tn K rv k := fun k h h2 => by
      rcases hkS k h2 with e | e | e
      · exact h.2.1 e
      · exact h.2.2 e
      · omega
    show Calls Try.prog 52 #[.int .i64 (r : Nat), .int .i64 (c : Nat), .pointer (some ⟨K.mp, 0, none⟩), .pointer (some ⟨K.cb, 0, none⟩), .pointer (some ⟨K.fp, 0, none⟩)] W _
    by_cases hm : x ∈ (run m Wd (r * Wd + c)).1
    · refine (cell_old K W hF hL cvF rv D _ _ hS r c (by omega) (by omega) x hwfx o g _ _ _ _ hA ⟨po2, po3⟩ hm hol).mono ?_
      rintro e w' ⟨rfl, hS', hk⟩
      have hst : stp (run m Wd (r * Wd + c)) x r c = ((run m Wd (r * Wd + c)).1, (run m Wd (r * Wd + c)).2.set (pos x (run m Wd (r * Wd + c)).1) (((run m Wd (r * Wd + c)).2.getD (pos x (run m Wd (r * Wd + c)).1) ⟨0, 0, 0, 0⟩).both ⟨r, c, 1, 1⟩)) := if_pos hm
      refine ⟨?_, Tn K rv, ⟨rv, D, hF.keep hL hk hkS, ?_, hG0.keep hk hnS, Nat.le_trans hB hk.size, rfl⟩, hk, fun k h => .inl h⟩
      · unfold vals
        rw [hgat, hrun, hst]
      · rw [hrun, hst]
        exact hS'
    · refine (cell_new K W hF hL cvF rv D _ _ hS hB r c (by omega) (by omega) x hwfx o g _ _ _ _ hA ⟨po1, po2, po3⟩ ⟨pg1, pg2, pg3⟩ hm hol).mono ?_
      rintro e w' ⟨rv', D', rfl, hS', hk, hown⟩
      have hst : stp (run m Wd (r * Wd + c)) x r c = ((run m Wd (r * Wd + c)).1 ++ [x], (run m Wd (r * Wd + c)).2 ++ [Rc.both ⟨r, c, 1, 1⟩ ⟨r, c, 1, 1⟩]) := if_neg hm
      refine ⟨?_, Tn K rv', ⟨rv', D', hF.keep hL hk hkS, ?_, hG0.keep hk hnS, Nat.le_trans hB hk.size, rfl⟩, hk, fun k h => ?_⟩
      · unfold vals
        rw [hgat, hrun, hst]
        show _ = Ending.returned (.int .i64 ((pos x ((run m Wd (r * Wd + c)).1 ++ [x]) : Nat) : Int))
        rw [pos_app_new hm]
      · rw [hrun, hst]
        exact hS'
      · rcases h with h | h | h
        · exact .inl (.inl h)
        · exact .inl (.inr (.inl h))
        · exact (hown k h).imp (fun h => .inr (.inr h)) id
  still := fun i W T W' hI hk => by
    obtain ⟨rv, D, hF, hS, hG, hB, rfl⟩ := hI
    refine ⟨rv, D, hF.keep hL hk (fun k h => .inr (.inr h.1)), hS.keep hk (fun k h h2 => h2.2 h), hG.keep hk (fun k h h2 => by have := h.1; have := h2.1; omega), Nat.le_trans hB hk.size, rfl⟩
  lt := fun i W T hI k hT => by
    obtain ⟨rv, D, hF, hS, hG, hB, rfl⟩ := hI
    rcases hT with e | e | e
    · have := hL.fb.1; omega
    · have := hL.mb; omega
    · exact (hS.row.lt k e).2
end Go.Proofs.Ytjbjpkphepfldaa.S
/- Rows and columns of a plan; what stands behind blank. -/
namespace Go.Proofs.Ytjbjpkphepfldaa.S
open Go.RowKit Go.Maps Go.Proofs.YtjbjpkphepfldaaW.PrintWords Go.Proofs.YtjbjpkphepfldaaW.PrintMore
set_option linter.unusedVariables false
set_option linter.unusedSimpArgs false

set_option maxRecDepth 100000 in
set_option maxHeartbeats 4000000 in
theorem high_calls (fb : Nat) (A : Option Addr) (n c : Nat) (W : World) (h : W.cell? ⟨fb, 0, none⟩ = some (.slice A n c)) : Calls Try.prog 55 #[.pointer (some ⟨fb, 0, none⟩)] W fun e w' => e = .returned (.int .i64 (n : Nat)) ∧ w' = W := by
  go_enter Try.func55, Try.ntmps55
  go_wp2
  go_ret
  exact ⟨rfl, rfl⟩
set_option maxRecDepth 100000 in
set_option maxHeartbeats 4000000 in
theorem wide_calls (fb o : Nat) (A : Option Addr) (n c m k : Nat) (W : World) (h : W.cell? ⟨fb, 0, none⟩ = some (.slice (some ⟨o, 0, none⟩) n c)) (hn : 0 < n) (h2 : W.cell? ⟨o, 0, none⟩ = some (.slice A m k)) : Calls Try.prog 56 #[.pointer (some ⟨fb, 0, none⟩)] W fun e w' => e = .returned (.int .i64 (m : Nat)) ∧ w' = W := by
  have q : (0 : Int) < (n : Int) := by omega
  go_enter Try.func56, Try.ntmps56
  go_wp2
  go_ret
  exact ⟨rfl, rfl⟩

theorem fourb (w : World) (A B C D : Obj) : ((((w.alloc A).alloc B).alloc C).alloc D).heap[w.heap.size]? = some A ∧ ((((w.alloc A).alloc B).alloc C).alloc D).heap[w.heap.size + 1]? = some B ∧ ((((w.alloc A).alloc B).alloc C).alloc D).heap[w.heap.size + 1 + 1]? = some C ∧ ((((w.alloc A).alloc B).alloc C).alloc D).heap[w.heap.size + 1 + 1 + 1]? = some D ∧
    Below w.heap.size w ((((w.alloc A).alloc B).alloc C).alloc D) ∧ ((((w.alloc A).alloc B).alloc C).alloc D).heap.size = w.heap.size + 4 := by
  obtain ⟨h1, h2, h3, h4, h5⟩ := three w A B C
  have e : w.heap.size + 1 + 1 + 1 = (((w.alloc A).alloc B).alloc C).heap.size := by rw [h5]
  have k : ∀ {i : Nat} {o : Obj}, (((w.alloc A).alloc B).alloc C).heap[i]? = some o → ((((w.alloc A).alloc B).alloc C).alloc D).heap[i]? = some o := fun {i o} h =>
    (Below.heap_alloc _ D i ((Array.getElem?_eq_some_iff.1 h).1)).trans h
  refine ⟨k h1, k h2, k h3, ?_, below_alloc h4 _, by simp⟩
  rw [e]
  exact new_at _ _

/-- The blank grid's rows can be read. -/
theorem Out.grid {base o H Wd : Nat} {w : World} {T : Nat → Prop} {val : Nat → Nat → Int} {vs : List Value} {x : Option Nat} (h : Out base o H Wd H w T val vs x) :
    GridIn (fun k => base ≤ k ∧ ¬ T k) w (.slice (some ⟨o, 0, none⟩) H H) ((List.range H).map fun r => (List.range Wd).map fun c => val r c) := by
  refine ⟨some ⟨o, 0, none⟩, H, by simp, by simp, fun i l hl => ?_⟩
  obtain ⟨hi, rfl⟩ : i < H ∧ l = (List.range Wd).map (fun c => val i c) := by
    rw [List.getElem?_map] at hl
    by_cases hi : i < H
    · rw [List.getElem?_range hi] at hl
      exact ⟨hi, (Option.some.inj hl).symm⟩
    · rw [List.getElem?_eq_none (by simp; omega)] at hl
      cases hl
  obtain ⟨v, hv, g, rfl, hown, h1, h2, _⟩ := h.done i hi
  have hc : w.cell? ⟨o, i, none⟩ = _ := h.own.cellAt i (by omega)
  refine ⟨o, _, rfl, ⟨(h.own.lt o rfl).1, h.nt⟩, hc.trans hv, some ⟨g, 0, none⟩, Wd, by simp, by simp, fun j y hy => ?_⟩
  obtain ⟨hj, rfl⟩ : j < Wd ∧ y = val i j := by
    rw [List.getElem?_map] at hy
    by_cases hj : j < Wd
    · rw [List.getElem?_range hj] at hy
      exact ⟨hj, (Option.some.inj hy).symm⟩
    · rw [List.getElem?_eq_none (by simp; omega)] at hy
      cases hy
  refine ⟨g, rfl, ⟨(hown.lt g rfl).1, h2⟩, (hown.cellAt j (by omega)).trans ?_⟩
  rw [List.getElem?_map, List.getElem?_range hj]
  rfl
end Go.Proofs.Ytjbjpkphepfldaa.S
/- The plan of a grid: settled. -/
namespace Go.Proofs.Ytjbjpkphepfldaa.S
open Go.RowKit Go.Maps Go.Proofs.YtjbjpkphepfldaaW.PrintWords Go.Proofs.YtjbjpkphepfldaaW.PrintMore
set_option linter.unusedVariables false
set_option linter.unusedSimpArgs false

/-- A plan lies behind a pointer, in blocks from base on. -/
def FloorAt (base : Nat) (W : World) (v : Value) (nums : List (List Int)) (rooms : List Rc) : Prop :=
  ∃ fb cv rv, v = .pointer (some ⟨fb, 0, none⟩) ∧ base ≤ fb ∧ W.heap[fb]? = some (.cells #[cv, rv] 52 (0, 0)) ∧ GridIn (fun k => base ≤ k) W cv nums ∧ W.ownsRow base 68 4 rv rooms.length (flat rooms)
def wid (m : List (List Int)) : Nat := (m.getD 0 []).length
def numsOf (m : List (List Int)) : List (List Int) := (List.range m.length).map fun r => (List.range (wid m)).map fun c => vals m (wid m) r c
def roomsOf (m : List (List Int)) : List Rc := (run m (wid m) (m.length * wid m)).2
def area : List Rc → Int
  | [] => 0
  | x :: l => x.h * x.w + area l
/-- Whether a grid is a plan. -/
def fine (m : List (List Int)) : Bool :=
  decide (1 ≤ m.length ∧ m.length ≤ 6 ∧ 1 ≤ wid m ∧ wid m ≤ 6 ∧ (∀ l ∈ m, l.length = wid m) ∧ (roomsOf m).length ≤ 9 ∧ area (roomsOf m) = m.length * wid m)

/-- Behind blank: the floor has its cells. -/
def After (W : World) (fb fp : Nat) (H Wd : Nat) (m : List (List Int)) (w : World) : Prop :=
  ∃ o2 rv, w.heap[fb]? = some (.cells #[.slice (some ⟨o2, 0, none⟩) H H, rv] 52 (0, 0)) ∧ w.ownsRow W.heap.size 68 4 rv (run m Wd (H * Wd)).2.length (flat (run m Wd (H * Wd)).2) ∧ (∀ x ∈ (run m Wd (H * Wd)).2, x.ok) ∧
    GridIn (fun k => W.heap.size ≤ k) w (.slice (some ⟨o2, 0, none⟩) H H) ((List.range H).map fun r => (List.range Wd).map fun c => vals m Wd r c) ∧ w.cell? ⟨fp, 0, none⟩ = some (.pointer (some ⟨fb, 0, none⟩)) ∧ Below W.heap.size W w

theorem after_of {W W8 w1 : World} {K : Cx} {m : List (List Int)} {H Wd o2 : Nat} {T T0 : Nat → Prop} {vs : List Value} (hL : Lo K) (hWb : Below W.heap.size W W8) (hb8 : K.base = W8.heap.size) (hT0 : ∀ k, T0 k → k = K.fb ∨ k = K.mb) (hmin : W.heap.size ≤ K.fb ∧ W.heap.size ≤ K.mb)
    (h : Bl (CI K (.slice none 0 0) m Wd) H Wd (vals m Wd) W8 T0 o2 H w1 T vs) :
    After W K.fb K.fp H Wd m (w1.setCell ⟨K.fb, 0, none⟩ (.slice (some ⟨o2, 0, none⟩) H H)) := by
  obtain ⟨⟨rv, D, hF, hS, hG, hB, hT⟩, hout, hkp, htn⟩ := h
  have ks : KeepS (fun k => k = K.fb) w1 (w1.setCell ⟨K.fb, 0, none⟩ (.slice (some ⟨o2, 0, none⟩) H H)) := KeepS.setCell w1 _ _ (.inl rfl)
  have hTfb : T K.fb := by rw [hT]; exact .inl rfl
  have hle : W.heap.size ≤ K.base := by rw [hb8]; exact hWb.size
  refine ⟨o2, rv, blk_put hS.fb 0 _ rfl, own_keepV (own_less hS.row hle) ks (fun g e e2 => ?_), hS.ok, ?_, ks.cell ((blk_cell hF.fp 0).trans rfl) (fun e => hL.fp.2.2 e), ?_⟩
  · have := (hS.row.lt g e).1
    have := hL.fb.1
    have e3 : g = K.fb := e2
    omega
  · refine (hout.grid.keep ks (fun k h e => ?_)).go (fun k h hl => ⟨?_, rfl⟩)
    · have e3 : k = K.fb := e
      rw [e3] at h
      exact h.2 hTfb
    · exact Nat.le_trans hWb.size h.1
  · have k2 : KeepS (fun k => k = K.fb ∨ k = K.mb) W8 (w1.setCell ⟨K.fb, 0, none⟩ (.slice (some ⟨o2, 0, none⟩) H H)) := (hkp.mono (fun k _ h => hT0 k h)).trans (ks.mono (fun k _ h => .inl h))
    exact hWb.trans (k2.below (B := W.heap.size) hWb.size (fun k h => by rcases h with h | h <;> omega))

theorem meas (n J : Nat) (h : J < n) : n + 1 - (Go.RowKit.intOf (.int .i64 ((J : Int) + 1))).toNat < n + 1 - (Go.RowKit.intOf (.int .i64 (J : Int))).toNat := by
  simp only [Go.RowKit.intOf]
  omega
theorem area_take : ∀ (l : List Rc) (k : Nat) (y : Rc), l[k]? = some y → area (l.take (k + 1)) = area (l.take k) + y.h * y.w
  | [], k, y, h => by simp at h
  | x :: l, 0, y, h => by
    simp at h
    subst h
    simp [area]
  | x :: l, k + 1, y, h => by
    have := area_take l k y (by simpa using h)
    rw [List.take_succ_cons, List.take_succ_cons]
    simp only [area]
    rw [this]
    omega
theorem area_bound : ∀ (l : List Rc), (∀ x ∈ l, x.ok) → 0 ≤ area l ∧ area l ≤ 1000000 * l.length
  | [], _ => ⟨Int.le_refl _, by simp [area]⟩
  | x :: l, h => by
    have := area_bound l (fun y hy => h y (List.mem_cons_of_mem _ hy))
    obtain ⟨a, b, c, d, e, f⟩ := h x (List.mem_cons_self ..)
    have h1 : x.h * x.w ≤ 1000 * 1000 := Int.mul_le_mul (by omega) (by omega) d (by omega)
    have h2 : 0 ≤ x.h * x.w := Int.mul_nonneg c d
    simp only [area, List.length_cons]
    omega

set_option maxRecDepth 100000 in
set_option maxHeartbeats 8000000 in
theorem settled_main (m : List (List Int)) (P : Nat → Prop) (gv : Value) (W : World) (hg : GridIn P W gv m) (hP : ∀ k, P k → k < W.heap.size) (hwf : ∀ l ∈ m, ∀ x ∈ l, 0 ≤ x ∧ x ≤ 1000)
    (h1 : 1 ≤ m.length) (h2 : m.length ≤ 6) (h3 : 1 ≤ wid m) (h4 : wid m ≤ 6) (h5 : ∀ l ∈ m, l.length = wid m) :
    Calls Try.prog 37 #[gv] W fun e w' => ∃ v, e = .returned (.tuple #[v, .bool (fine m)]) ∧ (fine m = true → FloorAt W.heap.size w' v (numsOf m) (roomsOf m)) ∧ Below W.heap.size W w' := by
  have HG := Lib.hid hg
  obtain ⟨A, c, rfl, hc, hrows⟩ := hg
  obtain ⟨l0, hl0⟩ : ∃ l, m[0]? = some l := ⟨_, List.getElem?_eq_getElem (by omega)⟩
  obtain ⟨o, u, rfl, po, hcell, A2, c2, rfl, hc2, _⟩ := hrows 0 l0 hl0
  have hw0 : l0.length = wid m := by unfold wid; rw [List.getD_eq_getElem?_getD, hl0]; rfl
  rw [hw0] at hcell
  have ho := hP o po
  have HP := Lib.hid hP
  have HWF := Lib.hid hwf
  have H5 := Lib.hid h5
  have d1 : decide ((m.length : Int) < 1) = false := decide_eq_false (by omega)
  have d2 : decide ((6 : Int) < (m.length : Int)) = false := decide_eq_false (by omega)
  have d3 : decide ((wid m : Int) < 1) = false := decide_eq_false (by omega)
  have d4 : decide ((6 : Int) < (wid m : Int)) = false := decide_eq_false (by omega)
  have d5 : (0 : Int) < (m.length : Int) := by omega
  have x1 : (W.alloc (Obj.cells #[.slice (some ⟨o, 0, none⟩) m.length c] 49)).cell? ⟨o, 0, none⟩ = some (.slice A2 (wid m) c2) := ((below_alloc (Below.refl _ _) _).cell (World.block_lt_of_cell? W _ hcell)).trans hcell
  have hmf : ∀ (fn : Fn) (first cap : Array Value) (w : World), (Instr.makeFunc fn first cap).run Try.prog w = .ok (.func fn first cap) w := fun _ _ _ _ => rfl
  have hmm := @run_makeMap Try.prog
  generalize hwm : wid m = Wd at *
  generalize hH : m.length = H at *
  clear hl0 hrows po hP hwf h5 hw0
  go_enter Try.func37, Try.ntmps37
  go_wp2_with fail
  have hb2 : Below W.heap.size W ((W.alloc (Obj.cells #[.slice (some ⟨o, 0, none⟩) H c] 49)).alloc (Obj.cells #[.int .i64 (Wd : Nat)] 3)) := below_alloc (below_alloc (Below.refl _ _) _) _
  have hn2 : ((W.alloc (Obj.cells #[.slice (some ⟨o, 0, none⟩) H c] 49)).alloc (Obj.cells #[.int .i64 (Wd : Nat)] 3)).heap[W.heap.size + 1]? = some (Obj.cells #[.int .i64 (Wd : Nat)] 3 (0, 0)) := by
    have e : W.heap.size + 1 = (W.alloc (Obj.cells #[.slice (some ⟨o, 0, none⟩) H c] 49)).heap.size := by simp
    rw [e]
    exact new_at _ _
  have hn1 : ((W.alloc (Obj.cells #[.slice (some ⟨o, 0, none⟩) H c] 49)).alloc (Obj.cells #[.int .i64 (Wd : Nat)] 3)).heap[W.heap.size]? = some (Obj.cells #[.slice (some ⟨o, 0, none⟩) H c] 49 (0, 0)) := blk_alloc (new_at _ _) _
  refine (contains_calls P _ m (W.heap.size + 1) Wd (by omega) (fun l hl => by have := H5.out l hl; omega) _ (HG.out.go (fun k p hl => ⟨p, hb2.block k hl⟩)) ((blk_cell hn2 0).trans rfl) (by omega) false (by simp only [decide_eq_true H5.out]; rfl)).mono ?_
  rintro e w' ⟨rfl, rfl⟩
  have hs2 : ((W.alloc (Obj.cells #[.slice (some ⟨o, 0, none⟩) H c] 49)).alloc (Obj.cells #[.int .i64 (Wd : Nat)] 3)).heap.size = W.heap.size + 2 := by simp
  have HN1 := Lib.hid hn1
  have HN2 := Lib.hid hn2
  have HB2 := Lib.hid hb2
  have HS2 := Lib.hid hs2
  clear hn1 hn2 hb2 hs2 x1
  generalize (W.alloc (Obj.cells #[.slice (some ⟨o, 0, none⟩) H c] 49)).alloc (Obj.cells #[.int .i64 (Wd : Nat)] 3) = W2 at *
  have y1 : W2.cell? ⟨W.heap.size, 0, none⟩ = some (.slice (some ⟨o, 0, none⟩) H c) := (blk_cell HN1.out 0).trans rfl
  have y2 : W2.cell? ⟨W.heap.size + 1, 0, none⟩ = some (.int .i64 (Wd : Nat)) := (blk_cell HN2.out 0).trans rfl
  go_wp2_with fail
  obtain ⟨b0, b1, b2, b3, b4, b5⟩ := fourb W2 (Obj.cells #[.slice none 0 0, .slice none 0 0] 52) (Obj.cells #[.pointer (some ⟨W2.heap.size, 0, none⟩)] 34) (Obj.map #[] 0) (Obj.cells #[.map (some (W2.heap.size + 1 + 1))] 80)
  generalize hW8 : (((W2.alloc (Obj.cells #[.slice none 0 0, .slice none 0 0] 52)).alloc (Obj.cells #[.pointer (some ⟨W2.heap.size, 0, none⟩)] 34)).alloc (Obj.map #[] 0)).alloc (Obj.cells #[.map (some (W2.heap.size + 1 + 1))] 80) = W8 at *
  have hWb : Below W.heap.size W W8 := below_step HB2.out b4
  have hcb : W8.heap[W.heap.size]? = some (.cells #[.slice (some ⟨o, 0, none⟩) H c] 49 (0, 0)) := (b4.block _ (by have := HS2.out; omega)).trans HN1.out
  have hwb : W8.heap[W.heap.size + 1]? = some (.cells #[.int .i64 (Wd : Nat)] 3 (0, 0)) := (b4.block _ (by have := HS2.out; omega)).trans HN2.out
  obtain ⟨K, hK⟩ : ∃ K : Cx, K = ⟨W2.heap.size + 1 + 1, W2.heap.size + 1 + 1 + 1, W.heap.size, W2.heap.size, W2.heap.size + 1, W8.heap.size, .slice (some ⟨o, 0, none⟩) H c⟩ := ⟨_, rfl⟩
  have hL : Lo K := by subst hK; have := HS2.out; constructor <;> simp only <;> omega
  have hF : Fix K W8 := by subst hK; exact ⟨b3, hcb, b1⟩
  have hmade : W8.ownsMap Try.prog 3 (plainElem Try.prog 3) (W2.heap.size + 1 + 1) 0 (.map [] : DataW Unit) := by
    obtain ⟨es, clock, hb, F, hs, hD⟩ := World.ownsMap_made (H := Unit) W2 Try.prog 3 (plainElem Try.prog 3)
    have e := hb.symm.trans (new_at W2 _)
    injection e with e
    injection e with e1 e2
    subst e1
    subst e2
    exact ⟨#[], 0, b2, F, hs, hD⟩
  have hS : St K W8 (.slice none 0 0) (.slice none 0 0) (.map []) [] [] := by
    subst hK
    exact ⟨b0, IdxOk.nil, hmade, World.ownsRow_nil _ _ _ _, rfl, fun x hx => absurd hx (by simp)⟩
  have hPo : ∀ k, P k → k < W.heap.size := HP.out
  have hG8 : GridIn (fun k => k < K.base ∧ k ≠ K.fb ∧ k ≠ K.mb) W8 K.cv m := by
    subst hK
    exact HG.out.go (fun k p hl => ⟨⟨by have := hWb.size; simp only; omega, by have := HS2.out; simp only; omega, by have := HS2.out; simp only; omega⟩, hWb.block k hl⟩)
  have hI : CI K (.slice none 0 0) m Wd 0 W8.drew (Tn K (.slice none 0 0)) := ⟨_, _, ⟨hF.mp, hF.cb, hF.fp⟩, ⟨hS.fb, hS.idx, hS.map, hS.row, hS.len, hS.ok⟩, hG8.go (fun k p hl => ⟨p, rfl⟩), by subst hK; exact Nat.le_refl _, rfl⟩
  have hTold : Told 52 #[.pointer (some ⟨K.mp, 0, none⟩), .pointer (some ⟨K.cb, 0, none⟩), .pointer (some ⟨K.fp, 0, none⟩)] H Wd (vals m Wd) (CI K (.slice none 0 0) m Wd) W8.drew.heap.size := by
    have := told K hL (.slice none 0 0) m H Wd hH (by omega) (by omega) (by have := Nat.mul_le_mul h2 h4; omega) H5.out HWF.out
    subst hK
    exact this
  have BC := Lib.hid (blank_calls 52 #[.pointer (some ⟨K.mp, 0, none⟩), .pointer (some ⟨K.cb, 0, none⟩), .pointer (some ⟨K.fp, 0, none⟩)] H Wd (by omega) (by omega) (vals m Wd) (CI K (.slice none 0 0) m Wd) W8.drew (Tn K (.slice none 0 0)) hTold hI (enters_of Try.func52 rfl rfl))
  have AFT : Hid (∀ w1 o2 T vs, Bl (CI K (.slice none 0 0) m Wd) H Wd (vals m Wd) W8.drew (Tn K (.slice none 0 0)) o2 H w1 T vs → After W K.fb K.fp H Wd m (w1.setCell ⟨K.fb, 0, none⟩ (.slice (some ⟨o2, 0, none⟩) H H))) := Lib.hid (fun w1 o2 T vs h =>
    after_of (W8 := W8.drew) hL (below_drew1 hWb) (by subst hK; rfl) (fun k h => by rcases h with h | h | h; exact .inl h; exact .inr h; cases h) (by subst hK; have := HS2.out; constructor <;> simp only <;> omega) h)
  have z1 : W8.cell? ⟨W.heap.size, 0, none⟩ = some (.slice (some ⟨o, 0, none⟩) H c) := (blk_cell hcb 0).trans rfl
  have z2 : W8.cell? ⟨W.heap.size + 1, 0, none⟩ = some (.int .i64 (Wd : Nat)) := (blk_cell hwb 0).trans rfl
  have z3 : W8.cell? ⟨W2.heap.size + 1, 0, none⟩ = some (.pointer (some ⟨W2.heap.size, 0, none⟩)) := (blk_cell b1 0).trans rfl
  have HS8 := Lib.hid (show W8.heap.size = W2.heap.size + 4 from b5)
  subst hK
  simp only at BC AFT
  clear hTold hI hG8 hPo hS hmade hF hL hcb hwb hWb b0 b1 b2 b3 b4 b5 y1 y2 hW8
  have nf : ∀ k, k ≠ W2.heap.size → k ≠ W2.heap.size + 1 + 1 → ¬ Tn ⟨W2.heap.size + 1 + 1, W2.heap.size + 1 + 1 + 1, W.heap.size, W2.heap.size, W2.heap.size + 1, W8.heap.size, .slice (some ⟨o, 0, none⟩) H c⟩ (.slice none 0 0) k := fun k a b e => by
    rcases e with e | e | e
    · exact a e
    · exact b e
    · cases e
  have LFT : Hid (∀ w1 o2 T vs, Bl (CI ⟨W2.heap.size + 1 + 1, W2.heap.size + 1 + 1 + 1, W.heap.size, W2.heap.size, W2.heap.size + 1, W8.heap.size, .slice (some ⟨o, 0, none⟩) H c⟩ (.slice none 0 0) m Wd) H Wd (vals m Wd) W8.drew (Tn ⟨W2.heap.size + 1 + 1, W2.heap.size + 1 + 1 + 1, W.heap.size, W2.heap.size, W2.heap.size + 1, W8.heap.size, .slice (some ⟨o, 0, none⟩) H c⟩ (.slice none 0 0)) o2 H w1 T vs →
      w1.cell? ⟨W2.heap.size + 1, 0, none⟩ = some (.pointer (some ⟨W2.heap.size, 0, none⟩)) ∧ w1.cell? ⟨W.heap.size, 0, none⟩ = some (.slice (some ⟨o, 0, none⟩) H c) ∧ w1.cell? ⟨W.heap.size + 1, 0, none⟩ = some (.int .i64 (Wd : Nat)) ∧ ∃ rv, w1.heap[W2.heap.size]? = some (.cells #[.slice none 0 0, rv] 52 (0, 0))) := Lib.hid (fun w1 o2 T vs hbl => by
    have s2 := HS2.out
    obtain ⟨rv', D', hF', hS', _⟩ := hbl.inv
    exact ⟨hbl.kp.cell (p := ⟨W2.heap.size + 1, 0, none⟩) z3 (nf _ (by simp only; omega) (by simp only; omega)), hbl.kp.cell (p := ⟨W.heap.size, 0, none⟩) z1 (nf _ (by simp only; omega) (by simp only; omega)), hbl.kp.cell (p := ⟨W.heap.size + 1, 0, none⟩) z2 (nf _ (by simp only; omega) (by simp only; omega)), rv', hS'.fb⟩)
  clear nf
  go_region_held3 (fun w' => w'.cell? ⟨W2.heap.size + 1, 0, none⟩ = some (.pointer (some ⟨W2.heap.size, 0, none⟩)) ∧ w'.cell? ⟨W.heap.size, 0, none⟩ = some (.slice (some ⟨o, 0, none⟩) H c) ∧ w'.cell? ⟨W.heap.size + 1, 0, none⟩ = some (.int .i64 (Wd : Nat)))
    (first
      | exact ⟨z3, z1, z2⟩
      | exact ⟨m3, m1, m2⟩
      | exact ⟨cell_apart m3 (by have := HS2.out; omega), cell_apart m1 (by have := HS2.out; omega), cell_apart m2 (by have := HS2.out; omega)⟩)
    (first
      | (go_at_call 31; with_reducible refine (BC.out).mono ?_; rintro e w1 ⟨o2, T2, vs, rfl, hbl⟩; obtain ⟨m3, m1, m2, rv', hfb'⟩ := LFT.out w1 o2 T2 vs hbl; have zz := blk_frozen hfb' 0; have cc := (blk_cell hfb' 0).trans rfl))
  have haf := AFT.out w1 o2 T2 vs hbl
  obtain ⟨o3, rv, hfb9, hrow9, hok9, hgrid9, hfp9, hbw9⟩ := haf
  have HWM := Lib.hid hwm
  have HHH := Lib.hid hH
  have hrooms : roomsOf m = (run m Wd (H * Wd)).2 := by unfold roomsOf; rw [hwm, hH]
  have hnums : numsOf m = (List.range H).map fun r => (List.range Wd).map fun c => vals m Wd r c := by unfold numsOf; rw [hwm, hH]
  have hfine : fine m = decide ((run m Wd (H * Wd)).2.length ≤ 9 ∧ area (run m Wd (H * Wd)).2 = (H : Int) * (Wd : Int)) := by
    unfold fine
    rw [hrooms, hwm, hH]
    apply decide_eq_decide.2
    exact ⟨fun h => ⟨h.2.2.2.2.2.1, h.2.2.2.2.2.2⟩, fun h => ⟨h1, h2, h3, h4, H5.out, h.1, h.2⟩⟩
  rw [← hrooms] at hrow9 hok9 hfine
  rw [← hnums] at hgrid9
  generalize hR : roomsOf m = rooms at *
  obtain ⟨A9, cap9, rfl⟩ : ∃ A c, rv = .slice A rooms.length c := by
    obtain ⟨_, ⟨e, e2⟩ | ⟨g', cap', cur, e, _⟩⟩ := hrow9
    · exact ⟨none, 0, by rw [e2]; exact e⟩
    · exact ⟨_, cap', e⟩
  have u1 := hfp9
  have HRR := Lib.hid hR
  have HROW := Lib.hid hrow9
  have HOK := Lib.hid hok9
  have HGRID := Lib.hid hgrid9
  have HFB := Lib.hid hfb9
  have HBW := Lib.hid hbw9
  have HFINE := Lib.hid hfine
  have u3 : (w1.setCell ⟨W2.heap.size, 0, none⟩ (.slice (some ⟨o2, 0, none⟩) H H)).cell? ⟨W2.heap.size, 1, none⟩ = some (.slice A9 rooms.length cap9) := (blk_cell hfb9 1).trans rfl
  have u4 : (w1.setCell ⟨W2.heap.size, 0, none⟩ (.slice (some ⟨o2, 0, none⟩) H H)).cell? ⟨W2.heap.size, 0, none⟩ = some (.slice (some ⟨o3, 0, none⟩) H H) := (blk_cell hfb9 0).trans rfl
  clear hbl m1 m2 m3 z1 z2 z3 hfb' zz cc hrow9 hok9 hgrid9 hfb9 hbw9 hfine hfp9 hwm hH hrooms hnums hR
  generalize w1.setCell ⟨W2.heap.size, 0, none⟩ (.slice (some ⟨o2, 0, none⟩) H H) = w9 at *
  by_cases h9 : 9 < rooms.length
  · have d6 : decide ((9 : Int) < (rooms.length : Int)) = true := decide_eq_true (by omega)
    have hff : fine m = false := by rw [HFINE.out]; exact decide_eq_false (fun h => by have := h.1; omega)
    have HFF := Lib.hid hff
    clear hff
    go_wp2
    go_ret2
    exact ⟨_, (by rw [HFF.out]; rfl), (fun h => by rw [HFF.out] at h; cases h), HBW.out⟩
  · have d6 : decide ((9 : Int) < (rooms.length : Int)) = false := decide_eq_false (by omega)
    have HN9 := Lib.hid h9
    have hn9 : rooms.length ≤ 9 := by omega
    clear h9
    go_wp2_with fail
    go_loopw [7, 61] (fun sv kv wr => ∃ (J : Nat) (wl : World), wl = wr ∧ J ≤ rooms.length ∧ kv = .int .i64 (J : Nat) ∧ sv = .int .i64 (area (rooms.take J)) ∧ Below w9.heap.size w9 wl) (fun _ kv _ => rooms.length + 1 - (Go.RowKit.intOf kv).toNat)
    case atStart => exact ⟨0, w9, rfl, Nat.zero_le _, rfl, rfl, Below.refl _ _⟩
    case round =>
      obtain ⟨J, wl, rfl, hJ, rfl, rfl, hb⟩ := hrel
      have HB := Lib.hid hb
      have v1 := (hb.cell (World.block_lt_of_cell? w9 _ u1)).trans u1
      have v3 := (hb.cell (World.block_lt_of_cell? w9 _ u3)).trans u3
      have v4 := (hb.cell (World.block_lt_of_cell? w9 _ u4)).trans u4
      have HJ := Lib.hid hJ
      clear hb hJ
      by_cases hlt : J < rooms.length
      · have HLT := Lib.hid hlt
        obtain ⟨gr, rfl⟩ : ∃ gr, A9 = some ⟨gr, 0, none⟩ := by
          obtain ⟨_, ⟨e, e2⟩ | ⟨g', cap', cur, e, _⟩⟩ := HROW.out
          · omega
          · injection e with e _ _
            exact ⟨g', e⟩
        obtain ⟨y, hy⟩ : ∃ y, rooms[J]? = some y := ⟨_, List.getElem?_eq_getElem hlt⟩
        have hyo : y.ok := HOK.out y (List.mem_of_getElem? hy)
        have hc4 : ∀ j, j < 4 → wl.cell? ⟨gr, J * 4 + j, none⟩ = y.cells[j]? := fun j hj => by
          have e := HROW.out.cellAt (J * 4 + j) (by omega)
          have e2 := flat_get rooms J y j hy hj
          have e3 : w9.cell? ⟨gr, J * 4 + j, none⟩ = y.cells[j]? := e.trans e2
          have e4 : ∃ u, y.cells[j]? = some u := ⟨_, List.getElem?_eq_getElem (by simp [Rc.cells]; omega)⟩
          obtain ⟨u, e4⟩ := e4
          rw [e4] at e3 ⊢
          exact (HB.out.cell (World.block_lt_of_cell? w9 _ e3)).trans e3
        have e0 : wl.cell? ⟨gr, J * 4, none⟩ = some (.int .i64 y.r) := hc4 0 (by omega)
        have e1 : wl.cell? ⟨gr, J * 4 + 1, none⟩ = some (.int .i64 y.c) := hc4 1 (by omega)
        have e2 : wl.cell? ⟨gr, J * 4 + 2, none⟩ = some (.int .i64 y.h) := hc4 2 (by omega)
        have e3 : wl.cell? ⟨gr, J * 4 + 3, none⟩ = some (.int .i64 y.w) := hc4 3 (by omega)
        have AC : Hid (∀ W', Calls Try.prog 54 #[.agg #[.int .i64 y.r, .int .i64 y.c, .int .i64 y.h, .int .i64 y.w]] W' fun e w' => e = .returned (.int .i64 (y.h * y.w)) ∧ Below W'.heap.size W' w') := Lib.hid (fun W' => area_calls y hyo W')
        have hat : area (rooms.take (J + 1)) = area (rooms.take J) + y.h * y.w := area_take rooms J y hy
        have hbd := area_bound (rooms.take (J + 1)) (fun x hx => HOK.out x (List.mem_of_mem_take hx))
        have hl9 : (rooms.take (J + 1)).length ≤ 9 := Nat.le_trans (List.length_take_le' _ _) hn9
        have hwr : IntKind.i64.wrap (area (rooms.take J) + y.h * y.w) = area (rooms.take J) + y.h * y.w := IntWalk.i64_in _ (by rw [← hat]; omega)
        have q1 : (J : Int) < (rooms.length : Int) := by omega
        have q2 : (0 : Int) ≤ (J : Int) := by omega
        have HAT := Lib.hid hat
        clear hy hyo hc4 hat hbd hl9 hlt
        generalize area (rooms.take J) = sm at *
        generalize hpr : y.h * y.w = pr at *
        clear hpr
        go_wp2_with fail
        refine (AC.out _).mono ?_
        rintro e w3 ⟨rfl, hb3⟩
        have HB3 := Lib.hid (below_step (below_alloc HB.out _) hb3)
        clear hb3
        go_wp2_with fail
        go_roundw
        case rel => exact ⟨J + 1, w3, rfl, HLT.out, by push_cast; rfl, by rw [HAT.out], HB3.out⟩
        case measure => exact meas _ _ HLT.out
      · obtain rfl : J = rooms.length := by have := HJ.out; omega
        rw [List.take_length]
        have hbd := area_bound rooms HOK.out
        have hHW : (H : Int) * (Wd : Int) ≤ 36 := by have := Nat.mul_le_mul h2 h4; exact_mod_cast this
        have hHW0 : 0 ≤ (H : Int) * (Wd : Int) := Int.mul_nonneg (by omega) (by omega)
        have hmw : IntKind.i64.wrap ((H : Int) * (Wd : Int)) = (H : Int) * (Wd : Int) := IntWalk.i64_in _ (by omega)
        have heq : (area rooms == (H : Int) * (Wd : Int)) = fine m := by
          rw [HFINE.out]
          by_cases e : area rooms = (H : Int) * (Wd : Int)
          · rw [beq_iff_eq.mpr e, decide_eq_true ⟨by have := HN9.out; omega, e⟩]
          · rw [beq_eq_false_iff_ne.mpr e, decide_eq_false (fun h => e h.2)]
        obtain ⟨Ao, co, hgo, _, hgr⟩ := HGRID.out
        have hnl : (numsOf m)[0]? = some ((List.range Wd).map fun c => vals m Wd 0 c) := by
          unfold numsOf
          rw [HWM.out, HHH.out, List.getElem?_map, List.getElem?_range (by omega)]
          rfl
        obtain ⟨g0, uu, hAo, _, hc0, Ar, cr, rfl, _⟩ := hgr 0 _ hnl
        have hg0 : g0 = o3 := by
          rw [hAo] at hgo
          injection hgo with hgo
          injection hgo with hgo
          injection hgo with hgo
          exact hgo.symm
        subst hg0
        rw [List.length_map, List.length_range] at hc0
        have v5 := (HB.out.cell (World.block_lt_of_cell? w9 _ hc0)).trans hc0
        have HC : Hid (∀ n, Calls Try.prog 55 #[.pointer (some ⟨W2.heap.size, 0, none⟩)] (wl.drewN n) fun e w' => e = .returned (.int .i64 (H : Nat)) ∧ w' = wl.drewN n) := Lib.hid (fun n => high_calls _ _ _ _ (wl.drewN n) v4)
        have WC : Hid (∀ n, Calls Try.prog 56 #[.pointer (some ⟨W2.heap.size, 0, none⟩)] (wl.drewN n) fun e w' => e = .returned (.int .i64 (Wd : Nat)) ∧ w' = wl.drewN n) := Lib.hid (fun n => wide_calls _ _ _ _ _ _ _ (wl.drewN n) v4 (by omega) v5)
        have HEQ := Lib.hid heq
        clear hbd hHW hHW0 hgo hgr hnl hAo hc0 u1 u3 u4
        generalize hfm : fine m = fm at *
        go_wp2_with fail
        go_quiet (first | (go_at_call 55; with_reducible exact Calls.quiet_of_same (HC.out _)) | (go_at_call 56; with_reducible exact Calls.quiet_of_same (WC.out _)))
        go_wp2
        go_ret2
        refine ⟨_, by rw [hfm]; rfl, fun _ => ?_, pw_below_drewN (below_step HBW.out HB.out) _⟩
        exact ⟨W2.heap.size, _, _, rfl, by have := HS2.out; omega, (pw_below_drewN HB.out _).block _ (blk_lt HFB.out) |>.trans HFB.out, HGRID.out.go (fun k p hl => ⟨p, (pw_below_drewN HB.out _).block k hl⟩), (by rw [HRR.out]; exact own_keepV HROW.out (KeepS.of_below (fun _ => False) (pw_below_drewN HB.out _)) (fun _ _ e => e))⟩
end Go.Proofs.Ytjbjpkphepfldaa.S
/- settled, whatever the grid. -/
namespace Go.Proofs.Ytjbjpkphepfldaa.S
open Go.RowKit Go.Maps Go.Proofs.YtjbjpkphepfldaaW.PrintWords Go.Proofs.YtjbjpkphepfldaaW.PrintMore
set_option linter.unusedVariables false
set_option linter.unusedSimpArgs false

/-- What settled returns. -/
def SetPost (m : List (List Int)) (W : World) (e : Ending) (w' : World) : Prop :=
  ∃ v, e = .returned (.tuple #[v, .bool (fine m)]) ∧ (fine m = true → FloorAt W.heap.size w' v (numsOf m) (roomsOf m)) ∧ Below W.heap.size W w'

theorem setpost_bad {m : List (List Int)} {W w' : World} {v : Value} (hf : fine m = false) (hb : Below W.heap.size W w') : SetPost m W (.returned (.tuple #[v, .bool false])) w' :=
  ⟨v, (by rw [hf]), (fun h => by rw [hf] at h; cases h), hb⟩

set_option maxRecDepth 100000 in
set_option maxHeartbeats 4000000 in
theorem settled_calls (m : List (List Int)) (P : Nat → Prop) (gv : Value) (W : World) (hg : GridIn P W gv m) (hP : ∀ k, P k → k < W.heap.size) (hwf : ∀ l ∈ m, ∀ x ∈ l, 0 ≤ x ∧ x ≤ 1000) (hml : ∀ l ∈ m, l.length ≤ 4000000) :
    Calls Try.prog 37 #[gv] W (SetPost m W) := by
  have hmf : ∀ (fn : Fn) (first cap : Array Value) (w : World), (Instr.makeFunc fn first cap).run Try.prog w = .ok (.func fn first cap) w := fun _ _ _ _ => rfl
  have HG := Lib.hid hg
  by_cases h1 : m.length < 1
  · have hf : fine m = false := decide_eq_false (fun h => by omega)
    obtain ⟨A, c, rfl, hc, hrows⟩ := hg
    have HF := Lib.hid hf
    have d1 : decide ((m.length : Int) < 1) = true := decide_eq_true (by omega)
    generalize m.length = H at *
    clear hrows hf hwf hml hP h1 hc
    go_enter Try.func37, Try.ntmps37
    go_wp2
    go_ret2
    exact setpost_bad HF.out (below_alloc (Below.refl _ _) _)
  by_cases h2 : 6 < m.length
  · have hf : fine m = false := decide_eq_false (fun h => by omega)
    obtain ⟨A, c, rfl, hc, hrows⟩ := hg
    have HF := Lib.hid hf
    have d1 : decide ((m.length : Int) < 1) = false := decide_eq_false (by omega)
    have d2 : decide ((6 : Int) < (m.length : Int)) = true := decide_eq_true (by omega)
    generalize m.length = H at *
    clear hrows hf hwf hml hP h1 h2 hc
    go_enter Try.func37, Try.ntmps37
    go_wp2
    go_ret2
    exact setpost_bad HF.out (below_alloc (Below.refl _ _) _)
  by_cases h3 : 1 ≤ wid m ∧ wid m ≤ 6 ∧ ∀ l ∈ m, l.length = wid m
  · exact settled_main m P gv W hg hP hwf (by omega) (by omega) h3.1 h3.2.1 h3.2.2
  have hf : fine m = false := decide_eq_false (fun h => h3 ⟨h.2.2.1, h.2.2.2.1, h.2.2.2.2.1⟩)
  obtain ⟨A, c, rfl, hc, hrows⟩ := hg
  obtain ⟨l0, hl0⟩ : ∃ l, m[0]? = some l := ⟨_, List.getElem?_eq_getElem (by omega)⟩
  obtain ⟨o, u, rfl, po, hcell, A2, c2, rfl, hc2, _⟩ := hrows 0 l0 hl0
  have hw0 : l0.length = wid m := by unfold wid; rw [List.getD_eq_getElem?_getD, hl0]; rfl
  have hwm : wid m ≤ 4000000 := by rw [← hw0]; exact hml l0 (List.mem_of_getElem? hl0)
  rw [hw0] at hcell
  have HF := Lib.hid hf
  have H3 := Lib.hid h3
  have HML := Lib.hid hml
  have d1 : decide ((m.length : Int) < 1) = false := decide_eq_false (by omega)
  have d2 : decide ((6 : Int) < (m.length : Int)) = false := decide_eq_false (by omega)
  have d5 : (0 : Int) < (m.length : Int) := by omega
  have x1 : (W.alloc (Obj.cells #[.slice (some ⟨o, 0, none⟩) m.length c] 49)).cell? ⟨o, 0, none⟩ = some (.slice A2 (wid m) c2) := ((below_alloc (Below.refl _ _) _).cell (World.block_lt_of_cell? W _ hcell)).trans hcell
  by_cases h4 : wid m < 1
  · have d3 : decide ((wid m : Int) < 1) = true := decide_eq_true (by omega)
    generalize wid m = Wd at *
    generalize m.length = H at *
    clear hrows hf hwf hml hP h1 h2 h3 h4 hc hw0 hwm hl0 po
    go_enter Try.func37, Try.ntmps37
    go_wp2
    go_ret2
    exact setpost_bad HF.out (below_alloc (Below.refl _ _) _)
  have d3 : decide ((wid m : Int) < 1) = false := decide_eq_false (by omega)
  by_cases h5 : 6 < wid m
  · have d4 : decide ((6 : Int) < (wid m : Int)) = true := decide_eq_true (by omega)
    generalize wid m = Wd at *
    generalize m.length = H at *
    clear hrows hf hwf hml hP h1 h2 h3 h4 h5 hc hw0 hwm hl0 po
    go_enter Try.func37, Try.ntmps37
    go_wp2
    go_ret2
    exact setpost_bad HF.out (below_alloc (Below.refl _ _) _)
  have d4 : decide ((6 : Int) < (wid m : Int)) = false := decide_eq_false (by omega)
  have hno : ¬ ∀ l ∈ m, l.length = wid m := fun h => h3 ⟨by omega, by omega, h⟩
  have HNO := Lib.hid hno
  generalize hwid : wid m = Wd at *
  generalize hlen : m.length = H at *
  clear hrows hf hwf hml hP h3 hc hw0 hl0 po hno
  go_enter Try.func37, Try.ntmps37
  go_wp2_with fail
  have hb2 : Below W.heap.size W ((W.alloc (Obj.cells #[.slice (some ⟨o, 0, none⟩) H c] 49)).alloc (Obj.cells #[.int .i64 (Wd : Nat)] 3)) := below_alloc (below_alloc (Below.refl _ _) _) _
  have hn2 : ((W.alloc (Obj.cells #[.slice (some ⟨o, 0, none⟩) H c] 49)).alloc (Obj.cells #[.int .i64 (Wd : Nat)] 3)).heap[W.heap.size + 1]? = some (Obj.cells #[.int .i64 (Wd : Nat)] 3 (0, 0)) := by
    have e : W.heap.size + 1 = (W.alloc (Obj.cells #[.slice (some ⟨o, 0, none⟩) H c] 49)).heap.size := by simp
    rw [e]
    exact new_at _ _
  refine (contains_calls P _ m (W.heap.size + 1) Wd (by omega) HML.out _ (HG.out.go (fun k p hl => ⟨p, hb2.block k hl⟩)) ((blk_cell hn2 0).trans rfl) (by omega) true (by rw [decide_eq_false HNO.out]; rfl)).mono ?_
  rintro e w' ⟨rfl, rfl⟩
  have HB2 := Lib.hid hb2
  clear hb2 hn2
  go_wp2
  go_ret2
  exact setpost_bad HF.out HB2.out
end Go.Proofs.Ytjbjpkphepfldaa.S

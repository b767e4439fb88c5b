import Derived.Test.YtpilppppkjenaaaTwo
import Derived.Lib.ConvBytes
import Derived.Deep.AppendLies
import Derived.Lib.Strings
import Derived.Lib.Builder
import Derived.RegionTactic
import Derived.ChangeAlike
import Derived.Lib.UnsafeStr
/- A plan is read from texts of small letters. -/
namespace Go.Proofs.Ytpilppppkjenaaa.S
open Go.RowKit Go.Maps Go.Proofs.YtpilppppkjenaaaW.PrintWords Go.Proofs.YtpilppppkjenaaaW.PrintMore
set_option linter.unusedVariables false
set_option linter.unusedSimpArgs false

/-- The bytes of a text as numbers. -/
def bnum (s : ByteArray) : List Int := s.data.toList.map fun b => (b.toNat : Int)
/-- A small letter. -/
def letter (x : Int) : Bool := decide (97 ≤ x ∧ x ≤ 122)
def lets (s : ByteArray) : Bool := (bnum s).all letter
/-- Whether texts are a plan, whatever the letters' order. -/
def rfine (ps : List ByteArray) : Bool := ps.all lets && fine (ps.map bnum)
/-- What read returns. -/
def ReadPost (ps : List ByteArray) (W : World) (e : Ending) (w' : World) : Prop :=
  ∃ v, e = .returned (.tuple #[v, .bool (rfine ps)]) ∧ (rfine ps = true → FloorAt W.heap.size w' v (numsOf (ps.map bnum)) (roomsOf (ps.map bnum))) ∧ Below W.heap.size W w'

/-- A row that read has made. -/
def RowOwn (base : Nat) (w : World) (v : Value) (l : List Int) : Prop := w.ownsRow base 3 1 v l.length (l.map (Value.int .i64)) ∧ ∃ g c, v = .slice (some ⟨g, 0, none⟩) l.length c
theorem RowOwn.below {base : Nat} {w w' : World} {v : Value} {l : List Int} (h : RowOwn base w v l) (hb : Below w.heap.size w w') : RowOwn base w' v l :=
  ⟨own_keepV h.1 (KeepS.of_below (fun _ => False) hb) (fun _ _ e => e), h.2⟩
theorem RowOwn.row {base : Nat} {w : World} {v : Value} {l : List Int} (h : RowOwn base w v l) : RowIn (fun k => base ≤ k) w v l := by
  obtain ⟨ho, g, c, rfl⟩ := h
  have hc : l.length ≤ c := by
    obtain ⟨_, ⟨e, _⟩ | ⟨g', cap', cur, e, _, _, h2, _⟩⟩ := ho
    · cases e
    · injection e with _ _ e
      omega
  refine ⟨_, c, rfl, hc, fun i x hx => ⟨g, rfl, (ho.lt g rfl).1, ?_⟩⟩
  have hi : i < l.length := (List.getElem?_eq_some_iff.1 hx).1
  rw [ho.cellAt i (by omega), List.getElem?_map, hx]
  rfl
/-- The rows that read has made so far. -/
structure Rws (base : Nat) (w : World) (v : Value) (m : List (List Int)) (vs : List Value) : Prop where
  own : w.ownsRow base 45 1 v m.length vs
  shape : ∃ g c, v = .slice (some ⟨g, 0, none⟩) m.length c
  rows : ∀ (i : Nat) (l : List Int), m[i]? = some l → ∃ u, vs[i]? = some u ∧ RowOwn base w u l
theorem Rws.grid {base : Nat} {w : World} {v : Value} {m : List (List Int)} {vs : List Value} (h : Rws base w v m vs) : GridIn (fun k => base ≤ k) w v m := by
  obtain ⟨ho, ⟨g, c, rfl⟩, hr⟩ := h
  have hc : m.length ≤ c := by
    obtain ⟨_, ⟨e, _⟩ | ⟨g', cap', cur, e, _, _, h2, _⟩⟩ := ho
    · cases e
    · injection e with _ _ e
      omega
  refine ⟨_, c, rfl, hc, fun i l hl => ?_⟩
  obtain ⟨u, hu, hro⟩ := hr i l hl
  have hi : i < m.length := (List.getElem?_eq_some_iff.1 hl).1
  exact ⟨g, u, rfl, (ho.lt g rfl).1, (ho.cellAt i (by omega)).trans hu, hro.row⟩
theorem Rws.below {base : Nat} {w w' : World} {v : Value} {m : List (List Int)} {vs : List Value} (h : Rws base w v m vs) (hb : Below w.heap.size w w') : Rws base w' v m vs :=
  ⟨own_keepV h.own (KeepS.of_below (fun _ => False) hb) (fun _ _ e => e), h.shape, fun i l hl => by
    obtain ⟨u, hu, hro⟩ := h.rows i l hl
    exact ⟨u, hu, hro.below hb⟩⟩
theorem own_heap {w : World} {base g n c size : Nat} {e : TypeId} {xs : List Value} (h : w.ownsRow base e size (.slice (some ⟨g, 0, none⟩) n c) n xs) : ∃ cur, w.heap[g]? = some (.cells cur e (0, 0)) := by
  obtain ⟨hl, ⟨h, _⟩ | ⟨g', cap, cur, h, hb, hh, _⟩⟩ := h
  · cases h
  · injection h with hA _ _
    injection hA with hA
    injection hA with hA _
    subst hA
    exact ⟨cur, hh⟩
theorem rows_snoc {base : Nat} {w w' : World} {g c g2 c2 : Nat} {m : List (List Int)} {vs : List Value} {u : Value} {l : List Int} (h : Rws base w (.slice (some ⟨g, 0, none⟩) m.length c) m vs) (hl : RowOwn base w u l)
    (hg : w.grownBy w' (some g)) (ho : w'.ownsRow base 45 1 (.slice (some ⟨g2, 0, none⟩) (m.length + 1) c2) (m.length + 1) (vs ++ [u])) : Rws base w' (.slice (some ⟨g2, 0, none⟩) (m ++ [l]).length c2) (m ++ [l]) (vs ++ [u]) := by
  have hk : KeepS (fun k => k = g) w w' := KeepS.grown hg rfl
  obtain ⟨cur, hcur⟩ := own_heap h.own
  have key : ∀ v l, RowOwn base w v l → RowOwn base w' v l := fun v l hr => by
    obtain ⟨hro, g3, c3, rfl⟩ := hr
    obtain ⟨cur3, hcur3⟩ := own_heap hro
    refine ⟨own_keepV hro hk (fun k e e2 => ?_), g3, c3, rfl⟩
    have e3 : g3 = k := Option.some.inj e
    have e4 : k = g := e2
    rw [e3, e4, hcur] at hcur3
    injection hcur3 with hcur3
    injection hcur3 with _ ht _
    exact absurd ht (by decide)
  have hvl : vs.length = m.length := by have := h.own.1; omega
  refine ⟨by rw [List.length_append]; exact ho, ⟨g2, c2, rfl⟩, fun i l' hi => ?_⟩
  by_cases e : i < m.length
  · rw [List.getElem?_append_left e] at hi
    obtain ⟨v, hv, hr⟩ := h.rows i l' hi
    exact ⟨v, by rw [List.getElem?_append_left (by omega)]; exact hv, key _ _ hr⟩
  · have hlt : i < (m ++ [l]).length := (List.getElem?_eq_some_iff.1 hi).1
    rw [List.length_append] at hlt
    obtain rfl : i = m.length := by simp only [List.length_cons, List.length_nil] at hlt; omega
    rw [List.getElem?_append_right (Nat.le_refl _)] at hi
    simp at hi
    subst hi
    exact ⟨u, by rw [← hvl, List.getElem?_append_right (Nat.le_refl _)]; simp, key _ _ hl⟩
theorem rows_nil (w : World) : Rws w.heap.size (w.alloc (Obj.cells #[] 45)) (.slice (some ⟨w.heap.size, 0, none⟩) 0 0) [] [] :=
  ⟨⟨rfl, .inr ⟨w.heap.size, 0, #[], rfl, Nat.le_refl _, new_at w _, Nat.le_refl _, by decide, rfl, rfl⟩⟩, ⟨_, _, rfl⟩, fun i l h => by simp at h⟩
theorem row_nil (w : World) (base : Nat) (hb : base ≤ w.heap.size) : RowOwn base (w.alloc (Obj.cells #[] 3)) (.slice (some ⟨w.heap.size, 0, none⟩) 0 0) [] :=
  ⟨⟨rfl, .inr ⟨w.heap.size, 0, #[], rfl, hb, new_at w _, Nat.le_refl _, by decide, rfl, rfl⟩⟩, _, _, rfl⟩
end Go.Proofs.Ytpilppppkjenaaa.S
/- A plan is read: the walk. -/
namespace Go.Proofs.Ytpilppppkjenaaa.S
open Go.RowKit Go.Maps Go.Proofs.YtpilppppkjenaaaW.PrintWords Go.Proofs.YtpilppppkjenaaaW.PrintMore
set_option linter.unusedVariables false
set_option linter.unusedSimpArgs false

/-- Texts that can be read. -/
def StrIn (W : World) (A : Option Addr) (ps : List ByteArray) : Prop := ∀ (i : Nat) (s : ByteArray), ps[i]? = some s → ∃ ad, A = some ad ∧ W.cell? (ad.add i) = some (.string s)

theorem bytes_facts (w : World) (s : ByteArray) : Below w.heap.size w (Lib.bytesWorld w 5 s) ∧ (∃ cur fr, (Lib.bytesWorld w 5 s).heap[w.heap.size]? = some (.cells cur 5 fr)) ∧
    ∀ (j : Nat) (x : Int), (bnum s)[j]? = some x → (Lib.bytesWorld w 5 s).cell? ⟨w.heap.size, j, none⟩ = some (.int .u8 x) := by
  refine ⟨⟨rfl, rfl, rfl, by rw [Lib.bytesWorld_size]; omega, fun k hk => Lib.bytesWorld_at_old w 5 s k hk⟩, ⟨_, _, Lib.bytesWorld_at_new w 5 s⟩, fun j x hx => ?_⟩
  unfold bnum at hx
  rw [List.getElem?_map] at hx
  obtain ⟨b, hb, rfl⟩ := Option.map_eq_some_iff.1 hx
  have hj : j < s.data.toList.length := (List.getElem?_eq_some_iff.1 hb).1
  rw [Lib.bytesWorld_cell w 5 s j (by rw [Lib.size_eq]; exact hj), List.getD_eq_getElem?_getD, hb]
  rfl
theorem bnum_len (s : ByteArray) : (bnum s).length = s.size := by unfold bnum; rw [List.length_map, ← Lib.size_eq]

theorem row_snoc {base : Nat} {w w' : World} {g c g2 c2 : Nat} {l : List Int} {x : Int}
    (ho : w'.ownsRow base 3 1 (.slice (some ⟨g2, 0, none⟩) (l.length + 1) c2) (l.length + 1) (l.map (Value.int .i64) ++ [.int .i64 x])) : RowOwn base w' (.slice (some ⟨g2, 0, none⟩) (l.length + 1) c2) (l ++ [x]) := by
  have e : (l ++ [x]).length = l.length + 1 := by simp
  refine ⟨?_, g2, c2, by rw [e]⟩
  rw [e, List.map_append]
  exact ho

theorem readpost_bad {ps : List ByteArray} {W w' : World} {v : Value} (hf : rfine ps = false) (hb : Below W.heap.size W w') : ReadPost ps W (.returned (.tuple #[v, .bool false])) w' :=
  ⟨v, (by rw [hf]), (fun h => by rw [hf] at h; cases h), hb⟩

theorem FloorAt.mono {base base' : Nat} {w : World} {v : Value} {nums : List (List Int)} {rooms : List Rc} (h : FloorAt base w v nums rooms) (hb : base' ≤ base) : FloorAt base' w v nums rooms := by
  obtain ⟨fb, cv, rv, e, h1, h2, h3, h4⟩ := h
  exact ⟨fb, cv, rv, e, Nat.le_trans hb h1, h2, h3.go (fun k p _ => ⟨Nat.le_trans hb p, rfl⟩), own_less h4 hb⟩

set_option maxRecDepth 100000 in
set_option maxHeartbeats 8000000 in
theorem read_calls (ps : List ByteArray) (A : Option Addr) (c : Nat) (W : World) (hp : StrIn W A ps) (hn : ps.length ≤ 4000000) (hs : ∀ s ∈ ps, s.size ≤ 4000000) :
    Calls Try.prog 42 #[.slice A ps.length c] W (ReadPost ps W) := by
  obtain ⟨i3, hi3, hz30, hz31, hz32⟩ := info_parts info3
  obtain ⟨i24, hi24, hz0, hz1, hz2⟩ := info_parts info24
  have HP := Lib.hid hp
  have HS := Lib.hid hs
  clear hp hs
  go_enter Try.func42, Try.ntmps42
  go_wp2_with fail
  go_loopw [4, 13] (fun cv kv wr => ∃ (J : Nat) (wl : World) (vs : List Value), wl = wr ∧ J ≤ ps.length ∧ kv = .int .i64 (J : Nat) ∧ Hid (Rws W.heap.size wl cv ((ps.take J).map bnum) vs) ∧ Hid (Below W.heap.size W wl) ∧ Hid (∀ (i : Nat) (s : ByteArray), i < J → ps[i]? = some s → lets s = true)) (fun _ kv _ => ps.length + 1 - (Go.RowKit.intOf kv).toNat)
  case atStart => exact ⟨0, _, [], rfl, Nat.zero_le _, rfl, rows_nil W, below_alloc (Below.refl _ _) _, fun i s h => absurd h (by omega)⟩
  case round =>
    obtain ⟨J, wl, vs, rfl, hJ, rfl, HR, HB, HL⟩ := hrel
    by_cases hlt : J < ps.length
    · obtain ⟨s, hsj⟩ : ∃ s, ps[J]? = some s := ⟨_, List.getElem?_eq_getElem hlt⟩
      obtain ⟨ad, rfl, hcell⟩ := HP.out J s hsj
      have hss : s.size ≤ 4000000 := HS.out s (List.mem_of_getElem? hsj)
      have x1 := (HB.out.cell (World.block_lt_of_cell? W _ hcell)).trans hcell
      have HSJ := Lib.hid hsj
      have q1 : (J : Int) < (ps.length : Int) := by omega
      have q2 : (0 : Int) ≤ (J : Int) := by omega
      have HLT := Lib.hid hlt
      have hcv : ∀ w, (convert 9 38 (.string s)).run Try.prog w = .ok (.slice (some ⟨w.heap.size, 0, none⟩) s.size (grownCap w s.size 0 5)) (Lib.bytesWorld w 5 s) := fun w => Lib.run_convert_string_bytes w 9 38 5 s Try.underlying9 Try.underlying38 Try.underlying5
      clear hcell hsj hlt
      obtain ⟨gc, cc, rfl⟩ := HR.out.shape
      have hlen : ((ps.take J).map bnum).length = J := by rw [List.length_map, List.length_take]; omega
      rw [hlen]
      have HLEN := Lib.hid hlen
      clear hlen
      go_wp2_with fail
      have bf := bytes_facts (wl.alloc (Obj.cells #[] 3)) s
      have e1 : (wl.alloc (Obj.cells #[] 3)).heap.size = wl.heap.size + 1 := by simp
      rw [e1] at bf
      obtain ⟨hb6, ⟨cur6, fr6, hh6⟩, hc6⟩ := bf
      have HB6 : Hid (Below wl.heap.size wl (Lib.bytesWorld (wl.alloc (Obj.cells #[] 3)) 5 s)) := Lib.hid ((below_alloc (Below.refl _ wl) (Obj.cells #[] 3)).trans ⟨hb6.os, hb6.tape, hb6.output, hb6.size, fun k hk => hb6.block k (by omega)⟩)
      have HRN : Hid (RowOwn wl.heap.size (Lib.bytesWorld (wl.alloc (Obj.cells #[] 3)) 5 s) (.slice (some ⟨wl.heap.size, 0, none⟩) 0 0) []) := Lib.hid ((row_nil wl wl.heap.size (Nat.le_refl _)).below (by rw [e1]; exact hb6))
      have HC6 := Lib.hid hc6
      have HH6 := Lib.hid hh6
      clear hb6 hh6 hc6 hcv x1 e1
      generalize Lib.bytesWorld (wl.alloc (Obj.cells #[] 3)) 5 s = w6 at *
      generalize hgb : wl.heap.size + 1 = gb at *
      go_loopw [7, 21] (fun lw kv wr => ∃ (K : Nat) (wi : World) (lv : Value), wi = wr ∧ lv = lw ∧ K ≤ s.size ∧ kv = .int .i64 (K : Nat) ∧ Hid (RowOwn wl.heap.size wi lv ((bnum s).take K)) ∧ Hid (Below wl.heap.size wl wi) ∧ Hid (wi.heap[gb]? = w6.heap[gb]?) ∧ Hid (∀ (i : Nat) (x : Int), i < K → (bnum s)[i]? = some x → letter x = true)) (fun _ kv _ => s.size + 1 - (Go.RowKit.intOf kv).toNat)
      case atStart => exact ⟨0, w6, _, rfl, rfl, Nat.zero_le _, rfl, HRN, HB6, rfl, fun i x h => absurd h (by omega)⟩
      case round =>
        obtain ⟨K, wi, lv, rfl, rfl, hK, rfl, HRO, HBI, HGB, HLT2⟩ := hrel
        by_cases hlk : K < s.size
        · obtain ⟨x, hx⟩ : ∃ x, (bnum s)[K]? = some x := ⟨_, List.getElem?_eq_getElem (by rw [bnum_len]; exact hlk)⟩
          have y1 : wi.cell? ⟨gb, K, none⟩ = some (.int .u8 x) := (World.cell?_of_block HGB.out).trans (HC6.out K x hx)
          have hx0 : 0 ≤ x ∧ x ≤ 255 := by
            unfold bnum at hx
            rw [List.getElem?_map] at hx
            obtain ⟨b, _, rfl⟩ := Option.map_eq_some_iff.1 hx
            have := b.toNat_lt
            omega
          have q3 : (K : Int) < (s.size : Int) := by omega
          have q4 : (0 : Int) ≤ (K : Int) := by omega
          have HX := Lib.hid hx
          have HLK := Lib.hid hlk
          clear hx
          by_cases hlo : x < 97
          · have d1 : decide (x < 97) = true := decide_eq_true hlo
            have hbad : rfine ps = false := by
              have h1 : letter x = false := decide_eq_false (by omega)
              have h2 : lets s = false := by unfold lets; exact List.all_eq_false.2 ⟨x, List.mem_of_getElem? HX.out, by simp [h1]⟩
              have h3 : ps.all lets = false := List.all_eq_false.2 ⟨s, List.mem_of_getElem? HSJ.out, by simp [h2]⟩
              unfold rfine
              rw [h3]
              rfl
            have HBAD := Lib.hid hbad
            clear hbad
            go_wp2
            go_ret2
            exact readpost_bad HBAD.out (HB.out.trans ⟨HBI.out.os, HBI.out.tape, HBI.out.output, HBI.out.size, fun k hk => HBI.out.block k (Nat.lt_of_lt_of_le hk HB.out.size)⟩)
          have d1 : decide (x < 97) = false := decide_eq_false hlo
          by_cases hhi : 122 < x
          · have d2 : decide (122 < x) = true := decide_eq_true hhi
            have hbad : rfine ps = false := by
              have h1 : letter x = false := decide_eq_false (by omega)
              have h2 : lets s = false := by unfold lets; exact List.all_eq_false.2 ⟨x, List.mem_of_getElem? HX.out, by simp [h1]⟩
              have h3 : ps.all lets = false := List.all_eq_false.2 ⟨s, List.mem_of_getElem? HSJ.out, by simp [h2]⟩
              unfold rfine
              rw [h3]
              rfl
            have HBAD := Lib.hid hbad
            clear hbad
            go_wp2
            go_ret2
            exact readpost_bad HBAD.out (HB.out.trans ⟨HBI.out.os, HBI.out.tape, HBI.out.output, HBI.out.size, fun k hk => HBI.out.block k (Nat.lt_of_lt_of_le hk HB.out.size)⟩)
          have d2 : decide (122 < x) = false := decide_eq_false hhi
          have hwx : IntKind.i64.wrap x = x := IntWalk.i64_in _ (by omega)
          have hkl : ((bnum s).take K).length = K := by rw [List.length_take, bnum_len]; omega
          obtain ⟨hro, gl, cl, rfl⟩ := id HRO.out
          rw [hkl] at hro
          have HKL := Lib.hid hkl
          have HLET : Hid (letter x = true) := Lib.hid (decide_eq_true (by omega))
          have p1 : K + 1 ≤ maxLen := Nat.le_trans (show K + 1 ≤ 4000001 by omega) (by decide)
          have p2 : (K + 1) * 8 ≤ 140737488355328 := by omega
          have HROW := Lib.hid hro
          clear hro hlo hhi hx0
          rw [hkl]
          go_wp2_with (first | (at_builtin; refine wpList_append_lies _ rfl _ _ 45 rfl wl.heap.size 3 i3 _ 1 8 Try.underlying45 hi3 hz30 hz31 hz32 rfl (by omega) (.slice (some ⟨gl, 0, none⟩) K cl) K _ rfl (HROW.out.alloc _) ⟨wi.heap.size, 0, none⟩ 1 1 [.int .i64 x] rfl rfl (World.news_of_block (cs := #[.int .i64 x]) (t := 3) (fr := (0, 0)) (heap_alloc_new wi _)) (by simp [Value.oneCell']) (by omega) p1 p2 (by have := HBI.out.size; simp; omega) (wi.heap.size + 1) (by simp) ?_; intro g2 c2 w5 hown hgrow hat hlt5))
          have hna : (wi.alloc (Obj.cells #[.int .i64 x] 3)).heap.size = wi.heap.size + 1 := by simp
          have hb5 : Below wl.heap.size wl w5 := Below.grown (below_alloc HBI.out _) hgrow (by rw [hna]; have := HBI.out.size; omega) (fun k e => by have e2 : gl = k := Option.some.inj e; subst e2; exact (HROW.out.lt gl rfl).1)
          have hgb5 : w5.heap[gb]? = w6.heap[gb]? := by
            have hlt6 : gb < wi.heap.size := by
              obtain ⟨cur, fr, hh⟩ : ∃ cur fr, w6.heap[gb]? = some (.cells cur 5 fr) := ⟨_, _, HH6.out⟩
              rw [← HGB.out] at hh
              exact (Array.getElem?_eq_some_iff.1 hh).1
            refine ((hgrow.block gb (by rw [hna]; omega) (fun e => ?_)).trans (Below.heap_alloc wi _ gb hlt6)).trans HGB.out
            have e2 : gb = gl := Option.some.inj e
            obtain ⟨cur, hcur⟩ := own_heap HROW.out
            rw [← e2, HGB.out, HH6.out] at hcur
            injection hcur with hcur
            injection hcur with _ ht _
            exact absurd ht (by decide)
          have hrs : RowOwn wl.heap.size w5 (.slice (some ⟨g2, 0, none⟩) (K + 1) c2) ((bnum s).take (K + 1)) := by
            have e1 : (bnum s).take (K + 1) = (bnum s).take K ++ [x] := by
              rw [List.take_add_one, HX.out]
              rfl
            rw [e1]
            have := row_snoc (base := wl.heap.size) (w := wi) (w' := w5) (g := gl) (c := cl) (g2 := g2) (c2 := c2) (l := (bnum s).take K) (x := x) (by rw [HKL.out]; exact hown)
            rw [HKL.out] at this
            exact this
          have HB5 := Lib.hid hb5
          have HG5 := Lib.hid hgb5
          have HR5 := Lib.hid hrs
          clear hown hgrow hat hlt5 hna hb5 hgb5 hrs
          go_wp2_with fail
          go_roundw
          case rel =>
            refine ⟨K + 1, w5, _, rfl, rfl, HLK.out, by push_cast; rfl, HR5, HB5, HG5, fun i x' hi hx' => ?_⟩
            by_cases e : i = K
            · subst e
              rw [HX.out] at hx'
              obtain rfl := Option.some.inj hx'
              exact HLET.out
            · exact HLT2.out i x' (by omega) hx'
          case measure => exact meas _ _ HLK.out
        · obtain rfl : K = s.size := by omega
          have hro : RowOwn wl.heap.size wi lv (bnum s) := by
            have := HRO.out
            rw [List.take_of_length_le (by rw [bnum_len]; exact Nat.le_refl _)] at this
            exact this
          obtain ⟨hrw, gl, cl, rfl⟩ := id hro
          rw [bnum_len]
          have HRW : Hid (RowOwn wl.heap.size wi (.slice (some ⟨gl, 0, none⟩) (bnum s).length cl) (bnum s)) := Lib.hid hro
          have hlets : lets s = true := by
            unfold lets
            rw [List.all_eq_true]
            intro x hx
            obtain ⟨i, hi, rfl⟩ := List.getElem_of_mem hx
            exact HLT2.out i _ (by rw [← bnum_len]; exact hi) (List.getElem?_eq_getElem hi)
          have HLS := Lib.hid hlets
          have HRI := Lib.hid (HR.out.below HBI.out)
          have hown0 : wi.ownsRow W.heap.size 45 1 (.slice (some ⟨gc, 0, none⟩) J cc) J vs := by
            have := HRI.out.own
            rw [HLEN.out] at this
            exact this
          have HOW := Lib.hid hown0
          have p1 : J + 1 ≤ maxLen := Nat.le_trans (show J + 1 ≤ 4000001 by omega) (by decide)
          have p2 : (J + 1) * 24 ≤ 140737488355328 := by omega
          have HBW := Lib.hid (HB.out.trans ⟨HBI.out.os, HBI.out.tape, HBI.out.output, HBI.out.size, fun k hk => HBI.out.block k (Nat.lt_of_lt_of_le hk HB.out.size)⟩)
          clear hro hrw hlets hown0
          go_wp2_with (first | (at_builtin; refine wpList_append_lies _ rfl _ _ 42 rfl W.heap.size 45 i24 _ 1 24 Try.underlying42 hi24 hz0 hz1 hz2 rfl (by omega) (.slice (some ⟨gc, 0, none⟩) J cc) J vs rfl (HOW.out.alloc _) ⟨wi.heap.size, 0, none⟩ 1 1 [.slice (some ⟨gl, 0, none⟩) s.size cl] rfl rfl (World.news_of_block (cs := #[.slice (some ⟨gl, 0, none⟩) s.size cl]) (t := 45) (fr := (0, 0)) (heap_alloc_new wi _)) (by simp [Value.oneCell']) (by omega) p1 p2 (by have := HBW.out.size; simp; omega) (wi.heap.size + 1) (by simp) ?_; intro g2 c2 w5 hown hgrow hat hlt5))
          have hna : (wi.alloc (Obj.cells #[.slice (some ⟨gl, 0, none⟩) s.size cl] 45)).heap.size = wi.heap.size + 1 := by simp
          have hb5 : Below W.heap.size W w5 := Below.grown (below_alloc HBW.out _) hgrow (by rw [hna]; have := HBW.out.size; omega) (fun k e => by have e2 : gc = k := Option.some.inj e; subst e2; exact (HOW.out.lt gc rfl).1)
          have hrr : Rws W.heap.size w5 (.slice (some ⟨g2, 0, none⟩) (((ps.take J).map bnum) ++ [bnum s]).length c2) (((ps.take J).map bnum) ++ [bnum s]) (vs ++ [.slice (some ⟨gl, 0, none⟩) s.size cl]) := by
            have ba := below_alloc (Below.refl wi.heap.size wi) (Obj.cells #[.slice (some ⟨gl, 0, none⟩) s.size cl] 45)
            refine rows_snoc (w := wi.alloc (Obj.cells #[.slice (some ⟨gl, 0, none⟩) s.size cl] 45)) (g := gc) (c := cc) ?_ ?_ hgrow ?_
            · have h1 := HRI.out.below ba
              exact h1
            · have h1 := HRW.out.below ba
              rw [bnum_len] at h1
              refine ⟨own_less h1.1 HB.out.size, gl, cl, by rw [bnum_len]⟩
            · rw [HLEN.out]
              exact hown
          have hmt : ((ps.take (J + 1)).map bnum) = ((ps.take J).map bnum) ++ [bnum s] := by
            rw [List.take_add_one, HSJ.out, List.map_append]
            rfl
          have hl2 : (((ps.take J).map bnum) ++ [bnum s]).length = J + 1 := by rw [List.length_append, HLEN.out]; rfl
          rw [hl2] at hrr
          have HRR := Lib.hid hrr
          have HB5 := Lib.hid hb5
          have HMT := Lib.hid hmt
          clear hown hgrow hat hlt5 hna hb5 hrr hmt hl2
          go_wp2_with fail
          go_roundw
          case rel =>
            refine ⟨J + 1, w5, _, rfl, HLT.out, by push_cast; rfl, by rw [HMT.out]; exact HRR, HB5, fun i s' hi hs' => ?_⟩
            by_cases e : i = J
            · subst e
              rw [HSJ.out] at hs'
              obtain rfl := Option.some.inj hs'
              exact HLS.out
            · exact HL.out i s' (by omega) hs'
          case measure => exact meas _ _ HLT.out
    · obtain rfl : J = ps.length := by omega
      have hrw := HR.out
      rw [List.take_length] at hrw
      have hall : ps.all lets = true := by
        rw [List.all_eq_true]
        intro s hs
        obtain ⟨i, hi, rfl⟩ := List.getElem_of_mem hs
        exact HL.out i _ hi (List.getElem?_eq_getElem hi)
      have hrf : rfine ps = fine (ps.map bnum) := by unfold rfine; rw [hall]; rfl
      have SC := Lib.hid (settled_calls (ps.map bnum) (fun k => W.heap.size ≤ k ∧ k < wl.heap.size) _ wl (hrw.grid.go (fun k p hl => ⟨⟨p, hl⟩, rfl⟩)) (fun k p => p.2)
        (fun l hl x hx => by
          obtain ⟨s, _, rfl⟩ := List.mem_map.1 hl
          obtain ⟨b, _, rfl⟩ := List.mem_map.1 hx
          have := b.toNat_lt
          omega)
        (fun l hl => by
          obtain ⟨s, hs, rfl⟩ := List.mem_map.1 hl
          rw [bnum_len]
          exact HS.out s hs))
      have HRF := Lib.hid hrf
      clear hrw hall hrf
      go_wp2_with fail
      refine SC.out.mono ?_
      rintro e w9 ⟨v, rfl, hfl, hb9⟩
      have HFL := Lib.hid hfl
      have HB9 := Lib.hid (below_step HB.out hb9)
      clear hfl hb9
      go_wp2
      go_ret2
      exact ⟨v, (by rw [HRF.out]; rfl), (fun h => by rw [HRF.out] at h; exact (HFL.out h).mono HB.out.size), HB9.out⟩
end Go.Proofs.Ytpilppppkjenaaa.S
/- strings.Builder: a byte is written, the text is taken. -/
namespace Go.Proofs.Ytpilppppkjenaaa.S
open Go.RowKit Go.Maps Go.Proofs.YtpilppppkjenaaaW.PrintWords Go.Proofs.YtpilppppkjenaaaW.PrintMore
set_option linter.unusedVariables false
set_option linter.unusedSimpArgs false

theorem info62 : (Try.prog.info? 55).map (fun i => (i.zero, i.size, i.bytes)) = some (some (.agg #[.pointer none, .slice none 0 0]), 2, 32) := by kernel_rfl
theorem info5 : (Try.prog.info? 5).map (fun i => (i.zero, i.size, i.bytes)) = some (some (.int .u8 0), 1, 1) := by kernel_rfl

set_option maxRecDepth 100000 in
set_option maxHeartbeats 4000000 in
theorem check_used (b : Nat) (W : World) (h0 : W.cell? ⟨b, 0, none⟩ = some (.pointer (some ⟨b, 0, none⟩))) :
    Calls Try.prog 53 #[.pointer (some ⟨b, 0, none⟩)] W fun e w' => e = .returned (.tuple #[]) ∧ w' = W := by
  obtain ⟨j, hj, _⟩ := Option.map_eq_some_iff.1 info62
  go_enter Try.func53, Try.ntmps53
  go_wp2
  rw [Lib.run_neq_ptr_same W _ Try.underlying53 hj]
  go_wp2
  go_end0
  exact ⟨rfl, rfl⟩

set_option maxRecDepth 100000 in
set_option maxHeartbeats 4000000 in
theorem check_fresh (b : Nat) (W : World) (h0 : W.cell? ⟨b, 0, none⟩ = some (.pointer none)) (hsh : W.shape? b = some (55, 2)) (hfz : W.frozen? ⟨b, 0, none⟩ = false) :
    Calls Try.prog 53 #[.pointer (some ⟨b, 0, none⟩)] W fun e w' => e = .returned (.tuple #[]) ∧ w' = W.setCell ⟨b, 0, none⟩ (.pointer (some ⟨b, 0, none⟩)) := by
  obtain ⟨j, hj, _, hjs, _⟩ := info_parts info62
  go_enter Try.func53, Try.ntmps53
  go_wp2
  rw [Lib.run_to_unsafe W ⟨b, 0, none⟩ Try.underlying53 Try.underlying69 hj (by rw [hjs]; decide) hsh (Nat.zero_lt_succ 1)]
  simp only [Result.andThen]
  rw [Oper.upon_value]
  go_wp2
  rw [run_callFunc_extern Try.func55 (by kernel_rfl) (by kernel_rfl) (by kernel_rfl) (e := Extern.AbiNoEscape.same) (by kernel_rfl)]
  rw [Lib.run_noEscape]
  simp only [Result.andThen]
  rw [Oper.upon_value]
  go_wp2
  rw [Lib.run_from_unsafe W ⟨b, 0, none⟩ Try.underlying69 Try.underlying53 hj hsh (by kernel_rfl)]
  simp only [Result.andThen]
  rw [Oper.upon_value]
  go_wp2
  go_end0
  exact ⟨rfl, rfl⟩

/-- A builder of the call's own, fresh or used. -/
abbrev Bu (B b : Nat) (bs : List Value) (w : World) : Prop := Lib.IsBuilder 55 5 B b bs w

theorem check_calls (B b : Nat) (bs : List Value) (W : World) (h : Bu B b bs W) :
    Calls Try.prog 53 #[.pointer (some ⟨b, 0, none⟩)] W fun e w' => e = .returned (.tuple #[]) ∧ Lib.BuilderAt 55 5 B b (.pointer (some ⟨b, 0, none⟩)) bs w' ∧ Below B W w' ∧ w'.heap.size = W.heap.size := by
  rcases h with h | h
  · refine (check_fresh b W h.cell0 h.shape h.frozen0).mono ?_
    rintro e w' ⟨rfl, rfl⟩
    exact ⟨rfl, h.used _, (Below.refl B W).setCell (p := ⟨b, 0, none⟩) h.1 _, by simp⟩
  · refine (check_used b W h.cell0).mono ?_
    rintro e w' ⟨rfl, rfl⟩
    exact ⟨rfl, h, Below.refl B _, rfl⟩

set_option maxRecDepth 100000 in
set_option maxHeartbeats 4000000 in
theorem write_calls (B b : Nat) (bs : List Value) (x : Int) (W : World) (h : Bu B b bs W) (hl : bs.length ≤ 1000000) (hB : B ≤ W.heap.size) :
    Calls Try.prog 46 #[.pointer (some ⟨b, 0, none⟩), .int .u8 x] W fun e w' => e = .returned .nilIface ∧ Lib.BuilderAt 55 5 B b (.pointer (some ⟨b, 0, none⟩)) (bs ++ [.int .u8 x]) w' ∧ Below B W w' := by
  obtain ⟨i5, hi, hz0, hz1, hz2⟩ := info_parts info5
  have CC := Lib.hid (check_calls B b bs W h)
  have hlt : b < W.heap.size := by
    rcases h with h | h
    · exact h.lt
    · exact h.lt
  clear h
  have p1 : bs.length + 1 ≤ maxLen := Nat.le_trans (show bs.length + 1 ≤ 1000001 by omega) (by decide)
  have p2 : (bs.length + 1) * 1 ≤ 140737488355328 := by omega
  go_enter Try.func46, Try.ntmps46
  go_wp2_with fail
  refine CC.out.mono ?_
  rintro e w1 ⟨rfl, ⟨hBb, v, hbk, hown, hne⟩, hb1, hsz⟩
  have c0 : w1.cell? ⟨b, 0, none⟩ = some (.pointer (some ⟨b, 0, none⟩)) := (blk_cell hbk 0).trans rfl
  have c1 : w1.cell? ⟨b, 1, none⟩ = some v := (blk_cell hbk 1).trans rfl
  have hna : ∀ o, (w1.alloc o).heap.size = w1.heap.size + 1 := fun o => by simp
  have OWN := Lib.hid hown
  have BK := Lib.hid hbk
  have B1 := Lib.hid hb1
  have NE := Lib.hid hne
  have HS := Lib.hid hsz
  clear hown hbk hb1 hne hsz hna
  go_wp2_with (first | (at_builtin; refine wpList_append_lies _ rfl _ _ 38 rfl B 5 i5 _ 1 1 Try.underlying38 hi hz0 hz1 hz2 rfl (by omega) v bs.length bs rfl (OWN.out.alloc _) ⟨w1.heap.size, 0, none⟩ 1 1 [.int .u8 x] rfl rfl (World.news_of_block (cs := #[.int .u8 x]) (t := 5) (fr := (0, 0)) (heap_alloc_new w1 _)) (by simp [Value.oneCell']) (by omega) p1 p2 (by have := HS.out; simp; omega) (w1.heap.size + 1) (by simp) ?_; intro g2 c2 w2 hown2 hgrow hat hlt2; have hb2 : w2.heap[b]? = some (.cells #[.pointer (some ⟨b, 0, none⟩), v] 55 (0, 0)) := (hgrow.block b (blk_lt (blk_alloc BK.out _)) (fun e => NE.out e.symm)).trans (blk_alloc BK.out _); have d1 := (blk_cell hb2 1).trans rfl; have d2 := blk_frozen hb2 1))
  have hfin : Lib.BuilderAt 55 5 B b (.pointer (some ⟨b, 0, none⟩)) (bs ++ [.int .u8 x]) (w2.setCell ⟨b, 1, none⟩ (.slice (some ⟨g2, 0, none⟩) (bs.length + 1) c2)) := Lib.BuilderAt.put hBb hb2 (bs' := bs ++ [.int .u8 x]) (by simpa using hown2) (by decide)
  have hbel : Below B W (w2.setCell ⟨b, 1, none⟩ (.slice (some ⟨g2, 0, none⟩) (bs.length + 1) c2)) := by
    have k1 : Below B W (w1.alloc (Obj.cells #[.int .u8 x] 5)) := B1.out.alloc (by have := HS.out; omega) _
    exact (k1.grown hgrow (by have := HS.out; simp; omega) (fun k hk => (OWN.out.lt k hk).1)).setCell (p := ⟨b, 1, none⟩) hBb _
  have HF := Lib.hid hfin
  have HBL := Lib.hid hbel
  clear hfin hbel hown2 hgrow hat hlt2 hb2 d1 d2
  go_wp2
  go_ret
  exact ⟨rfl, HF.out, HBL.out⟩
end Go.Proofs.Ytpilppppkjenaaa.S
/- strings.Builder: the text is taken. -/
namespace Go.Proofs.Ytpilppppkjenaaa.S
open Go.RowKit Go.Maps Go.Proofs.YtpilppppkjenaaaW.PrintWords Go.Proofs.YtpilppppkjenaaaW.PrintMore
set_option linter.unusedVariables false
set_option linter.unusedSimpArgs false

set_option maxRecDepth 100000 in
set_option maxHeartbeats 4000000 in
theorem string_calls (B b : Nat) (l : List UInt8) (W : World) (h : Lib.BuilderAt 55 5 B b (.pointer (some ⟨b, 0, none⟩)) (Lib.byteCells l) W) (h0 : l ≠ []) :
    Calls Try.prog 47 #[.pointer (some ⟨b, 0, none⟩)] W fun e w' => e = .returned (.string ⟨l.toArray⟩) ∧ Below B W w' := by
  obtain ⟨hB, v, hbk, hown, hne⟩ := h
  have hl0 : l.length ≠ 0 := by simpa using h0
  rw [Lib.byteCells_length] at hown
  obtain ⟨g, cap, cur, rfl, hbg, hg, hnc, hcm, hcs, htake⟩ : ∃ g cap cur, v = .slice (some ⟨g, 0, none⟩) l.length cap ∧ B ≤ g ∧ W.heap[g]? = some (.cells cur 5 (0, 0)) ∧ l.length ≤ cap ∧ cap ≤ maxLen ∧ cur.size = cap * 1 ∧ cur.toList.take (l.length * 1) = Lib.byteCells l := by
    rcases hown.2 with ⟨_, hz⟩ | ⟨g, cap, cur, hv, r⟩
    · exact absurd hz hl0
    · exact ⟨g, cap, cur, hv, r⟩
  have c1 : W.drew.cell? ⟨b, 1, none⟩ = some (.slice (some ⟨g, 0, none⟩) l.length cap) := (blk_cell (w := W.drew) hbk 1).trans rfl
  have c2 : W.cell? ⟨b, 1, none⟩ = some (.slice (some ⟨g, 0, none⟩) l.length cap) := (blk_cell hbk 1).trans rfl
  have hSD : (Builtin.unsafeSliceData_ #[38] 67 #[.slice (some ⟨g, 0, none⟩) l.length cap]).run Try.prog W.drew = .ok (.pointer (some ⟨g, 0, none⟩)) W.drew :=
    Lib.run_unsafeSliceData_row _ _ _ _ _ _ (by omega)
  have hUS : (Builtin.unsafeString_ #[67, 3] 9 #[.pointer (some ⟨g, 0, none⟩), .int .i64 l.length]).run Try.prog W.drew = .ok (.string ⟨l.toArray⟩) (W.drew.freeze ⟨g, 0, none⟩ l.length) := by
    refine Lib.run_unsafeString_row W.drew 67 3 9 5 Try.underlying67 (by kernel_rfl) g cur.size (by have hg' : W.drew.heap[g]? = some (.cells cur 5 (0, 0)) := hg; simp [World.shape?, hg']) l h0 (by omega) (by unfold maxLen at hcm; omega) ?_
    intro j x hx
    exact hown.cells (g := g) rfl j (.int .u8 x.toNat) (by simp [Lib.byteCells, hx])
  clear hown htake hcs
  go_enter Try.func47, Try.ntmps47
  go_wp2
  go_region
  all_goals (go_wp2; go_ret; exact ⟨rfl, Lib.below_freeze (Below.drew (Below.refl B W)) (p := ⟨g, 0, none⟩) hbg _⟩)
end Go.Proofs.Ytpilppppkjenaaa.S
/- The rows of a plan as texts. -/
namespace Go.Proofs.Ytpilppppkjenaaa.S
open Go.RowKit Go.Maps Go.Proofs.YtpilppppkjenaaaW.PrintWords Go.Proofs.YtpilppppkjenaaaW.PrintMore
set_option linter.unusedVariables false
set_option linter.unusedSimpArgs false

theorem info9 : (Try.prog.info? 9).map (fun i => (i.zero, i.size, i.bytes)) = some (some (.string ⟨#[]⟩), 1, 16) := by kernel_rfl
/-- A number as a letter. -/
def lt8 (k : Int) : UInt8 := UInt8.ofNat (97 + k.toNat)
def rowText (l : List Int) : ByteArray := ⟨(l.map lt8).toArray⟩
theorem lt8_nat {k : Int} (h : 0 ≤ k ∧ k ≤ 25) : ((lt8 k).toNat : Int) = 97 + k := by
  unfold lt8
  rw [UInt8.toNat_ofNat']
  omega
theorem cells_snoc (l : List Int) (K : Nat) (k : Int) (hk : l[K]? = some k) (h : 0 ≤ k ∧ k ≤ 25) : Lib.byteCells ((l.take K).map lt8) ++ [.int .u8 (97 + k)] = Lib.byteCells ((l.take (K + 1)).map lt8) := by
  rw [List.take_add_one, hk, List.map_append, Lib.byteCells_append, ← lt8_nat h]
  rfl

set_option maxRecDepth 100000 in
set_option maxHeartbeats 8000000 in
theorem text_calls (base : Nat) (v : Value) (nums : List (List Int)) (rooms : List Rc) (W : World) (hf : FloorAt base W v nums rooms) (hk : ∀ l ∈ nums, ∀ k ∈ l, 0 ≤ k ∧ k ≤ 25) (hne : ∀ l ∈ nums, l ≠ []) (hH : nums.length ≤ 1000) (hWd : ∀ l ∈ nums, l.length ≤ 1000) :
    Calls Try.prog 44 #[v] W fun e w' => ∃ o, e = .returned (.slice (some ⟨o, 0, none⟩) nums.length nums.length) ∧ w'.ownsRow W.heap.size 9 1 (.slice (some ⟨o, 0, none⟩) nums.length nums.length) nums.length (nums.map fun l => .string (rowText l)) ∧ Below W.heap.size W w' := by
  obtain ⟨i9, hi, hz0, hz1, hz2⟩ := info_parts info9
  obtain ⟨fb, cv, rv, rfl, hfb, hh, ⟨A, c, rfl, hc, hrows⟩, _⟩ := hf
  have f0 : W.cell? ⟨fb, 0, none⟩ = some (.slice A nums.length c) := (blk_cell hh 0).trans rfl
  have HR := Lib.hid hrows
  have HK := Lib.hid hk
  have HNE := Lib.hid hne
  have HWD := Lib.hid hWd
  have HC := Lib.hid (high_calls fb A nums.length c W f0)
  have p1 : i9.bytes * nums.length ≤ 281474976710656 := by rw [hz2]; omega
  have p2 : nums.length ≤ maxLen := Nat.le_trans hH (by decide)
  clear hrows hk hne hWd hh hc hfb
  generalize hn : nums.length = H at *
  have HN := Lib.hid hn
  clear hn
  go_enter Try.func44, Try.ntmps44
  go_wp2_with fail
  refine HC.out.mono ?_
  rintro e w' ⟨rfl, rfl⟩
  go_wp2_with (first | (refine wpList_make_full _ rfl _ _ 22 rfl w'.heap.size 9 i9 _ 1 Try.underlying22 hi hz0 hz1 .i64 .i64 _ _ H rfl rfl rfl rfl p1 p2 (Nat.le_refl _) ?_; intro w1 hown1 hg1; have g0 := (pw_cell_below (Below.grown (Below.refl w'.heap.size w') hg1 (Nat.le_refl _) (by simp)) f0)))
  have HB1 : Hid (Below w'.heap.size w' w1) := Lib.hid (Below.grown (Below.refl w'.heap.size w') hg1 (Nat.le_refl _) (by simp))
  have HO1 : Hid (∃ vs, w1.ownsRow w'.heap.size 9 1 (.slice (some ⟨w'.heap.size, 0, none⟩) H H) H vs) := Lib.hid ⟨_, hown1⟩
  clear hown1 hg1 g0
  go_loopw [17] (fun kv wr => ∃ (r : Nat) (wl : World) (vs : List Value), wl = wr ∧ r ≤ H ∧ kv = .int .i64 (r : Nat) ∧ Hid (wl.ownsRow w'.heap.size 9 1 (.slice (some ⟨w'.heap.size, 0, none⟩) H H) H vs) ∧ Hid (Below w'.heap.size w' wl) ∧ Hid (∀ (i : Nat) (l : List Int), i < r → nums[i]? = some l → vs[i]? = some (.string (rowText l)))) (fun kv _ => H + 1 - (Go.RowKit.intOf kv).toNat)
  case atStart => obtain ⟨vs, hvs⟩ := HO1.out; exact ⟨0, w1, vs, rfl, Nat.zero_le _, rfl, hvs, HB1, fun i l h => absurd h (by omega)⟩
  case round =>
    obtain ⟨r, wl, vs, rfl, hr, rfl, HO, HB, HV⟩ := hrel
    clear HO1 HB1
    by_cases hlt : r < H
    · obtain ⟨l, hl⟩ : ∃ l, nums[r]? = some l := ⟨_, List.getElem?_eq_getElem (by have := HN.out; omega)⟩
      obtain ⟨g, u, rfl, _, hcell, A2, c2, rfl, hc2, hcells⟩ := HR.out r l hl
      have hlm : l ∈ nums := List.mem_of_getElem? hl
      have hl1000 := HWD.out l hlm
      have x1 := (HB.out.cell (World.block_lt_of_cell? w' _ hcell)).trans hcell
      have HL := Lib.hid hl
      have HLM := Lib.hid hlm
      have HCE := Lib.hid hcells
      have q1 : (r : Int) < (H : Int) := by omega
      have q2 : (0 : Int) ≤ (r : Int) := by omega
      have HLT := Lib.hid hlt
      clear hl hlm hcells hcell hlt
      go_wp2_with fail
      have HBU : Hid (Lib.IsBuilder 55 5 wl.heap.size wl.heap.size [] (wl.alloc (Obj.cells #[.pointer none, .slice none 0 0] 55))) := Lib.hid (Lib.fresh_isBuilder 55 5 wl)
      have HBL : Hid (Below wl.heap.size wl (wl.alloc (Obj.cells #[.pointer none, .slice none 0 0] 55))) := Lib.hid (below_alloc (Below.refl _ _) _)
      generalize wl.alloc (Obj.cells #[.pointer none, .slice none 0 0] 55) = w6 at *
      go_loopw [24] (fun kv wr => ∃ (K : Nat) (wi : World), wi = wr ∧ K ≤ l.length ∧ kv = .int .i64 (K : Nat) ∧ Hid (Lib.IsBuilder 55 5 wl.heap.size wl.heap.size (Lib.byteCells ((l.take K).map lt8)) wi ∧ (0 < K → Lib.BuilderAt 55 5 wl.heap.size wl.heap.size (.pointer (some ⟨wl.heap.size, 0, none⟩)) (Lib.byteCells ((l.take K).map lt8)) wi)) ∧ Hid (Below wl.heap.size wl wi)) (fun kv _ => l.length + 1 - (Go.RowKit.intOf kv).toNat)
      case atStart => exact ⟨0, w6, rfl, Nat.zero_le _, rfl, ⟨HBU.out, fun h => absurd h (by omega)⟩, HBL⟩
      case round =>
        obtain ⟨K, wi, rfl, hK, rfl, HBI, HWI⟩ := hrel
        by_cases hlk : K < l.length
        · obtain ⟨k, hk⟩ : ∃ k, l[K]? = some k := ⟨_, List.getElem?_eq_getElem hlk⟩
          obtain ⟨gg, rfl, _, hcc⟩ := HCE.out K k hk
          have hkb := HK.out l HLM.out k (List.mem_of_getElem? hk)
          have hl0 := World.block_lt_of_cell? w' _ hcc
          have y1 : wi.cell? ⟨gg, K, none⟩ = some (.int .i64 k) := by
            have y0 := (HB.out.cell hl0).trans hcc
            exact (HWI.out.cell (World.block_lt_of_cell? wl _ y0)).trans y0
          have q3 : (K : Int) < (l.length : Int) := by omega
          have q4 : (0 : Int) ≤ (K : Int) := by omega
          have hw1 : IntKind.i64.wrap (97 + k) = 97 + k := IntWalk.i64_in _ (by omega)
          have hw2 : IntKind.u8.wrap (97 + k) = 97 + k := by
            simp [IntKind.wrap, IntKind.bits, IntKind.signed]
            omega
          have WC := Lib.hid (write_calls wl.heap.size wl.heap.size _ (97 + k) wi HBI.out.1 (by rw [Lib.byteCells_length, List.length_map, List.length_take]; omega) HWI.out.size)
          have HKK := Lib.hid hk
          have HKB := Lib.hid hkb
          have HLK := Lib.hid hlk
          clear hk hkb hcc hl0
          go_wp2_with fail
          refine WC.out.mono ?_
          rintro e w9 ⟨rfl, hbu, hbl⟩
          rw [cells_snoc l K k HKK.out HKB.out] at hbu
          have HB9 := Lib.hid hbu
          have HL9 := Lib.hid (HWI.out.trans hbl)
          clear hbu hbl
          go_wp2_with fail
          go_roundw
          case rel => exact ⟨K + 1, w9, rfl, HLK.out, by push_cast; rfl, ⟨.inr HB9.out, fun _ => HB9.out⟩, HL9⟩
          case measure => exact meas _ _ HLK.out
        · obtain rfl : K = l.length := by omega
          have hpos : 0 < l.length := by
            have := HNE.out l HLM.out
            cases l with
            | nil => exact absurd rfl this
            | cons => simp
          have hbb := HBI.out.2 hpos
          rw [List.take_length] at hbb
          have SC := Lib.hid (string_calls wl.heap.size wl.heap.size (l.map lt8) wi hbb (fun h => absurd (congrArg List.length (List.map_eq_nil_iff.mp h)) (Nat.ne_of_gt hpos)))
          clear hbb hpos
          go_wp2_with fail
          refine SC.out.mono ?_
          rintro e w9 ⟨rfl, hbl⟩
          have hbl2 : Below wl.heap.size wl w9 := HWI.out.trans hbl
          have ho9 := own_keepV HO.out (KeepS.of_below (fun _ => False) hbl2) (fun _ _ e => e)
          have z2 := ho9.frozenAt r
          have hvl : vs.length = H := by have h := ho9.1; rw [Nat.mul_one] at h; exact h
          obtain ⟨uu, c9⟩ : ∃ u, w9.cell? ⟨w'.heap.size, r, none⟩ = some u := ⟨_, (ho9.cellAt r (by have := HLT.out; omega)).trans (List.getElem?_eq_getElem (by have := HLT.out; omega))⟩
          have HVL := Lib.hid hvl
          clear hvl
          have HO9 := Lib.hid ho9
          have HBL9 := Lib.hid hbl2
          clear ho9 hbl2 hbl
          go_wp2_with fail
          go_roundw
          case rel =>
            have hvl : vs.length = H := HVL.out
            have hbw : Below w'.heap.size w' w9 := HB.out.trans ⟨HBL9.out.os, HBL9.out.tape, HBL9.out.output, HBL9.out.size, fun k hk => HBL9.out.block k (Nat.lt_of_lt_of_le hk HB.out.size)⟩
            refine ⟨r + 1, _, vs.set r (.string (rowText l)), rfl, HLT.out, by push_cast; rfl, (HO9.out.stored r _).1, hbw.setCell (p := ⟨w'.heap.size, r, none⟩) (Nat.le_refl _) _, fun i l' hi hl' => ?_⟩
            by_cases e : i = r
            · subst e
              rw [HL.out] at hl'
              obtain rfl := Option.some.inj hl'
              rw [List.getElem?_set_self (by have := HLT.out; omega)]
            · rw [List.getElem?_set_ne (fun x => e x.symm)]
              exact HV.out i l' (by omega) hl'
          case measure => exact meas _ _ HLT.out
    · obtain rfl : r = H := by omega
      have hvs : vs = nums.map fun l => Value.string (rowText l) := by
        apply List.ext_getElem?
        intro i
        have hvl : vs.length = nums.length := by have h := HO.out.1; rw [Nat.mul_one] at h; have := HN.out; omega
        by_cases hi : i < nums.length
        · rw [HV.out i _ (by have := HN.out; omega) (List.getElem?_eq_getElem hi), List.getElem?_map, List.getElem?_eq_getElem hi]
          rfl
        · rw [List.getElem?_eq_none (by omega), List.getElem?_eq_none (by simp; omega)]
      have hoo := HO.out
      rw [hvs] at hoo
      have HOO := Lib.hid hoo
      clear hvs hoo
      go_wp2
      go_ret
      exact ⟨_, rfl, HOO.out, HB.out⟩
end Go.Proofs.Ytpilppppkjenaaa.S

/- The walks of impl.fours and of its iterator, which hands on the places and the numbers of all four in order. -/
import Derived.Test.YtgehkabfjpifiaaQa0
import Derived.Test.YtgehkabfjpifiaaRange
import Derived.Test.YtgehkabfjpifiaaTail
import Derived.WalkKit
import Derived.TacticsInMore
import Derived.RegionIn
import Derived.LoopNIn
import Derived.LoopIn
import Derived.OwnWalkIn
import Derived.Shelf.Abstract
import Derived.Lib.Hide
import Derived.Outline
namespace Go.Proofs.Ytgehkabfjpifiaa.S
open Go.RowKit Go.Proofs.YtgehkabfjpifiaaW.PrintWords Go.Proofs.Ytgehkabfjpifiaa.R Go.Proofs.Ytgehkabfjpifiaa.Qa
set_option linter.unusedVariables false
set_option linter.unusedSimpArgs false

abbrev Four := Nat × Nat × Nat × Nat
def rD (a b c : Nat) : Nat → Nat → List Four
  | _, 0 => []
  | d, m + 1 => (a, b, c, d) :: rD a b c (d + 1) m
def rC (a b : Nat) : Nat → Nat → List Four
  | _, 0 => []
  | c, m + 1 => rD a b c (c + 1) m ++ rC a b (c + 1) m
def rB (a : Nat) : Nat → Nat → List Four
  | _, 0 => []
  | b, m + 1 => rC a b (b + 1) m ++ rB a (b + 1) m
def rA : Nat → Nat → List Four
  | _, 0 => []
  | a, m + 1 => rB a (a + 1) m ++ rA (a + 1) m
/-- All four places in order, of n. -/
def foursL (n : Nat) : List Four := rA 0 n

theorem mem_rD (a b c : Nat) (x : Four) : ∀ (m d : Nat), x ∈ rD a b c d m ↔ ∃ d', d ≤ d' ∧ d' < d + m ∧ x = (a, b, c, d') := by
  intro m
  induction m with
  | zero => intro d; simp only [rD, List.not_mem_nil, false_iff]; rintro ⟨d', h1, h2, _⟩; omega
  | succ m ih =>
    intro d
    simp only [rD, List.mem_cons, ih]
    constructor
    · rintro (rfl | ⟨d', h1, h2, rfl⟩)
      · exact ⟨d, Nat.le_refl _, by omega, rfl⟩
      · exact ⟨d', by omega, by omega, rfl⟩
    · rintro ⟨d', h1, h2, rfl⟩
      by_cases h : d' = d
      · exact .inl (by rw [h])
      · exact .inr ⟨d', by omega, by omega, rfl⟩
theorem mem_rC (a b : Nat) (x : Four) : ∀ (m c : Nat), x ∈ rC a b c m ↔ ∃ c' d', c ≤ c' ∧ c' < d' ∧ d' < c + m ∧ x = (a, b, c', d') := by
  intro m
  induction m with
  | zero => intro c; simp only [rC, List.not_mem_nil, false_iff]; rintro ⟨c', d', h1, h2, h3, _⟩; omega
  | succ m ih =>
    intro c
    simp only [rC, List.mem_append, ih, mem_rD]
    constructor
    · rintro (⟨d', h1, h2, rfl⟩ | ⟨c', d', h1, h2, h3, rfl⟩)
      · exact ⟨c, d', by omega, by omega, by omega, rfl⟩
      · exact ⟨c', d', by omega, by omega, by omega, rfl⟩
    · rintro ⟨c', d', h1, h2, h3, rfl⟩
      by_cases h : c' = c
      · exact .inl ⟨d', by omega, by omega, by rw [h]⟩
      · exact .inr ⟨c', d', by omega, by omega, by omega, rfl⟩
theorem mem_rB (a : Nat) (x : Four) : ∀ (m b : Nat), x ∈ rB a b m ↔ ∃ b' c' d', b ≤ b' ∧ b' < c' ∧ c' < d' ∧ d' < b + m ∧ x = (a, b', c', d') := by
  intro m
  induction m with
  | zero => intro b; simp only [rB, List.not_mem_nil, false_iff]; rintro ⟨b', c', d', h1, h2, h3, h4, _⟩; omega
  | succ m ih =>
    intro b
    simp only [rB, List.mem_append, ih, mem_rC]
    constructor
    · rintro (⟨c', d', h1, h2, h3, rfl⟩ | ⟨b', c', d', h1, h2, h3, h4, rfl⟩)
      · exact ⟨b, c', d', by omega, by omega, by omega, by omega, rfl⟩
      · exact ⟨b', c', d', by omega, by omega, by omega, by omega, rfl⟩
    · rintro ⟨b', c', d', h1, h2, h3, h4, rfl⟩
      by_cases h : b' = b
      · exact .inl ⟨c', d', by omega, by omega, by omega, by rw [h]⟩
      · exact .inr ⟨b', c', d', by omega, by omega, by omega, by omega, rfl⟩
theorem mem_rA (x : Four) : ∀ (m a : Nat), x ∈ rA a m ↔ ∃ a' b' c' d', a ≤ a' ∧ a' < b' ∧ b' < c' ∧ c' < d' ∧ d' < a + m ∧ x = (a', b', c', d') := by
  intro m
  induction m with
  | zero => intro a; simp only [rA, List.not_mem_nil, false_iff]; rintro ⟨a', b', c', d', h1, h2, h3, h4, h5, _⟩; omega
  | succ m ih =>
    intro a
    simp only [rA, List.mem_append, ih, mem_rB]
    constructor
    · rintro (⟨b', c', d', h1, h2, h3, h4, rfl⟩ | ⟨a', b', c', d', h1, h2, h3, h4, h5, rfl⟩)
      · exact ⟨a, b', c', d', by omega, by omega, by omega, by omega, by omega, rfl⟩
      · exact ⟨a', b', c', d', by omega, by omega, by omega, by omega, by omega, rfl⟩
    · rintro ⟨a', b', c', d', h1, h2, h3, h4, h5, rfl⟩
      by_cases h : a' = a
      · exact .inl ⟨b', c', d', by omega, by omega, by omega, by omega, by rw [h]⟩
      · exact .inr ⟨a', b', c', d', by omega, by omega, by omega, by omega, by omega, rfl⟩
/-- All four places in order: just those. -/
theorem mem_foursL (n : Nat) (a b c d : Nat) : (a, b, c, d) ∈ foursL n ↔ a < b ∧ b < c ∧ c < d ∧ d < n := by
  unfold foursL
  rw [mem_rA]
  constructor
  · rintro ⟨a', b', c', d', h1, h2, h3, h4, h5, e⟩
    simp only [Prod.mk.injEq] at e
    omega
  · rintro ⟨h1, h2, h3, h4⟩
    exact ⟨a, b, c, d, by omega, h1, h2, h3, by omega, rfl⟩

def agg4 (a b c d : Int) : Value := .agg #[.int .i64 a, .int .i64 b, .int .i64 c, .int .i64 d]
/-- How a round is handed four places. -/
def EnFour (p : List Int) (x : Four) (args : Array Value) (W : World) : Prop :=
  args = #[.agg #[.int .i64 (x.1 : Int), .int .i64 (x.2.1 : Int), .int .i64 (x.2.2.1 : Int), .int .i64 (x.2.2.2 : Int)],
    .agg #[.int .i64 (p.getD x.1 0), .int .i64 (p.getD x.2.1 0), .int .i64 (p.getD x.2.2.1 0), .int .i64 (p.getD x.2.2.2 0)]]

set_option maxRecDepth 100000 in
set_option maxHeartbeats 1000000 in
theorem fours_calls (A : Option Addr) (n c : Nat) (w : World) :
    Calls Try.prog 36 #[.slice A n c] w fun e w' => e = .returned (.func (.func 42) #[] #[.pointer (some ⟨w.heap.size, 0, none⟩)]) ∧ w' = w.alloc (.cells #[.slice A n c] 29) := by
  have hmf : ∀ (fn : Fn) (first cap : Array Value) (w : World), (Instr.makeFunc fn first cap).run Try.prog w = .ok (.func fn first cap) w := fun _ _ _ _ => rfl
  go_enter Try.func36, Try.ntmps36
  go_wp2
  go_ret
  exact ⟨rfl, rfl⟩

theorem fours_at {W : World} {A : Option Addr} {p : List Int} (h : Kd.C (Kd.int .i64) W A p.length p) (hp : 0 < p.length) : ∃ ad, A = some ad ∧ ∀ i : Nat, i < p.length → W.cell? (ad.add i) = some (.int .i64 (p.getD i 0)) := by
  obtain ⟨ad, e, _⟩ := Kd.at_int h 0 (by omega) (by omega)
  refine ⟨ad, e, fun i hi => ?_⟩
  obtain ⟨ad', e', hc⟩ := Kd.at_int h (i : Int) (by omega) (by omega)
  rw [e] at e'
  obtain rfl := Option.some.inj e'
  simpa [rd] using hc

/-- What a loop's head knows: what is left, and that no other block has changed. -/
def FInv (J : List Four → World → Prop) (S : Nat → Prop) (l : Nat) (W : World) (rest all : List Four) (wr : World) : Prop := KeepS (fun k => S k ∨ k = l) W wr ∧ ∃ pre, J pre wr ∧ pre ++ rest = all

set_option maxRecDepth 100000 in
set_option maxHeartbeats 4000000 in
theorem fours_iter (A : Option Addr) (p : List Int) (n c bp : Nat) (hpn : p.length = n) (w : World) (S : Nat → Prop) (hbox : w.heap[bp]? = some (.cells #[.slice A n c] 29 (0, 0))) (hread : Kd.C (Kd.int .i64) w A n p) (hS1 : ¬ S bp) (hS2 : ∀ ad, A = some ad → 0 < n → ¬ S ad.block) (hlen : n ≤ 1000000) :
    Iter Try.prog 42 #[.pointer (some ⟨bp, 0, none⟩)] (foursL n) (EnFour p) S w := by
  intro l J Jx W hl _ hW hJ hJx hY h0
  have hbl : bp < w.heap.size := (Array.getElem?_eq_some_iff.1 hbox).1
  have hbW : W.heap[bp]? = some (.cells #[.slice A n c] 29 (0, 0)) := (hW.block bp hbl).trans hbox
  have hcells : ∀ W', KeepS (fun k => S k ∨ k = l) W W' → W'.cell? ⟨bp, 0, none⟩ = some (.slice A n c) := fun W' hk => by
    have hb' := hk.heap hbW (fun h => by rcases h with h | h; exact hS1 h; omega)
    simp [World.cell?, hb']
  have hnums : ∀ W', KeepS (fun k => S k ∨ k = l) W W' → 0 < n → ∃ ad, A = some ad ∧ ∀ i : Nat, i < n → W'.cell? (ad.add i) = some (.int .i64 (p.getD i 0)) := fun W' hk hp => by
    obtain ⟨ad, e, hc⟩ := fours_at (by rw [hpn]; exact hread) (by rw [hpn]; exact hp)
    rw [hpn] at hc
    refine ⟨ad, e, fun i hi => ?_⟩
    have h1 := hW.cell (p := ad.add i) (World.block_lt_of_cell? w _ (hc i hi))
    refine hk.cell (h1.trans (hc i hi)) (fun h => ?_)
    have e2 : (ad.add i).block = ad.block := by unfold Addr.add; split <;> rfl
    rw [e2] at h
    rcases h with h | h
    · exact hS2 ad e hp h
    · have := World.block_lt_of_cell? w _ (hc i hi); rw [e2] at this; omega
  have HC := Lib.hid hcells
  have HN := Lib.hid hnums
  have HJ := Lib.hid hJ
  have HY := Lib.hid hY
  have H0 := Lib.hid h0
  clear hpn hcells hnums hJ hJx hY h0 hbW hbox hread hS1 hS2 hW
  refine (callsIn_wide (n := 1)).1 ?_
  refine callsIn_of_wp Try.func42 rfl trivial ?_
  simp only [Try.ntmps42, List.size_toArray, List.length_cons, List.length_nil, Nat.reduceAdd, Nat.reduceSub, Array.replicate_succ, Array.replicate_zero, List.push_toArray, List.append_toArray, List.nil_append, List.cons_append]
  have hc0 := HC.out W (KeepS.refl _ _)
  have hnl : n ≤ 1000000 := hlen
  have HI : Hid (FInv J S l W (rA 0 (n - 0)) (foursL n) W) := Lib.hid ⟨KeepS.refl _ _, [], H0.out, rfl⟩
  gi_wp2
  clear hc0 H0
  gi_loopw [9] (fun i wr => ∃ a : Nat, a ≤ n ∧ i = .int .i64 a ∧ Hid (FInv J S l W (rA a (n - a)) (foursL n) wr)) (fun i _ => n - (Go.RowKit.intOf i).toNat)
  case atStart => exact ⟨0, Nat.zero_le _, rfl, HI⟩
  case round =>
    obtain ⟨a, ha, rfl, HA⟩ := hrel
    clear HI
    by_cases hlt : a < n
    · have hA : FInv J S l W (rB a (a + 1) (n - (a + 1)) ++ rA (a + 1) (n - (a + 1))) (foursL n) wr := by
        have := HA.out
        rwa [show n - a = (n - (a + 1)) + 1 by omega, rA] at this
      have HA := Lib.hid hA
      have hcb := HC.out wr hA.1
      clear hA
      gi_wp2
      clear hcb
      obtain ⟨wa, rfl⟩ : ∃ wa : World, wa = wr := ⟨_, rfl⟩
      gi_loopw [4] (fun j wb => ∃ b : Nat, a + 1 ≤ b ∧ b ≤ n ∧ j = .int .i64 b ∧ Hid (FInv J S l W (rB a b (n - b) ++ rA (a + 1) (n - (a + 1))) (foursL n) wb)) (fun j _ => n - (Go.RowKit.intOf j).toNat)
      case atStart => exact ⟨a + 1, Nat.le_refl _, by omega, by go_num, HA⟩
      case round =>
        obtain ⟨b, hab, hb, rfl, HB⟩ := hrel
        clear HA
        have hcb := HC.out wr HB.out.1
        by_cases hbt : b < n
        · have hB : FInv J S l W (rC a b (b + 1) (n - (b + 1)) ++ (rB a (b + 1) (n - (b + 1)) ++ rA (a + 1) (n - (a + 1)))) (foursL n) wr := by
            have := HB.out
            rwa [show n - b = (n - (b + 1)) + 1 by omega, rB, List.append_assoc] at this
          have HB := Lib.hid hB
          clear hB
          gi_wp2
          clear hcb
          obtain ⟨wb, rfl⟩ : ∃ wb : World, wb = wr := ⟨_, rfl⟩
          gi_loopw [5] (fun j wc => ∃ c' : Nat, b + 1 ≤ c' ∧ c' ≤ n ∧ j = .int .i64 c' ∧ Hid (FInv J S l W (rC a b c' (n - c') ++ (rB a (b + 1) (n - (b + 1)) ++ rA (a + 1) (n - (a + 1)))) (foursL n) wc)) (fun j _ => n - (Go.RowKit.intOf j).toNat)
          case atStart => exact ⟨b + 1, Nat.le_refl _, by omega, by go_num, HB⟩
          case round =>
            obtain ⟨e, hbe, he, rfl, HE⟩ := hrel
            clear HB
            have hcb := HC.out wr HE.out.1
            by_cases het : e < n
            · have hE : FInv J S l W (rD a b e (e + 1) (n - (e + 1)) ++ (rC a b (e + 1) (n - (e + 1)) ++ (rB a (b + 1) (n - (b + 1)) ++ rA (a + 1) (n - (a + 1))))) (foursL n) wr := by
                have := HE.out
                rwa [show n - e = (n - (e + 1)) + 1 by omega, rC, List.append_assoc] at this
              have HE := Lib.hid hE
              clear hE
              gi_wp2
              clear hcb
              obtain ⟨wc, rfl⟩ : ∃ wc : World, wc = wr := ⟨_, rfl⟩
              gi_loopw [6] (fun j wd => ∃ d : Nat, e + 1 ≤ d ∧ d ≤ n ∧ j = .int .i64 d ∧ Hid (FInv J S l W (rD a b e d (n - d) ++ (rC a b (e + 1) (n - (e + 1)) ++ (rB a (b + 1) (n - (b + 1)) ++ rA (a + 1) (n - (a + 1))))) (foursL n) wd)) (fun j _ => n - (Go.RowKit.intOf j).toNat)
              case atStart => exact ⟨e + 1, Nat.le_refl _, by omega, by go_num, HE⟩
              case round =>
                obtain ⟨d, hed, hd, rfl, HD⟩ := hrel
                clear HE
                have hcb := HC.out wr HD.out.1
                by_cases hdt : d < n
                · have hD : FInv J S l W ((a, b, e, d) :: (rD a b e (d + 1) (n - (d + 1)) ++ (rC a b (e + 1) (n - (e + 1)) ++ (rB a (b + 1) (n - (b + 1)) ++ rA (a + 1) (n - (a + 1)))))) (foursL n) wr := by
                    have := HD.out
                    rwa [show n - d = (n - (d + 1)) + 1 by omega, rD, List.cons_append] at this
                  obtain ⟨hk, pre, hj, hp⟩ := hD
                  have hjd : J pre wr.drew := HJ.out pre wr _ hj (KeepS.drew _ _)
                  have hen : EnFour p (a, b, e, d) #[.agg #[.int .i64 (a : Int), .int .i64 (b : Int), .int .i64 (e : Int), .int .i64 (d : Int)], .agg #[.int .i64 (p.getD a 0), .int .i64 (p.getD b 0), .int .i64 (p.getD e 0), .int .i64 (p.getD d 0)]] wr.drew := rfl
                  obtain ⟨fn, tmps, assign, body, hy, hR⟩ := HY.out pre (a, b, e, d) _ wr.drew hjd (by rw [← hp]; simp) hk.size hen
                  obtain ⟨ad, had, hnum⟩ := HN.out wr hk (by omega)
                  have hna := hnum a (by omega)
                  have hnb := hnum b (by omega)
                  have hne := hnum e (by omega)
                  have hnd := hnum d (by omega)
                  subst had
                  generalize p.getD a 0 = va at hna hy
                  generalize p.getD b 0 = vb at hnb hy
                  generalize p.getD e 0 = ve at hne hy
                  generalize p.getD d 0 = vd at hnd hy
                  have HP := Lib.hid hp
                  have HK := Lib.hid hk
                  clear hp hk hj hjd hen hnum HD
                  gi_wp2
                  refine wpIn_region_still_tail 23 (by kernel_rfl) (by kernel_rfl) ?_
                  simp only [List.take_succ_cons, List.take_zero, List.drop_succ_cons, List.drop_zero]
                  repeat still_step
                  try refine wpStill_nil ?_
                  change wpListIn _ _ _ _ _ _ _ (World.drew _)
                  gi_wp2
                  refine hR.mono ?_
                  rintro e' W3 ⟨hk3, (⟨rfl, hJ3⟩ | ⟨rfl, hJx3⟩)⟩
                  · have hD3 : FInv J S l W (rD a b e (d + 1) (n - (d + 1)) ++ (rC a b (e + 1) (n - (e + 1)) ++ (rB a (b + 1) (n - (b + 1)) ++ rA (a + 1) (n - (a + 1))))) (foursL n) W3 :=
                      ⟨(HK.out.trans (KeepS.drew _ _)).trans hk3, pre ++ [(a, b, e, d)], hJ3, by rw [← HP.out]; simp⟩
                    have HD3 := Lib.hid hD3
                    clear hD3 hJ3 hk3 hR hy hna hnb hne hnd HK HP hcb
                    gi_wp2
                    go_roundw
                    case rel => exact ⟨d + 1, by omega, by omega, by go_num, HD3⟩
                    case measure => simp [Go.RowKit.intOf]; omega
                  · have HK3 := Lib.hid ((HK.out.trans (KeepS.drew _ _)).trans hk3)
                    have HJ3 := Lib.hid hJx3
                    clear hJx3 hk3 hR hy hna hnb hne hnd HK HP hcb
                    gi_wp2
                    refine bodyPost_ret (results_none rfl _ _ _) rfl ?_
                    exact ⟨⟨_, rfl⟩, HK3.out, .inr ⟨_, HJ3.out⟩⟩
                · have hD : FInv J S l W (rC a b (e + 1) (n - (e + 1)) ++ (rB a (b + 1) (n - (b + 1)) ++ rA (a + 1) (n - (a + 1)))) (foursL n) wr := by
                    have := HD.out
                    rwa [show n - d = 0 by omega, rD, List.nil_append] at this
                  have HD := Lib.hid hD
                  clear hD
                  gi_wp2
                  go_roundw
                  case rel => exact ⟨e + 1, by omega, by omega, by go_num, HD⟩
                  case measure => simp [Go.RowKit.intOf]; omega
            · have hE : FInv J S l W (rB a (b + 1) (n - (b + 1)) ++ rA (a + 1) (n - (a + 1))) (foursL n) wr := by
                have := HE.out
                rwa [show n - e = 0 by omega, rC, List.nil_append] at this
              have HE := Lib.hid hE
              clear hE
              gi_wp2
              go_roundw
              case rel => exact ⟨b + 1, by omega, by omega, by go_num, HE⟩
              case measure => simp [Go.RowKit.intOf]; omega
        · have hB : FInv J S l W (rA (a + 1) (n - (a + 1))) (foursL n) wr := by
            have := HB.out
            rwa [show n - b = 0 by omega, rB, List.nil_append] at this
          have HB := Lib.hid hB
          clear hB
          gi_wp2
          go_roundw
          case rel => exact ⟨a + 1, by omega, by go_num, HB⟩
          case measure => simp [Go.RowKit.intOf]; omega
    · have hA : FInv J S l W [] (foursL n) wr := by
        have := HA.out
        rwa [show n - a = 0 by omega, rA] at this
      obtain ⟨hk, pre, hj, hp⟩ := hA
      rw [List.append_nil] at hp
      have HPP := Lib.hid hp
      clear hp
      have HK := Lib.hid hk
      have HJJ := Lib.hid hj
      clear hk hj HA
      gi_wp2
      go_end0
      exact ⟨⟨_, rfl⟩, HK.out, .inl (by rw [← HPP.out]; exact HJJ.out)⟩
end Go.Proofs.Ytgehkabfjpifiaa.S

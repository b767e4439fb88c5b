-- Our own text, written by wip/qprint.py over the kit's print.
import Derived.Test.YtmocablibmkebaaProg
import Derived.Below
import Derived.Deep.Draws
import Derived.Deep.AppendLies
import Derived.Maps.AppendAt
import Derived.OwnWalk
import Derived.Laws.BytesArg
import Derived.Laws.MakeOwn
import Derived.Laws.OwnMore
import Derived.Deep.OwnRows
import Derived.Tactics
import Derived.Lib.ConvBytes
import Derived.Laws.Slices
import Derived.WalkKit
import Derived.KernelRfl
import Derived.RowKit3
import Derived.Deep.LoopGhost
import Derived.Deep.QuietTactic
import Derived.BigQuiet
import Derived.WideLaws
import Derived.Deep.DeepCutAuto
import Derived.Deep.CutBlock
import Derived.Deep.RegionHeld3
import Derived.Laws.Rows
import Derived.Lib.AppendStr
import Derived.ArgAppend
import Derived.Laws.IdiomCopy
import Derived.OrdersHeld
import Derived.Laws.BitsLemmas
import Derived.RowKit
import Derived.Test.YtmocablibmkebaaWWords
import Derived.Test.YtmocablibmkebaaWLast
import Derived.Test.YtmocablibmkebaaWTab
import Derived.Test.YtmocablibmkebaaWFour
import Derived.Test.YtmocablibmkebaaWQPut
import Derived.Test.YtmocablibmkebaaWApart
import Derived.Test.YtmocablibmkebaaWArr
import Derived.Test.YtmocablibmkebaaWZeros
import Derived.Test.YtmocablibmkebaaWFoot
import Derived.Test.YtmocablibmkebaaWKept
import Derived.Test.YtmocablibmkebaaWShare
import Derived.Test.YtmocablibmkebaaWN
import Derived.Test.YtmocablibmkebaaWFootNe
import Derived.Test.YtmocablibmkebaaWAt
import Derived.Test.YtmocablibmkebaaWEqStruct
import Derived.Test.YtmocablibmkebaaWRepsOne
import Derived.Test.YtmocablibmkebaaWInv
import Derived.Test.YtmocablibmkebaaWInvWords
import Derived.Test.YtmocablibmkebaaWGuard
import Derived.Test.YtmocablibmkebaaWNEv
import Derived.Test.YtmocablibmkebaaWMore
namespace Go.Proofs.Ytmocablibmkebaa.Qs
open Go.RowKit Go.Proofs.YtmocablibmkebaaW.PrintWords Go.Proofs.YtmocablibmkebaaW.PrintLast Go.Proofs.YtmocablibmkebaaW.PrintMore
attribute [local go_sem] max2_int min2_int max_two min_two max_three min_three max_four min_four   -- for this text's walks alone
set_option linter.unusedVariables false
set_option linter.unusedSimpArgs false



def errW : Option Int → Value
  | none => .nilIface
  | some c => .iface 0 (.int .i64 c)
theorem errW_none : errW none = .nilIface := rfl
theorem errW_some (c : Int) : errW (some c) = .iface 0 (.int .i64 c) := rfl

theorem info5 : (Try.prog.info? 5).map (fun i => (i.zero, i.size, i.bytes)) = some (some (.int .u8 0), 1, 1) := by kernel_rfl
-- the values' own types
/-! #### struct type 32, nested in itself -/
structure S32 where
  f0 : Int
  f1 : (List S32)
def z32 : S32 := ⟨(0 : Int), ([] : List S32)⟩
def F32 (d : Kd S32) : Kd S32 := Kd.iso (Kd.pair (Kd.int .u8) (Kd.slice 32 d)) (fun x : S32 => (x.f0, x.f1))
theorem mono32 : Kd.Mono F32 := Kd.mono_iso _ (Kd.mono_pair (Kd.mono_const _) (Kd.mono_slice 32 Kd.mono_id))
theorem sub32 : Kd.Sub F32 [32] := Kd.sub_iso _ (Kd.sub_pair (Kd.sub_const _ (by decide)) (Kd.sub_slice 32 (by decide) Kd.sub_id))
theorem sz32 : ∀ n, (Kd.upto F32 2 [32] n).sz = 2 := Kd.upto_sz (fun _ => rfl)
def k32 : Kd S32 := Kd.fix F32 2 [32] sz32 (Kd.upto_E sub32)
theorem k32_open {w : World} {x : S32} {cs : List Value} (h : k32.K w x cs) : ∃ A1 c1, cs = [.int .u8 x.f0, .slice A1 x.f1.length c1] ∧ x.f1.length ≤ c1 ∧ k32.C w A1 x.f1.length x.f1 := by
  obtain ⟨n, h⟩ := h
  cases n with
  | zero => exact h.elim
  | succ n =>
    obtain ⟨_, _, rfl, rfl, ⟨A1, c1, rfl, l1, g1⟩⟩ := h
    exact ⟨A1, c1, rfl, l1, Kd.fix_C g1⟩
theorem k32_openM {w : World} {base : Nat} {ok : Nat → Prop} {x : S32} {cs : List Value} (h : k32.M w base ok x cs) : ∃ v1, cs = [.int .u8 x.f0, v1] ∧ k32.R 32 w base ok v1 x.f1 := by
  obtain ⟨n, h⟩ := h
  cases n with
  | zero => exact h.elim
  | succ n =>
    obtain ⟨_, _, rfl, rfl, ⟨v1, rfl, g1⟩⟩ := h
    exact ⟨v1, rfl, Kd.fix_R g1⟩
theorem k32_mk (w : World) (x : S32) {A1 : Option Addr} {c1 : Nat} (l1 : x.f1.length ≤ c1) (g1 : k32.C w A1 x.f1.length x.f1) : k32.K w x [.int .u8 x.f0, .slice A1 x.f1.length c1] := by
  obtain ⟨n1, q1⟩ := Kd.fix_C_back mono32 g1
  have r1 := Kd.upto_C_le mono32 sz32 (show n1 ≤ n1 by omega) q1
  exact ⟨n1 + 1, ⟨[.int .u8 x.f0], [.slice A1 x.f1.length c1], rfl, rfl, ⟨A1, c1, rfl, l1, r1⟩⟩⟩
theorem k32_mkM (w : World) (base : Nat) (ok : Nat → Prop) (x : S32) {v1 : Value} (g1 : k32.R 32 w base ok v1 x.f1) : k32.M w base ok x [.int .u8 x.f0, v1] := by
  obtain ⟨n1, q1⟩ := Kd.fix_R_back mono32 g1
  have r1 := Kd.upto_R_le mono32 sz32 (show n1 ≤ n1 by omega) q1
  exact ⟨n1 + 1, ⟨[.int .u8 x.f0], [v1], rfl, rfl, ⟨v1, rfl, r1⟩⟩⟩
def rd_T32 (xs : List S32) (i : Int) : S32 := xs.getD i.toNat z32
theorem at_T32 {w : World} {A : Option Addr} {n : Nat} {xs : List S32} (h : Kd.C k32 w A n xs) (i : Int) (h0 : 0 ≤ i) (h1 : i < n) : ∃ ad A1 c1, A = some ad ∧ w.cell? (ad.add (i.toNat * 2)) = some (.int .u8 (rd_T32 xs i).f0) ∧ w.cell? ⟨(ad.add (i.toNat * 2)).block, (ad.add (i.toNat * 2)).off + 1, none⟩ = some (.slice A1 (rd_T32 xs i).f1.length c1) ∧ (rd_T32 xs i).f1.length ≤ c1 ∧ k32.C w A1 (rd_T32 xs i).f1.length (rd_T32 xs i).f1 := by
  obtain ⟨ad, c, e, _, hK, hc0⟩ := Kd.C_get h z32 i h0 h1
  have hc : ∀ j u, c[j]? = some u → w.cell? (ad.add (i.toNat * 2 + j)) = some u := hc0
  obtain ⟨A1, c1, rfl, l1, g1⟩ := k32_open hK
  exact ⟨ad, A1, c1, e, hc 0 _ rfl, by rw [← add_field _ _ 1 (by omega)]; exact hc 1 _ rfl, l1, g1⟩

end Go.Proofs.Ytmocablibmkebaa.Qs

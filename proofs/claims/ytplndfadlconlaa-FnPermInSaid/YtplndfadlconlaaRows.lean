/-
  No cell of these rows narrows 'for every input' (looked for: loops, veiled, ifaces, maps, wideKeys, modest, calm, conditions, laid).
  DERIVED. THE GIVEN ROWS OF THIS SEAT. 9 by the template 'for every input the law returns true; each argument reads behind the call as it read before'; 0 by the template 'total and deterministic' (their statements: YtplndfadlconlaaTotals.lean).
  GIVEN WITH THE SEED: the statements are not yours to turn. If you find one false, say at which input.
  Laid BY PROGRAM, IN A SANDBOX (cutbox-rows.mjs): the forced cells as the released guide's own fill.sh prints them over the translation 2e4462bb154f85da… (all of the seat's roots in one cut). By AI agents, Wed Nov 11 2026. No macro, syntax, notation, axiom, sorry.
-/
import Derived.Test.YtplndfadlconlaaChecked
import GoSem.Claim
import GoSem.ClaimJoined
import GoSem.ClaimMapViews
import Derived.JoinedTies
import Derived.KernelRfl
namespace Go.Proofs.Ytplndfadlconlaa
/- THE CELL 'sum', in the pinned program and in every row, IS THE sha256 OF THE DUMP (.gsa) THAT YtplndfadlconlaaProg.lean LOADS. Nothing in Lean hashes anything: it is a label: what it is worth is what the hold of that sum in a sandbox is worth. -/
noncomputable def Try.pinned : Pinned := { name := "ytplndfadlconlaa", sum := "2e4462bb154f85dae77c2fec80eb1f0c782b4fedfcf670511fdb6879dfe21ef8", checked := Try.checked }
namespace Rows
def none {H : Type} : Left H := { results := [], args := [] }

/-- 'laws.FnExactPermIn': WHATEVER THE INPUT: true; the input reads as it did. -/
def fnExactPermInSpec : ChangeSpec := { name := "fnExactPermIn", fn := fun _ => fun
  | [d] => { results := [.lit (.bool true)], args := [d] }
  | _ => none }
def fnExactPermInRow : OpenClaim := { program := "ytplndfadlconlaa", sum := "2e4462bb154f85dae77c2fec80eb1f0c782b4fedfcf670511fdb6879dfe21ef8", func := "loop.example/floorrooms/laws.FnExactPermIn", spec := "fnExactPermIn", apart := false }
def FnExactPermInSaid : Prop := fnExactPermInRow.holds Try.pinned (OpenSpec.ofChange fnExactPermInSpec)

/-- ITS FALSE NEIGHBOUR: 'it returns false'. Refute it at one input. -/
def fnExactPermInWrong : ChangeSpec := { name := "fnExactPermIn", fn := fun _ => fun
  | [d] => { results := [.lit (.bool false)], args := [d] }
  | _ => none }
def FnExactPermInWrongFalsely : Prop := fnExactPermInRow.holds Try.pinned (OpenSpec.ofChange fnExactPermInWrong)

/-- 'laws.FnExactPermOther': WHATEVER THE INPUT: true; the input reads as it did. -/
def fnExactPermOtherSpec : ChangeSpec := { name := "fnExactPermOther", fn := fun _ => fun
  | [d] => { results := [.lit (.bool true)], args := [d] }
  | _ => none }
def fnExactPermOtherRow : OpenClaim := { program := "ytplndfadlconlaa", sum := "2e4462bb154f85dae77c2fec80eb1f0c782b4fedfcf670511fdb6879dfe21ef8", func := "loop.example/floorrooms/laws.FnExactPermOther", spec := "fnExactPermOther", apart := false }
def FnExactPermOtherSaid : Prop := fnExactPermOtherRow.holds Try.pinned (OpenSpec.ofChange fnExactPermOtherSpec)

/-- ITS FALSE NEIGHBOUR: 'it returns false'. Refute it at one input. -/
def fnExactPermOtherWrong : ChangeSpec := { name := "fnExactPermOther", fn := fun _ => fun
  | [d] => { results := [.lit (.bool false)], args := [d] }
  | _ => none }
def FnExactPermOtherWrongFalsely : Prop := fnExactPermOtherRow.holds Try.pinned (OpenSpec.ofChange fnExactPermOtherWrong)

/-- 'laws.FnExactPermBack': WHATEVER THE INPUT: true; the input reads as it did. -/
def fnExactPermBackSpec : ChangeSpec := { name := "fnExactPermBack", fn := fun _ => fun
  | [d] => { results := [.lit (.bool true)], args := [d] }
  | _ => none }
def fnExactPermBackRow : OpenClaim := { program := "ytplndfadlconlaa", sum := "2e4462bb154f85dae77c2fec80eb1f0c782b4fedfcf670511fdb6879dfe21ef8", func := "loop.example/floorrooms/laws.FnExactPermBack", spec := "fnExactPermBack", apart := false }
def FnExactPermBackSaid : Prop := fnExactPermBackRow.holds Try.pinned (OpenSpec.ofChange fnExactPermBackSpec)

/-- ITS FALSE NEIGHBOUR: 'it returns false'. Refute it at one input. -/
def fnExactPermBackWrong : ChangeSpec := { name := "fnExactPermBack", fn := fun _ => fun
  | [d] => { results := [.lit (.bool false)], args := [d] }
  | _ => none }
def FnExactPermBackWrongFalsely : Prop := fnExactPermBackRow.holds Try.pinned (OpenSpec.ofChange fnExactPermBackWrong)

/-- 'laws.FnOther': WHATEVER THE INPUT: true; the input reads as it did. -/
def fnOtherSpec : ChangeSpec := { name := "fnOther", fn := fun _ => fun
  | [d] => { results := [.lit (.bool true)], args := [d] }
  | _ => none }
def fnOtherRow : OpenClaim := { program := "ytplndfadlconlaa", sum := "2e4462bb154f85dae77c2fec80eb1f0c782b4fedfcf670511fdb6879dfe21ef8", func := "loop.example/floorrooms/laws.FnOther", spec := "fnOther", apart := false }
def FnOtherSaid : Prop := fnOtherRow.holds Try.pinned (OpenSpec.ofChange fnOtherSpec)

/-- ITS FALSE NEIGHBOUR: 'it returns false'. Refute it at one input. -/
def fnOtherWrong : ChangeSpec := { name := "fnOther", fn := fun _ => fun
  | [d] => { results := [.lit (.bool false)], args := [d] }
  | _ => none }
def FnOtherWrongFalsely : Prop := fnOtherRow.holds Try.pinned (OpenSpec.ofChange fnOtherWrong)

/-- 'laws.FnPermIn': WHATEVER THE INPUT: true; the input reads as it did. -/
def fnPermInSpec : ChangeSpec := { name := "fnPermIn", fn := fun _ => fun
  | [d] => { results := [.lit (.bool true)], args := [d] }
  | _ => none }
def fnPermInRow : OpenClaim := { program := "ytplndfadlconlaa", sum := "2e4462bb154f85dae77c2fec80eb1f0c782b4fedfcf670511fdb6879dfe21ef8", func := "loop.example/floorrooms/laws.FnPermIn", spec := "fnPermIn", apart := false }
def FnPermInSaid : Prop := fnPermInRow.holds Try.pinned (OpenSpec.ofChange fnPermInSpec)

/-- ITS FALSE NEIGHBOUR: 'it returns false'. Refute it at one input. -/
def fnPermInWrong : ChangeSpec := { name := "fnPermIn", fn := fun _ => fun
  | [d] => { results := [.lit (.bool false)], args := [d] }
  | _ => none }
def FnPermInWrongFalsely : Prop := fnPermInRow.holds Try.pinned (OpenSpec.ofChange fnPermInWrong)

/-- 'laws.FnBack': WHATEVER THE INPUT: true; the input reads as it did. -/
def fnBackSpec : ChangeSpec := { name := "fnBack", fn := fun _ => fun
  | [d] => { results := [.lit (.bool true)], args := [d] }
  | _ => none }
def fnBackRow : OpenClaim := { program := "ytplndfadlconlaa", sum := "2e4462bb154f85dae77c2fec80eb1f0c782b4fedfcf670511fdb6879dfe21ef8", func := "loop.example/floorrooms/laws.FnBack", spec := "fnBack", apart := false }
def FnBackSaid : Prop := fnBackRow.holds Try.pinned (OpenSpec.ofChange fnBackSpec)

/-- ITS FALSE NEIGHBOUR: 'it returns false'. Refute it at one input. -/
def fnBackWrong : ChangeSpec := { name := "fnBack", fn := fun _ => fun
  | [d] => { results := [.lit (.bool false)], args := [d] }
  | _ => none }
def FnBackWrongFalsely : Prop := fnBackRow.holds Try.pinned (OpenSpec.ofChange fnBackWrong)

/-- 'laws.FnExactPermAside': WHATEVER THE INPUT: true; the input reads as it did. -/
def fnExactPermAsideSpec : ChangeSpec := { name := "fnExactPermAside", fn := fun _ => fun
  | [d1, d2] => { results := [.lit (.bool true)], args := [d1, d2] }
  | _ => none }
def fnExactPermAsideRow : OpenClaim := { program := "ytplndfadlconlaa", sum := "2e4462bb154f85dae77c2fec80eb1f0c782b4fedfcf670511fdb6879dfe21ef8", func := "loop.example/floorrooms/laws.FnExactPermAside", spec := "fnExactPermAside", apart := false }
def FnExactPermAsideSaid : Prop := fnExactPermAsideRow.holds Try.pinned (OpenSpec.ofChange fnExactPermAsideSpec)

/-- ITS FALSE NEIGHBOUR: 'it returns false'. Refute it at one input. -/
def fnExactPermAsideWrong : ChangeSpec := { name := "fnExactPermAside", fn := fun _ => fun
  | [d1, d2] => { results := [.lit (.bool false)], args := [d1, d2] }
  | _ => none }
def FnExactPermAsideWrongFalsely : Prop := fnExactPermAsideRow.holds Try.pinned (OpenSpec.ofChange fnExactPermAsideWrong)

/-- 'laws.FnExactPermUnder': WHATEVER THE INPUT: true; the input reads as it did. -/
def fnExactPermUnderSpec : ChangeSpec := { name := "fnExactPermUnder", fn := fun _ => fun
  | [d1, d2] => { results := [.lit (.bool true)], args := [d1, d2] }
  | _ => none }
def fnExactPermUnderRow : OpenClaim := { program := "ytplndfadlconlaa", sum := "2e4462bb154f85dae77c2fec80eb1f0c782b4fedfcf670511fdb6879dfe21ef8", func := "loop.example/floorrooms/laws.FnExactPermUnder", spec := "fnExactPermUnder", apart := false }
def FnExactPermUnderSaid : Prop := fnExactPermUnderRow.holds Try.pinned (OpenSpec.ofChange fnExactPermUnderSpec)

/-- ITS FALSE NEIGHBOUR: 'it returns false'. Refute it at one input. -/
def fnExactPermUnderWrong : ChangeSpec := { name := "fnExactPermUnder", fn := fun _ => fun
  | [d1, d2] => { results := [.lit (.bool false)], args := [d1, d2] }
  | _ => none }
def FnExactPermUnderWrongFalsely : Prop := fnExactPermUnderRow.holds Try.pinned (OpenSpec.ofChange fnExactPermUnderWrong)

/-- 'laws.FnUnderPerm': WHATEVER THE INPUT: true; the input reads as it did. -/
def fnUnderPermSpec : ChangeSpec := { name := "fnUnderPerm", fn := fun _ => fun
  | [d] => { results := [.lit (.bool true)], args := [d] }
  | _ => none }
def fnUnderPermRow : OpenClaim := { program := "ytplndfadlconlaa", sum := "2e4462bb154f85dae77c2fec80eb1f0c782b4fedfcf670511fdb6879dfe21ef8", func := "loop.example/floorrooms/laws.FnUnderPerm", spec := "fnUnderPerm", apart := false }
def FnUnderPermSaid : Prop := fnUnderPermRow.holds Try.pinned (OpenSpec.ofChange fnUnderPermSpec)

/-- ITS FALSE NEIGHBOUR: 'it returns false'. Refute it at one input. -/
def fnUnderPermWrong : ChangeSpec := { name := "fnUnderPerm", fn := fun _ => fun
  | [d] => { results := [.lit (.bool false)], args := [d] }
  | _ => none }
def FnUnderPermWrongFalsely : Prop := fnUnderPermRow.holds Try.pinned (OpenSpec.ofChange fnUnderPermWrong)

/- THE SECOND FORM. 'bulk': how many values and letters a reading holds, each counted each time it is reached (what is shared counts as often as it is met; a slice's spare places count too). A statement '..UptoSaid' is the law's where the arguments, and the package variables that the reading takes, are together of bulk at most 1048576: NARROWER than '..Said'. Prove '..Said' where nothing that the law and all that it calls make is longer than what came in: it says more and counts as full. Else prove '..UptoSaid'. A law counts once. -/
mutual
def uptoBulk {H : Type} : DataW H → Nat
  | .lit (.string bytes) => bytes.length + 1
  | .lit _ => 1
  | .nil => 1
  | .ptr d => uptoBulk d + 1
  | .slice elems spare => uptoBulkAll elems + uptoBulkAll spare + 1
  | .agg parts => uptoBulkAll parts + 1
  | .iface _ d => uptoBulk d + 1
  | .map entries => uptoBulkEntries entries + 1
  | .held _ => 1
def uptoBulkAll {H : Type} : List (DataW H) → Nat
  | [] => 0
  | d :: r => uptoBulk d + uptoBulkAll r
def uptoBulkEntries {H : Type} : List (Lit × DataW H) → Nat
  | [] => 0
  | x :: r => uptoBulkEntry x + uptoBulkEntries r
def uptoBulkEntry {H : Type} : Lit × DataW H → Nat
  | (.string bytes, d) => bytes.length + uptoBulk d + 1
  | (_, d) => uptoBulk d + 1
 end
def uptoSmall : (H : Type) → List (DataW H) → Bool := fun _ ds => decide (uptoBulkAll ds ≤ 1048576)
def OpenSpec.upto (s : _root_.Go.ChangeSpec) : _root_.Go.OpenSpec := { _root_.Go.OpenSpec.ofChange s with cond := some uptoSmall }

/-- 'laws.FnExactPermIn', WHERE WHAT IT READS IS OF BULK AT MOST 1048576: true; the input reads as it did. -/
def fnExactPermInUptoRow : OpenClaim := { program := "ytplndfadlconlaa", sum := "2e4462bb154f85dae77c2fec80eb1f0c782b4fedfcf670511fdb6879dfe21ef8", func := "loop.example/floorrooms/laws.FnExactPermIn", spec := "fnExactPermIn", apart := false, narrowed := true }
def FnExactPermInUptoSaid : Prop := fnExactPermInUptoRow.holds Try.pinned (OpenSpec.upto fnExactPermInSpec)

/-- 'laws.FnExactPermOther', WHERE WHAT IT READS IS OF BULK AT MOST 1048576: true; the input reads as it did. -/
def fnExactPermOtherUptoRow : OpenClaim := { program := "ytplndfadlconlaa", sum := "2e4462bb154f85dae77c2fec80eb1f0c782b4fedfcf670511fdb6879dfe21ef8", func := "loop.example/floorrooms/laws.FnExactPermOther", spec := "fnExactPermOther", apart := false, narrowed := true }
def FnExactPermOtherUptoSaid : Prop := fnExactPermOtherUptoRow.holds Try.pinned (OpenSpec.upto fnExactPermOtherSpec)

/-- 'laws.FnExactPermBack', WHERE WHAT IT READS IS OF BULK AT MOST 1048576: true; the input reads as it did. -/
def fnExactPermBackUptoRow : OpenClaim := { program := "ytplndfadlconlaa", sum := "2e4462bb154f85dae77c2fec80eb1f0c782b4fedfcf670511fdb6879dfe21ef8", func := "loop.example/floorrooms/laws.FnExactPermBack", spec := "fnExactPermBack", apart := false, narrowed := true }
def FnExactPermBackUptoSaid : Prop := fnExactPermBackUptoRow.holds Try.pinned (OpenSpec.upto fnExactPermBackSpec)

/-- 'laws.FnOther', WHERE WHAT IT READS IS OF BULK AT MOST 1048576: true; the input reads as it did. -/
def fnOtherUptoRow : OpenClaim := { program := "ytplndfadlconlaa", sum := "2e4462bb154f85dae77c2fec80eb1f0c782b4fedfcf670511fdb6879dfe21ef8", func := "loop.example/floorrooms/laws.FnOther", spec := "fnOther", apart := false, narrowed := true }
def FnOtherUptoSaid : Prop := fnOtherUptoRow.holds Try.pinned (OpenSpec.upto fnOtherSpec)

/-- 'laws.FnPermIn', WHERE WHAT IT READS IS OF BULK AT MOST 1048576: true; the input reads as it did. -/
def fnPermInUptoRow : OpenClaim := { program := "ytplndfadlconlaa", sum := "2e4462bb154f85dae77c2fec80eb1f0c782b4fedfcf670511fdb6879dfe21ef8", func := "loop.example/floorrooms/laws.FnPermIn", spec := "fnPermIn", apart := false, narrowed := true }
def FnPermInUptoSaid : Prop := fnPermInUptoRow.holds Try.pinned (OpenSpec.upto fnPermInSpec)

/-- 'laws.FnBack', WHERE WHAT IT READS IS OF BULK AT MOST 1048576: true; the input reads as it did. -/
def fnBackUptoRow : OpenClaim := { program := "ytplndfadlconlaa", sum := "2e4462bb154f85dae77c2fec80eb1f0c782b4fedfcf670511fdb6879dfe21ef8", func := "loop.example/floorrooms/laws.FnBack", spec := "fnBack", apart := false, narrowed := true }
def FnBackUptoSaid : Prop := fnBackUptoRow.holds Try.pinned (OpenSpec.upto fnBackSpec)

/-- 'laws.FnExactPermAside', WHERE WHAT IT READS IS OF BULK AT MOST 1048576: true; the input reads as it did. -/
def fnExactPermAsideUptoRow : OpenClaim := { program := "ytplndfadlconlaa", sum := "2e4462bb154f85dae77c2fec80eb1f0c782b4fedfcf670511fdb6879dfe21ef8", func := "loop.example/floorrooms/laws.FnExactPermAside", spec := "fnExactPermAside", apart := false, narrowed := true }
def FnExactPermAsideUptoSaid : Prop := fnExactPermAsideUptoRow.holds Try.pinned (OpenSpec.upto fnExactPermAsideSpec)

/-- 'laws.FnExactPermUnder', WHERE WHAT IT READS IS OF BULK AT MOST 1048576: true; the input reads as it did. -/
def fnExactPermUnderUptoRow : OpenClaim := { program := "ytplndfadlconlaa", sum := "2e4462bb154f85dae77c2fec80eb1f0c782b4fedfcf670511fdb6879dfe21ef8", func := "loop.example/floorrooms/laws.FnExactPermUnder", spec := "fnExactPermUnder", apart := false, narrowed := true }
def FnExactPermUnderUptoSaid : Prop := fnExactPermUnderUptoRow.holds Try.pinned (OpenSpec.upto fnExactPermUnderSpec)

/-- 'laws.FnUnderPerm', WHERE WHAT IT READS IS OF BULK AT MOST 1048576: true; the input reads as it did. -/
def fnUnderPermUptoRow : OpenClaim := { program := "ytplndfadlconlaa", sum := "2e4462bb154f85dae77c2fec80eb1f0c782b4fedfcf670511fdb6879dfe21ef8", func := "loop.example/floorrooms/laws.FnUnderPerm", spec := "fnUnderPerm", apart := false, narrowed := true }
def FnUnderPermUptoSaid : Prop := fnUnderPermUptoRow.holds Try.pinned (OpenSpec.upto fnUnderPermSpec)

end Rows
end Go.Proofs.Ytplndfadlconlaa

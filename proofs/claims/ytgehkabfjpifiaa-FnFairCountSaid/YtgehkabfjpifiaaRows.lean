/-
  No cell of these rows narrows 'for every input' (looked for: loops, veiled, ifaces, maps, wideKeys, modest, calm, conditions, laid).
  DERIVED. THE GIVEN ROWS OF THIS SEAT. 8 by the template 'for every input the law returns true; each argument reads behind the call as it read before'; 0 by the template 'total and deterministic' (their statements: YtgehkabfjpifiaaTotals.lean).
  GIVEN WITH THE SEED: the statements are not yours to turn. If you find one false, say at which input.
  Laid BY PROGRAM, IN A SANDBOX (cutbox-rows.mjs): the forced cells as the released guide's own fill.sh prints them over the translation 7b86fe73ed315c50… (all of the seat's roots in one cut). By AI agents, Wed Nov 11 2026. No macro, syntax, notation, axiom, sorry.
-/
import Derived.Test.YtgehkabfjpifiaaChecked
import GoSem.Claim
import GoSem.ClaimJoined
import GoSem.ClaimMapViews
import Derived.JoinedTies
import Derived.KernelRfl
namespace Go.Proofs.Ytgehkabfjpifiaa
/- THE CELL 'sum', in the pinned program and in every row, IS THE sha256 OF THE DUMP (.gsa) THAT YtgehkabfjpifiaaProg.lean LOADS. Nothing in Lean hashes anything: it is a label: what it is worth is what the hold of that sum in a sandbox is worth. -/
noncomputable def Try.pinned : Pinned := { name := "ytgehkabfjpifiaa", sum := "7b86fe73ed315c506484b26b86a09ad22159b263f3db4732dd9c9583715beb04", checked := Try.checked }
namespace Rows
def none {H : Type} : Left H := { results := [], args := [] }

/-- 'laws.FnExactPermLooseSum': WHATEVER THE INPUT: true; the input reads as it did. -/
def fnExactPermLooseSumSpec : ChangeSpec := { name := "fnExactPermLooseSum", fn := fun _ => fun
  | [d] => { results := [.lit (.bool true)], args := [d] }
  | _ => none }
def fnExactPermLooseSumRow : OpenClaim := { program := "ytgehkabfjpifiaa", sum := "7b86fe73ed315c506484b26b86a09ad22159b263f3db4732dd9c9583715beb04", func := "loop.example/floorrooms/laws.FnExactPermLooseSum", spec := "fnExactPermLooseSum", apart := false }
def FnExactPermLooseSumSaid : Prop := fnExactPermLooseSumRow.holds Try.pinned (OpenSpec.ofChange fnExactPermLooseSumSpec)

/-- ITS FALSE NEIGHBOUR: 'it returns false'. Refute it at one input. -/
def fnExactPermLooseSumWrong : ChangeSpec := { name := "fnExactPermLooseSum", fn := fun _ => fun
  | [d] => { results := [.lit (.bool false)], args := [d] }
  | _ => none }
def FnExactPermLooseSumWrongFalsely : Prop := fnExactPermLooseSumRow.holds Try.pinned (OpenSpec.ofChange fnExactPermLooseSumWrong)

/-- 'laws.FnExactPermFairSum': WHATEVER THE INPUT: true; the input reads as it did. -/
def fnExactPermFairSumSpec : ChangeSpec := { name := "fnExactPermFairSum", fn := fun _ => fun
  | [d] => { results := [.lit (.bool true)], args := [d] }
  | _ => none }
def fnExactPermFairSumRow : OpenClaim := { program := "ytgehkabfjpifiaa", sum := "7b86fe73ed315c506484b26b86a09ad22159b263f3db4732dd9c9583715beb04", func := "loop.example/floorrooms/laws.FnExactPermFairSum", spec := "fnExactPermFairSum", apart := false }
def FnExactPermFairSumSaid : Prop := fnExactPermFairSumRow.holds Try.pinned (OpenSpec.ofChange fnExactPermFairSumSpec)

/-- ITS FALSE NEIGHBOUR: 'it returns false'. Refute it at one input. -/
def fnExactPermFairSumWrong : ChangeSpec := { name := "fnExactPermFairSum", fn := fun _ => fun
  | [d] => { results := [.lit (.bool false)], args := [d] }
  | _ => none }
def FnExactPermFairSumWrongFalsely : Prop := fnExactPermFairSumRow.holds Try.pinned (OpenSpec.ofChange fnExactPermFairSumWrong)

/-- 'laws.FnLooseSum': WHATEVER THE INPUT: true; the input reads as it did. -/
def fnLooseSumSpec : ChangeSpec := { name := "fnLooseSum", fn := fun _ => fun
  | [d] => { results := [.lit (.bool true)], args := [d] }
  | _ => none }
def fnLooseSumRow : OpenClaim := { program := "ytgehkabfjpifiaa", sum := "7b86fe73ed315c506484b26b86a09ad22159b263f3db4732dd9c9583715beb04", func := "loop.example/floorrooms/laws.FnLooseSum", spec := "fnLooseSum", apart := false }
def FnLooseSumSaid : Prop := fnLooseSumRow.holds Try.pinned (OpenSpec.ofChange fnLooseSumSpec)

/-- ITS FALSE NEIGHBOUR: 'it returns false'. Refute it at one input. -/
def fnLooseSumWrong : ChangeSpec := { name := "fnLooseSum", fn := fun _ => fun
  | [d] => { results := [.lit (.bool false)], args := [d] }
  | _ => none }
def FnLooseSumWrongFalsely : Prop := fnLooseSumRow.holds Try.pinned (OpenSpec.ofChange fnLooseSumWrong)

/-- 'laws.FnFairSum': WHATEVER THE INPUT: true; the input reads as it did. -/
def fnFairSumSpec : ChangeSpec := { name := "fnFairSum", fn := fun _ => fun
  | [d] => { results := [.lit (.bool true)], args := [d] }
  | _ => none }
def fnFairSumRow : OpenClaim := { program := "ytgehkabfjpifiaa", sum := "7b86fe73ed315c506484b26b86a09ad22159b263f3db4732dd9c9583715beb04", func := "loop.example/floorrooms/laws.FnFairSum", spec := "fnFairSum", apart := false }
def FnFairSumSaid : Prop := fnFairSumRow.holds Try.pinned (OpenSpec.ofChange fnFairSumSpec)

/-- ITS FALSE NEIGHBOUR: 'it returns false'. Refute it at one input. -/
def fnFairSumWrong : ChangeSpec := { name := "fnFairSum", fn := fun _ => fun
  | [d] => { results := [.lit (.bool false)], args := [d] }
  | _ => none }
def FnFairSumWrongFalsely : Prop := fnFairSumRow.holds Try.pinned (OpenSpec.ofChange fnFairSumWrong)

/-- 'laws.FnExactPermLooseCount': WHATEVER THE INPUT: true; the input reads as it did. -/
def fnExactPermLooseCountSpec : ChangeSpec := { name := "fnExactPermLooseCount", fn := fun _ => fun
  | [d] => { results := [.lit (.bool true)], args := [d] }
  | _ => none }
def fnExactPermLooseCountRow : OpenClaim := { program := "ytgehkabfjpifiaa", sum := "7b86fe73ed315c506484b26b86a09ad22159b263f3db4732dd9c9583715beb04", func := "loop.example/floorrooms/laws.FnExactPermLooseCount", spec := "fnExactPermLooseCount", unfollowed := true, recurses := true, apart := false }
def FnExactPermLooseCountSaid : Prop := fnExactPermLooseCountRow.holds Try.pinned (OpenSpec.ofChange fnExactPermLooseCountSpec)

/-- ITS FALSE NEIGHBOUR: 'it returns false'. Refute it at one input. -/
def fnExactPermLooseCountWrong : ChangeSpec := { name := "fnExactPermLooseCount", fn := fun _ => fun
  | [d] => { results := [.lit (.bool false)], args := [d] }
  | _ => none }
def FnExactPermLooseCountWrongFalsely : Prop := fnExactPermLooseCountRow.holds Try.pinned (OpenSpec.ofChange fnExactPermLooseCountWrong)

/-- 'laws.FnExactPermFairCount': WHATEVER THE INPUT: true; the input reads as it did. -/
def fnExactPermFairCountSpec : ChangeSpec := { name := "fnExactPermFairCount", fn := fun _ => fun
  | [d] => { results := [.lit (.bool true)], args := [d] }
  | _ => none }
def fnExactPermFairCountRow : OpenClaim := { program := "ytgehkabfjpifiaa", sum := "7b86fe73ed315c506484b26b86a09ad22159b263f3db4732dd9c9583715beb04", func := "loop.example/floorrooms/laws.FnExactPermFairCount", spec := "fnExactPermFairCount", unfollowed := true, recurses := true, apart := false }
def FnExactPermFairCountSaid : Prop := fnExactPermFairCountRow.holds Try.pinned (OpenSpec.ofChange fnExactPermFairCountSpec)

/-- ITS FALSE NEIGHBOUR: 'it returns false'. Refute it at one input. -/
def fnExactPermFairCountWrong : ChangeSpec := { name := "fnExactPermFairCount", fn := fun _ => fun
  | [d] => { results := [.lit (.bool false)], args := [d] }
  | _ => none }
def FnExactPermFairCountWrongFalsely : Prop := fnExactPermFairCountRow.holds Try.pinned (OpenSpec.ofChange fnExactPermFairCountWrong)

/-- 'laws.FnLooseCount': WHATEVER THE INPUT: true; the input reads as it did. -/
def fnLooseCountSpec : ChangeSpec := { name := "fnLooseCount", fn := fun _ => fun
  | [d] => { results := [.lit (.bool true)], args := [d] }
  | _ => none }
def fnLooseCountRow : OpenClaim := { program := "ytgehkabfjpifiaa", sum := "7b86fe73ed315c506484b26b86a09ad22159b263f3db4732dd9c9583715beb04", func := "loop.example/floorrooms/laws.FnLooseCount", spec := "fnLooseCount", unfollowed := true, recurses := true, apart := false }
def FnLooseCountSaid : Prop := fnLooseCountRow.holds Try.pinned (OpenSpec.ofChange fnLooseCountSpec)

/-- ITS FALSE NEIGHBOUR: 'it returns false'. Refute it at one input. -/
def fnLooseCountWrong : ChangeSpec := { name := "fnLooseCount", fn := fun _ => fun
  | [d] => { results := [.lit (.bool false)], args := [d] }
  | _ => none }
def FnLooseCountWrongFalsely : Prop := fnLooseCountRow.holds Try.pinned (OpenSpec.ofChange fnLooseCountWrong)

/-- 'laws.FnFairCount': WHATEVER THE INPUT: true; the input reads as it did. -/
def fnFairCountSpec : ChangeSpec := { name := "fnFairCount", fn := fun _ => fun
  | [d] => { results := [.lit (.bool true)], args := [d] }
  | _ => none }
def fnFairCountRow : OpenClaim := { program := "ytgehkabfjpifiaa", sum := "7b86fe73ed315c506484b26b86a09ad22159b263f3db4732dd9c9583715beb04", func := "loop.example/floorrooms/laws.FnFairCount", spec := "fnFairCount", unfollowed := true, recurses := true, apart := false }
def FnFairCountSaid : Prop := fnFairCountRow.holds Try.pinned (OpenSpec.ofChange fnFairCountSpec)

/-- ITS FALSE NEIGHBOUR: 'it returns false'. Refute it at one input. -/
def fnFairCountWrong : ChangeSpec := { name := "fnFairCount", fn := fun _ => fun
  | [d] => { results := [.lit (.bool false)], args := [d] }
  | _ => none }
def FnFairCountWrongFalsely : Prop := fnFairCountRow.holds Try.pinned (OpenSpec.ofChange fnFairCountWrong)

/- THE SECOND FORM. 'bulk': how many values and letters a reading holds, each counted each time it is reached (what is shared counts as often as it is met; a slice's spare places count too). A statement '..UptoSaid' is the law's where the arguments, and the package variables that the reading takes, are together of bulk at most 1048576: NARROWER than '..Said'. Prove '..Said' where nothing that the law and all that it calls make is longer than what came in: it says more and counts as full. Else prove '..UptoSaid'. A law counts once. -/
mutual
def uptoBulk {H : Type} : DataW H → Nat
  | .lit (.string bytes) => bytes.length + 1
  | .lit _ => 1
  | .nil => 1
  | .ptr d => uptoBulk d + 1
  | .slice elems spare => uptoBulkAll elems + uptoBulkAll spare + 1
  | .agg parts => uptoBulkAll parts + 1
  | .iface _ d => uptoBulk d + 1
  | .map entries => uptoBulkEntries entries + 1
  | .held _ => 1
def uptoBulkAll {H : Type} : List (DataW H) → Nat
  | [] => 0
  | d :: r => uptoBulk d + uptoBulkAll r
def uptoBulkEntries {H : Type} : List (Lit × DataW H) → Nat
  | [] => 0
  | x :: r => uptoBulkEntry x + uptoBulkEntries r
def uptoBulkEntry {H : Type} : Lit × DataW H → Nat
  | (.string bytes, d) => bytes.length + uptoBulk d + 1
  | (_, d) => uptoBulk d + 1
 end
def uptoSmall : (H : Type) → List (DataW H) → Bool := fun _ ds => decide (uptoBulkAll ds ≤ 1048576)
def OpenSpec.upto (s : _root_.Go.ChangeSpec) : _root_.Go.OpenSpec := { _root_.Go.OpenSpec.ofChange s with cond := some uptoSmall }

/-- 'laws.FnExactPermLooseSum', WHERE WHAT IT READS IS OF BULK AT MOST 1048576: true; the input reads as it did. -/
def fnExactPermLooseSumUptoRow : OpenClaim := { program := "ytgehkabfjpifiaa", sum := "7b86fe73ed315c506484b26b86a09ad22159b263f3db4732dd9c9583715beb04", func := "loop.example/floorrooms/laws.FnExactPermLooseSum", spec := "fnExactPermLooseSum", apart := false, narrowed := true }
def FnExactPermLooseSumUptoSaid : Prop := fnExactPermLooseSumUptoRow.holds Try.pinned (OpenSpec.upto fnExactPermLooseSumSpec)

/-- 'laws.FnExactPermFairSum', WHERE WHAT IT READS IS OF BULK AT MOST 1048576: true; the input reads as it did. -/
def fnExactPermFairSumUptoRow : OpenClaim := { program := "ytgehkabfjpifiaa", sum := "7b86fe73ed315c506484b26b86a09ad22159b263f3db4732dd9c9583715beb04", func := "loop.example/floorrooms/laws.FnExactPermFairSum", spec := "fnExactPermFairSum", apart := false, narrowed := true }
def FnExactPermFairSumUptoSaid : Prop := fnExactPermFairSumUptoRow.holds Try.pinned (OpenSpec.upto fnExactPermFairSumSpec)

/-- 'laws.FnLooseSum', WHERE WHAT IT READS IS OF BULK AT MOST 1048576: true; the input reads as it did. -/
def fnLooseSumUptoRow : OpenClaim := { program := "ytgehkabfjpifiaa", sum := "7b86fe73ed315c506484b26b86a09ad22159b263f3db4732dd9c9583715beb04", func := "loop.example/floorrooms/laws.FnLooseSum", spec := "fnLooseSum", apart := false, narrowed := true }
def FnLooseSumUptoSaid : Prop := fnLooseSumUptoRow.holds Try.pinned (OpenSpec.upto fnLooseSumSpec)

/-- 'laws.FnFairSum', WHERE WHAT IT READS IS OF BULK AT MOST 1048576: true; the input reads as it did. -/
def fnFairSumUptoRow : OpenClaim := { program := "ytgehkabfjpifiaa", sum := "7b86fe73ed315c506484b26b86a09ad22159b263f3db4732dd9c9583715beb04", func := "loop.example/floorrooms/laws.FnFairSum", spec := "fnFairSum", apart := false, narrowed := true }
def FnFairSumUptoSaid : Prop := fnFairSumUptoRow.holds Try.pinned (OpenSpec.upto fnFairSumSpec)

/-- 'laws.FnExactPermLooseCount', WHERE WHAT IT READS IS OF BULK AT MOST 1048576: true; the input reads as it did. -/
def fnExactPermLooseCountUptoRow : OpenClaim := { program := "ytgehkabfjpifiaa", sum := "7b86fe73ed315c506484b26b86a09ad22159b263f3db4732dd9c9583715beb04", func := "loop.example/floorrooms/laws.FnExactPermLooseCount", spec := "fnExactPermLooseCount", unfollowed := true, recurses := true, apart := false, narrowed := true }
def FnExactPermLooseCountUptoSaid : Prop := fnExactPermLooseCountUptoRow.holds Try.pinned (OpenSpec.upto fnExactPermLooseCountSpec)

/-- 'laws.FnExactPermFairCount', WHERE WHAT IT READS IS OF BULK AT MOST 1048576: true; the input reads as it did. -/
def fnExactPermFairCountUptoRow : OpenClaim := { program := "ytgehkabfjpifiaa", sum := "7b86fe73ed315c506484b26b86a09ad22159b263f3db4732dd9c9583715beb04", func := "loop.example/floorrooms/laws.FnExactPermFairCount", spec := "fnExactPermFairCount", unfollowed := true, recurses := true, apart := false, narrowed := true }
def FnExactPermFairCountUptoSaid : Prop := fnExactPermFairCountUptoRow.holds Try.pinned (OpenSpec.upto fnExactPermFairCountSpec)

/-- 'laws.FnLooseCount', WHERE WHAT IT READS IS OF BULK AT MOST 1048576: true; the input reads as it did. -/
def fnLooseCountUptoRow : OpenClaim := { program := "ytgehkabfjpifiaa", sum := "7b86fe73ed315c506484b26b86a09ad22159b263f3db4732dd9c9583715beb04", func := "loop.example/floorrooms/laws.FnLooseCount", spec := "fnLooseCount", unfollowed := true, recurses := true, apart := false, narrowed := true }
def FnLooseCountUptoSaid : Prop := fnLooseCountUptoRow.holds Try.pinned (OpenSpec.upto fnLooseCountSpec)

/-- 'laws.FnFairCount', WHERE WHAT IT READS IS OF BULK AT MOST 1048576: true; the input reads as it did. -/
def fnFairCountUptoRow : OpenClaim := { program := "ytgehkabfjpifiaa", sum := "7b86fe73ed315c506484b26b86a09ad22159b263f3db4732dd9c9583715beb04", func := "loop.example/floorrooms/laws.FnFairCount", spec := "fnFairCount", unfollowed := true, recurses := true, apart := false, narrowed := true }
def FnFairCountUptoSaid : Prop := fnFairCountUptoRow.holds Try.pinned (OpenSpec.upto fnFairCountSpec)

end Rows
end Go.Proofs.Ytgehkabfjpifiaa

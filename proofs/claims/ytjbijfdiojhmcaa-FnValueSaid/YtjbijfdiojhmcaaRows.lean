/-
  No cell of these rows narrows 'for every input' (looked for: loops, veiled, ifaces, maps, wideKeys, modest, calm, conditions, laid).
  DERIVED. THE GIVEN ROWS OF THIS SEAT. 14 by the template 'for every input the law returns true; each argument reads behind the call as it read before'; 0 by the template 'total and deterministic' (their statements: YtjbijfdiojhmcaaTotals.lean).
  GIVEN WITH THE SEED: the statements are not yours to turn. If you find one false, say at which input.
  Laid BY PROGRAM, IN A SANDBOX (cutbox-rows.mjs): the forced cells as the released guide's own fill.sh prints them over the translation a562583bda93d5e8… (all of the seat's roots in one cut). By AI agents, Wed Nov 11 2026. No macro, syntax, notation, axiom, sorry.
-/
import Derived.Test.YtjbijfdiojhmcaaChecked
import GoSem.Claim
import GoSem.ClaimJoined
import GoSem.ClaimMapViews
import Derived.JoinedTies
import Derived.KernelRfl
namespace Go.Proofs.Ytjbijfdiojhmcaa
/- THE CELL 'sum', in the pinned program and in every row, IS THE sha256 OF THE DUMP (.gsa) THAT YtjbijfdiojhmcaaProg.lean LOADS. Nothing in Lean hashes anything: it is a label: what it is worth is what the hold of that sum in a sandbox is worth. -/
noncomputable def Try.pinned : Pinned := { name := "ytjbijfdiojhmcaa", sum := "a562583bda93d5e823e50e073fd2a72bb56f40edc4f8a707491dee0bff6a9d7d", checked := Try.checked }
namespace Rows
def none {H : Type} : Left H := { results := [], args := [] }

/-- 'laws.FnExactConstants': WHATEVER THE INPUT: true; the input reads as it did. -/
def fnExactConstantsSpec : ChangeSpec := { name := "fnExactConstants", fn := fun _ => fun
  | [] => { results := [.lit (.bool true)], args := [] }
  | _ => none }
def fnExactConstantsRow : OpenClaim := { program := "ytjbijfdiojhmcaa", sum := "a562583bda93d5e823e50e073fd2a72bb56f40edc4f8a707491dee0bff6a9d7d", func := "loop.example/floorrooms/laws.FnExactConstants", spec := "fnExactConstants", apart := false }
def FnExactConstantsSaid : Prop := fnExactConstantsRow.holds Try.pinned (OpenSpec.ofChange fnExactConstantsSpec)

/-- ITS FALSE NEIGHBOUR: 'it returns false'. Refute it at one input. -/
def fnExactConstantsWrong : ChangeSpec := { name := "fnExactConstants", fn := fun _ => fun
  | [] => { results := [.lit (.bool false)], args := [] }
  | _ => none }
def FnExactConstantsWrongFalsely : Prop := fnExactConstantsRow.holds Try.pinned (OpenSpec.ofChange fnExactConstantsWrong)

/-- 'laws.FnExactSheetRows': WHATEVER THE INPUT: true; the input reads as it did. -/
def fnExactSheetRowsSpec : ChangeSpec := { name := "fnExactSheetRows", fn := fun _ => fun
  | [d1, d2, d3, d4] => { results := [.lit (.bool true)], args := [d1, d2, d3, d4] }
  | _ => none }
def fnExactSheetRowsRow : OpenClaim := { program := "ytjbijfdiojhmcaa", sum := "a562583bda93d5e823e50e073fd2a72bb56f40edc4f8a707491dee0bff6a9d7d", func := "loop.example/floorrooms/laws.FnExactSheetRows", spec := "fnExactSheetRows", apart := false }
def FnExactSheetRowsSaid : Prop := fnExactSheetRowsRow.holds Try.pinned (OpenSpec.ofChange fnExactSheetRowsSpec)

/-- ITS FALSE NEIGHBOUR: 'it returns false'. Refute it at one input. -/
def fnExactSheetRowsWrong : ChangeSpec := { name := "fnExactSheetRows", fn := fun _ => fun
  | [d1, d2, d3, d4] => { results := [.lit (.bool false)], args := [d1, d2, d3, d4] }
  | _ => none }
def FnExactSheetRowsWrongFalsely : Prop := fnExactSheetRowsRow.holds Try.pinned (OpenSpec.ofChange fnExactSheetRowsWrong)

/-- 'laws.FnExactSheetGreedy': WHATEVER THE INPUT: true; the input reads as it did. -/
def fnExactSheetGreedySpec : ChangeSpec := { name := "fnExactSheetGreedy", fn := fun _ => fun
  | [d1, d2] => { results := [.lit (.bool true)], args := [d1, d2] }
  | _ => none }
def fnExactSheetGreedyRow : OpenClaim := { program := "ytjbijfdiojhmcaa", sum := "a562583bda93d5e823e50e073fd2a72bb56f40edc4f8a707491dee0bff6a9d7d", func := "loop.example/floorrooms/laws.FnExactSheetGreedy", spec := "fnExactSheetGreedy", apart := false }
def FnExactSheetGreedySaid : Prop := fnExactSheetGreedyRow.holds Try.pinned (OpenSpec.ofChange fnExactSheetGreedySpec)

/-- ITS FALSE NEIGHBOUR: 'it returns false'. Refute it at one input. -/
def fnExactSheetGreedyWrong : ChangeSpec := { name := "fnExactSheetGreedy", fn := fun _ => fun
  | [d1, d2] => { results := [.lit (.bool false)], args := [d1, d2] }
  | _ => none }
def FnExactSheetGreedyWrongFalsely : Prop := fnExactSheetGreedyRow.holds Try.pinned (OpenSpec.ofChange fnExactSheetGreedyWrong)

/-- 'laws.FnRows': WHATEVER THE INPUT: true; the input reads as it did. -/
def fnRowsSpec : ChangeSpec := { name := "fnRows", fn := fun _ => fun
  | [d] => { results := [.lit (.bool true)], args := [d] }
  | _ => none }
def fnRowsRow : OpenClaim := { program := "ytjbijfdiojhmcaa", sum := "a562583bda93d5e823e50e073fd2a72bb56f40edc4f8a707491dee0bff6a9d7d", func := "loop.example/floorrooms/laws.FnRows", spec := "fnRows", apart := false }
def FnRowsSaid : Prop := fnRowsRow.holds Try.pinned (OpenSpec.ofChange fnRowsSpec)

/-- ITS FALSE NEIGHBOUR: 'it returns false'. Refute it at one input. -/
def fnRowsWrong : ChangeSpec := { name := "fnRows", fn := fun _ => fun
  | [d] => { results := [.lit (.bool false)], args := [d] }
  | _ => none }
def FnRowsWrongFalsely : Prop := fnRowsRow.holds Try.pinned (OpenSpec.ofChange fnRowsWrong)

/-- 'laws.FnGreedy': WHATEVER THE INPUT: true; the input reads as it did. -/
def fnGreedySpec : ChangeSpec := { name := "fnGreedy", fn := fun _ => fun
  | [d] => { results := [.lit (.bool true)], args := [d] }
  | _ => none }
def fnGreedyRow : OpenClaim := { program := "ytjbijfdiojhmcaa", sum := "a562583bda93d5e823e50e073fd2a72bb56f40edc4f8a707491dee0bff6a9d7d", func := "loop.example/floorrooms/laws.FnGreedy", spec := "fnGreedy", apart := false }
def FnGreedySaid : Prop := fnGreedyRow.holds Try.pinned (OpenSpec.ofChange fnGreedySpec)

/-- ITS FALSE NEIGHBOUR: 'it returns false'. Refute it at one input. -/
def fnGreedyWrong : ChangeSpec := { name := "fnGreedy", fn := fun _ => fun
  | [d] => { results := [.lit (.bool false)], args := [d] }
  | _ => none }
def FnGreedyWrongFalsely : Prop := fnGreedyRow.holds Try.pinned (OpenSpec.ofChange fnGreedyWrong)

/-- 'laws.FnExactSheetSquares': WHATEVER THE INPUT: true; the input reads as it did. -/
def fnExactSheetSquaresSpec : ChangeSpec := { name := "fnExactSheetSquares", fn := fun _ => fun
  | [d1, d2] => { results := [.lit (.bool true)], args := [d1, d2] }
  | _ => none }
def fnExactSheetSquaresRow : OpenClaim := { program := "ytjbijfdiojhmcaa", sum := "a562583bda93d5e823e50e073fd2a72bb56f40edc4f8a707491dee0bff6a9d7d", func := "loop.example/floorrooms/laws.FnExactSheetSquares", spec := "fnExactSheetSquares", unfollowed := true, recurses := true, apart := false }
def FnExactSheetSquaresSaid : Prop := fnExactSheetSquaresRow.holds Try.pinned (OpenSpec.ofChange fnExactSheetSquaresSpec)

/-- ITS FALSE NEIGHBOUR: 'it returns false'. Refute it at one input. -/
def fnExactSheetSquaresWrong : ChangeSpec := { name := "fnExactSheetSquares", fn := fun _ => fun
  | [d1, d2] => { results := [.lit (.bool false)], args := [d1, d2] }
  | _ => none }
def FnExactSheetSquaresWrongFalsely : Prop := fnExactSheetSquaresRow.holds Try.pinned (OpenSpec.ofChange fnExactSheetSquaresWrong)

/-- 'laws.FnExactSheetMost': WHATEVER THE INPUT: true; the input reads as it did. -/
def fnExactSheetMostSpec : ChangeSpec := { name := "fnExactSheetMost", fn := fun _ => fun
  | [d1, d2, d3, d4] => { results := [.lit (.bool true)], args := [d1, d2, d3, d4] }
  | _ => none }
def fnExactSheetMostRow : OpenClaim := { program := "ytjbijfdiojhmcaa", sum := "a562583bda93d5e823e50e073fd2a72bb56f40edc4f8a707491dee0bff6a9d7d", func := "loop.example/floorrooms/laws.FnExactSheetMost", spec := "fnExactSheetMost", unfollowed := true, recurses := true, apart := false }
def FnExactSheetMostSaid : Prop := fnExactSheetMostRow.holds Try.pinned (OpenSpec.ofChange fnExactSheetMostSpec)

/-- ITS FALSE NEIGHBOUR: 'it returns false'. Refute it at one input. -/
def fnExactSheetMostWrong : ChangeSpec := { name := "fnExactSheetMost", fn := fun _ => fun
  | [d1, d2, d3, d4] => { results := [.lit (.bool false)], args := [d1, d2, d3, d4] }
  | _ => none }
def FnExactSheetMostWrongFalsely : Prop := fnExactSheetMostRow.holds Try.pinned (OpenSpec.ofChange fnExactSheetMostWrong)

/-- 'laws.FnExactSheetLoss': WHATEVER THE INPUT: true; the input reads as it did. -/
def fnExactSheetLossSpec : ChangeSpec := { name := "fnExactSheetLoss", fn := fun _ => fun
  | [d1, d2, d3, d4] => { results := [.lit (.bool true)], args := [d1, d2, d3, d4] }
  | _ => none }
def fnExactSheetLossRow : OpenClaim := { program := "ytjbijfdiojhmcaa", sum := "a562583bda93d5e823e50e073fd2a72bb56f40edc4f8a707491dee0bff6a9d7d", func := "loop.example/floorrooms/laws.FnExactSheetLoss", spec := "fnExactSheetLoss", unfollowed := true, recurses := true, apart := false }
def FnExactSheetLossSaid : Prop := fnExactSheetLossRow.holds Try.pinned (OpenSpec.ofChange fnExactSheetLossSpec)

/-- ITS FALSE NEIGHBOUR: 'it returns false'. Refute it at one input. -/
def fnExactSheetLossWrong : ChangeSpec := { name := "fnExactSheetLoss", fn := fun _ => fun
  | [d1, d2, d3, d4] => { results := [.lit (.bool false)], args := [d1, d2, d3, d4] }
  | _ => none }
def FnExactSheetLossWrongFalsely : Prop := fnExactSheetLossRow.holds Try.pinned (OpenSpec.ofChange fnExactSheetLossWrong)

/-- 'laws.FnMostMore': WHATEVER THE INPUT: true; the input reads as it did. -/
def fnMostMoreSpec : ChangeSpec := { name := "fnMostMore", fn := fun _ => fun
  | [d] => { results := [.lit (.bool true)], args := [d] }
  | _ => none }
def fnMostMoreRow : OpenClaim := { program := "ytjbijfdiojhmcaa", sum := "a562583bda93d5e823e50e073fd2a72bb56f40edc4f8a707491dee0bff6a9d7d", func := "loop.example/floorrooms/laws.FnMostMore", spec := "fnMostMore", unfollowed := true, recurses := true, apart := false }
def FnMostMoreSaid : Prop := fnMostMoreRow.holds Try.pinned (OpenSpec.ofChange fnMostMoreSpec)

/-- ITS FALSE NEIGHBOUR: 'it returns false'. Refute it at one input. -/
def fnMostMoreWrong : ChangeSpec := { name := "fnMostMore", fn := fun _ => fun
  | [d] => { results := [.lit (.bool false)], args := [d] }
  | _ => none }
def FnMostMoreWrongFalsely : Prop := fnMostMoreRow.holds Try.pinned (OpenSpec.ofChange fnMostMoreWrong)

/-- 'laws.FnExactSheetValue': WHATEVER THE INPUT: true; the input reads as it did. -/
def fnExactSheetValueSpec : ChangeSpec := { name := "fnExactSheetValue", fn := fun _ => fun
  | [d1, d2, d3, d4, d5] => { results := [.lit (.bool true)], args := [d1, d2, d3, d4, d5] }
  | _ => none }
def fnExactSheetValueRow : OpenClaim := { program := "ytjbijfdiojhmcaa", sum := "a562583bda93d5e823e50e073fd2a72bb56f40edc4f8a707491dee0bff6a9d7d", func := "loop.example/floorrooms/laws.FnExactSheetValue", spec := "fnExactSheetValue", unfollowed := true, recurses := true, apart := false }
def FnExactSheetValueSaid : Prop := fnExactSheetValueRow.holds Try.pinned (OpenSpec.ofChange fnExactSheetValueSpec)

/-- ITS FALSE NEIGHBOUR: 'it returns false'. Refute it at one input. -/
def fnExactSheetValueWrong : ChangeSpec := { name := "fnExactSheetValue", fn := fun _ => fun
  | [d1, d2, d3, d4, d5] => { results := [.lit (.bool false)], args := [d1, d2, d3, d4, d5] }
  | _ => none }
def FnExactSheetValueWrongFalsely : Prop := fnExactSheetValueRow.holds Try.pinned (OpenSpec.ofChange fnExactSheetValueWrong)

/-- 'laws.FnMost': WHATEVER THE INPUT: true; the input reads as it did. -/
def fnMostSpec : ChangeSpec := { name := "fnMost", fn := fun _ => fun
  | [d] => { results := [.lit (.bool true)], args := [d] }
  | _ => none }
def fnMostRow : OpenClaim := { program := "ytjbijfdiojhmcaa", sum := "a562583bda93d5e823e50e073fd2a72bb56f40edc4f8a707491dee0bff6a9d7d", func := "loop.example/floorrooms/laws.FnMost", spec := "fnMost", unfollowed := true, recurses := true, apart := false }
def FnMostSaid : Prop := fnMostRow.holds Try.pinned (OpenSpec.ofChange fnMostSpec)

/-- ITS FALSE NEIGHBOUR: 'it returns false'. Refute it at one input. -/
def fnMostWrong : ChangeSpec := { name := "fnMost", fn := fun _ => fun
  | [d] => { results := [.lit (.bool false)], args := [d] }
  | _ => none }
def FnMostWrongFalsely : Prop := fnMostRow.holds Try.pinned (OpenSpec.ofChange fnMostWrong)

/-- 'laws.FnLoss': WHATEVER THE INPUT: true; the input reads as it did. -/
def fnLossSpec : ChangeSpec := { name := "fnLoss", fn := fun _ => fun
  | [d] => { results := [.lit (.bool true)], args := [d] }
  | _ => none }
def fnLossRow : OpenClaim := { program := "ytjbijfdiojhmcaa", sum := "a562583bda93d5e823e50e073fd2a72bb56f40edc4f8a707491dee0bff6a9d7d", func := "loop.example/floorrooms/laws.FnLoss", spec := "fnLoss", unfollowed := true, recurses := true, apart := false }
def FnLossSaid : Prop := fnLossRow.holds Try.pinned (OpenSpec.ofChange fnLossSpec)

/-- ITS FALSE NEIGHBOUR: 'it returns false'. Refute it at one input. -/
def fnLossWrong : ChangeSpec := { name := "fnLoss", fn := fun _ => fun
  | [d] => { results := [.lit (.bool false)], args := [d] }
  | _ => none }
def FnLossWrongFalsely : Prop := fnLossRow.holds Try.pinned (OpenSpec.ofChange fnLossWrong)

/-- 'laws.FnSquares': WHATEVER THE INPUT: true; the input reads as it did. -/
def fnSquaresSpec : ChangeSpec := { name := "fnSquares", fn := fun _ => fun
  | [d] => { results := [.lit (.bool true)], args := [d] }
  | _ => none }
def fnSquaresRow : OpenClaim := { program := "ytjbijfdiojhmcaa", sum := "a562583bda93d5e823e50e073fd2a72bb56f40edc4f8a707491dee0bff6a9d7d", func := "loop.example/floorrooms/laws.FnSquares", spec := "fnSquares", unfollowed := true, recurses := true, apart := false }
def FnSquaresSaid : Prop := fnSquaresRow.holds Try.pinned (OpenSpec.ofChange fnSquaresSpec)

/-- ITS FALSE NEIGHBOUR: 'it returns false'. Refute it at one input. -/
def fnSquaresWrong : ChangeSpec := { name := "fnSquares", fn := fun _ => fun
  | [d] => { results := [.lit (.bool false)], args := [d] }
  | _ => none }
def FnSquaresWrongFalsely : Prop := fnSquaresRow.holds Try.pinned (OpenSpec.ofChange fnSquaresWrong)

/-- 'laws.FnValue': WHATEVER THE INPUT: true; the input reads as it did. -/
def fnValueSpec : ChangeSpec := { name := "fnValue", fn := fun _ => fun
  | [d] => { results := [.lit (.bool true)], args := [d] }
  | _ => none }
def fnValueRow : OpenClaim := { program := "ytjbijfdiojhmcaa", sum := "a562583bda93d5e823e50e073fd2a72bb56f40edc4f8a707491dee0bff6a9d7d", func := "loop.example/floorrooms/laws.FnValue", spec := "fnValue", unfollowed := true, recurses := true, apart := false }
def FnValueSaid : Prop := fnValueRow.holds Try.pinned (OpenSpec.ofChange fnValueSpec)

/-- ITS FALSE NEIGHBOUR: 'it returns false'. Refute it at one input. -/
def fnValueWrong : ChangeSpec := { name := "fnValue", fn := fun _ => fun
  | [d] => { results := [.lit (.bool false)], args := [d] }
  | _ => none }
def FnValueWrongFalsely : Prop := fnValueRow.holds Try.pinned (OpenSpec.ofChange fnValueWrong)

/- THE SECOND FORM. 'bulk': how many values and letters a reading holds, each counted each time it is reached (what is shared counts as often as it is met; a slice's spare places count too). A statement '..UptoSaid' is the law's where the arguments, and the package variables that the reading takes, are together of bulk at most 1048576: NARROWER than '..Said'. Prove '..Said' where nothing that the law and all that it calls make is longer than what came in: it says more and counts as full. Else prove '..UptoSaid'. A law counts once. -/
mutual
def uptoBulk {H : Type} : DataW H → Nat
  | .lit (.string bytes) => bytes.length + 1
  | .lit _ => 1
  | .nil => 1
  | .ptr d => uptoBulk d + 1
  | .slice elems spare => uptoBulkAll elems + uptoBulkAll spare + 1
  | .agg parts => uptoBulkAll parts + 1
  | .iface _ d => uptoBulk d + 1
  | .map entries => uptoBulkEntries entries + 1
  | .held _ => 1
def uptoBulkAll {H : Type} : List (DataW H) → Nat
  | [] => 0
  | d :: r => uptoBulk d + uptoBulkAll r
def uptoBulkEntries {H : Type} : List (Lit × DataW H) → Nat
  | [] => 0
  | x :: r => uptoBulkEntry x + uptoBulkEntries r
def uptoBulkEntry {H : Type} : Lit × DataW H → Nat
  | (.string bytes, d) => bytes.length + uptoBulk d + 1
  | (_, d) => uptoBulk d + 1
 end
def uptoSmall : (H : Type) → List (DataW H) → Bool := fun _ ds => decide (uptoBulkAll ds ≤ 1048576)
def OpenSpec.upto (s : _root_.Go.ChangeSpec) : _root_.Go.OpenSpec := { _root_.Go.OpenSpec.ofChange s with cond := some uptoSmall }

/-- 'laws.FnExactConstants', WHERE WHAT IT READS IS OF BULK AT MOST 1048576: true; the input reads as it did. -/
def fnExactConstantsUptoRow : OpenClaim := { program := "ytjbijfdiojhmcaa", sum := "a562583bda93d5e823e50e073fd2a72bb56f40edc4f8a707491dee0bff6a9d7d", func := "loop.example/floorrooms/laws.FnExactConstants", spec := "fnExactConstants", apart := false, narrowed := true }
def FnExactConstantsUptoSaid : Prop := fnExactConstantsUptoRow.holds Try.pinned (OpenSpec.upto fnExactConstantsSpec)

/-- 'laws.FnExactSheetRows', WHERE WHAT IT READS IS OF BULK AT MOST 1048576: true; the input reads as it did. -/
def fnExactSheetRowsUptoRow : OpenClaim := { program := "ytjbijfdiojhmcaa", sum := "a562583bda93d5e823e50e073fd2a72bb56f40edc4f8a707491dee0bff6a9d7d", func := "loop.example/floorrooms/laws.FnExactSheetRows", spec := "fnExactSheetRows", apart := false, narrowed := true }
def FnExactSheetRowsUptoSaid : Prop := fnExactSheetRowsUptoRow.holds Try.pinned (OpenSpec.upto fnExactSheetRowsSpec)

/-- 'laws.FnExactSheetGreedy', WHERE WHAT IT READS IS OF BULK AT MOST 1048576: true; the input reads as it did. -/
def fnExactSheetGreedyUptoRow : OpenClaim := { program := "ytjbijfdiojhmcaa", sum := "a562583bda93d5e823e50e073fd2a72bb56f40edc4f8a707491dee0bff6a9d7d", func := "loop.example/floorrooms/laws.FnExactSheetGreedy", spec := "fnExactSheetGreedy", apart := false, narrowed := true }
def FnExactSheetGreedyUptoSaid : Prop := fnExactSheetGreedyUptoRow.holds Try.pinned (OpenSpec.upto fnExactSheetGreedySpec)

/-- 'laws.FnRows', WHERE WHAT IT READS IS OF BULK AT MOST 1048576: true; the input reads as it did. -/
def fnRowsUptoRow : OpenClaim := { program := "ytjbijfdiojhmcaa", sum := "a562583bda93d5e823e50e073fd2a72bb56f40edc4f8a707491dee0bff6a9d7d", func := "loop.example/floorrooms/laws.FnRows", spec := "fnRows", apart := false, narrowed := true }
def FnRowsUptoSaid : Prop := fnRowsUptoRow.holds Try.pinned (OpenSpec.upto fnRowsSpec)

/-- 'laws.FnGreedy', WHERE WHAT IT READS IS OF BULK AT MOST 1048576: true; the input reads as it did. -/
def fnGreedyUptoRow : OpenClaim := { program := "ytjbijfdiojhmcaa", sum := "a562583bda93d5e823e50e073fd2a72bb56f40edc4f8a707491dee0bff6a9d7d", func := "loop.example/floorrooms/laws.FnGreedy", spec := "fnGreedy", apart := false, narrowed := true }
def FnGreedyUptoSaid : Prop := fnGreedyUptoRow.holds Try.pinned (OpenSpec.upto fnGreedySpec)

/-- 'laws.FnExactSheetSquares', WHERE WHAT IT READS IS OF BULK AT MOST 1048576: true; the input reads as it did. -/
def fnExactSheetSquaresUptoRow : OpenClaim := { program := "ytjbijfdiojhmcaa", sum := "a562583bda93d5e823e50e073fd2a72bb56f40edc4f8a707491dee0bff6a9d7d", func := "loop.example/floorrooms/laws.FnExactSheetSquares", spec := "fnExactSheetSquares", unfollowed := true, recurses := true, apart := false, narrowed := true }
def FnExactSheetSquaresUptoSaid : Prop := fnExactSheetSquaresUptoRow.holds Try.pinned (OpenSpec.upto fnExactSheetSquaresSpec)

/-- 'laws.FnExactSheetMost', WHERE WHAT IT READS IS OF BULK AT MOST 1048576: true; the input reads as it did. -/
def fnExactSheetMostUptoRow : OpenClaim := { program := "ytjbijfdiojhmcaa", sum := "a562583bda93d5e823e50e073fd2a72bb56f40edc4f8a707491dee0bff6a9d7d", func := "loop.example/floorrooms/laws.FnExactSheetMost", spec := "fnExactSheetMost", unfollowed := true, recurses := true, apart := false, narrowed := true }
def FnExactSheetMostUptoSaid : Prop := fnExactSheetMostUptoRow.holds Try.pinned (OpenSpec.upto fnExactSheetMostSpec)

/-- 'laws.FnExactSheetLoss', WHERE WHAT IT READS IS OF BULK AT MOST 1048576: true; the input reads as it did. -/
def fnExactSheetLossUptoRow : OpenClaim := { program := "ytjbijfdiojhmcaa", sum := "a562583bda93d5e823e50e073fd2a72bb56f40edc4f8a707491dee0bff6a9d7d", func := "loop.example/floorrooms/laws.FnExactSheetLoss", spec := "fnExactSheetLoss", unfollowed := true, recurses := true, apart := false, narrowed := true }
def FnExactSheetLossUptoSaid : Prop := fnExactSheetLossUptoRow.holds Try.pinned (OpenSpec.upto fnExactSheetLossSpec)

/-- 'laws.FnMostMore', WHERE WHAT IT READS IS OF BULK AT MOST 1048576: true; the input reads as it did. -/
def fnMostMoreUptoRow : OpenClaim := { program := "ytjbijfdiojhmcaa", sum := "a562583bda93d5e823e50e073fd2a72bb56f40edc4f8a707491dee0bff6a9d7d", func := "loop.example/floorrooms/laws.FnMostMore", spec := "fnMostMore", unfollowed := true, recurses := true, apart := false, narrowed := true }
def FnMostMoreUptoSaid : Prop := fnMostMoreUptoRow.holds Try.pinned (OpenSpec.upto fnMostMoreSpec)

/-- 'laws.FnExactSheetValue', WHERE WHAT IT READS IS OF BULK AT MOST 1048576: true; the input reads as it did. -/
def fnExactSheetValueUptoRow : OpenClaim := { program := "ytjbijfdiojhmcaa", sum := "a562583bda93d5e823e50e073fd2a72bb56f40edc4f8a707491dee0bff6a9d7d", func := "loop.example/floorrooms/laws.FnExactSheetValue", spec := "fnExactSheetValue", unfollowed := true, recurses := true, apart := false, narrowed := true }
def FnExactSheetValueUptoSaid : Prop := fnExactSheetValueUptoRow.holds Try.pinned (OpenSpec.upto fnExactSheetValueSpec)

/-- 'laws.FnMost', WHERE WHAT IT READS IS OF BULK AT MOST 1048576: true; the input reads as it did. -/
def fnMostUptoRow : OpenClaim := { program := "ytjbijfdiojhmcaa", sum := "a562583bda93d5e823e50e073fd2a72bb56f40edc4f8a707491dee0bff6a9d7d", func := "loop.example/floorrooms/laws.FnMost", spec := "fnMost", unfollowed := true, recurses := true, apart := false, narrowed := true }
def FnMostUptoSaid : Prop := fnMostUptoRow.holds Try.pinned (OpenSpec.upto fnMostSpec)

/-- 'laws.FnLoss', WHERE WHAT IT READS IS OF BULK AT MOST 1048576: true; the input reads as it did. -/
def fnLossUptoRow : OpenClaim := { program := "ytjbijfdiojhmcaa", sum := "a562583bda93d5e823e50e073fd2a72bb56f40edc4f8a707491dee0bff6a9d7d", func := "loop.example/floorrooms/laws.FnLoss", spec := "fnLoss", unfollowed := true, recurses := true, apart := false, narrowed := true }
def FnLossUptoSaid : Prop := fnLossUptoRow.holds Try.pinned (OpenSpec.upto fnLossSpec)

/-- 'laws.FnSquares', WHERE WHAT IT READS IS OF BULK AT MOST 1048576: true; the input reads as it did. -/
def fnSquaresUptoRow : OpenClaim := { program := "ytjbijfdiojhmcaa", sum := "a562583bda93d5e823e50e073fd2a72bb56f40edc4f8a707491dee0bff6a9d7d", func := "loop.example/floorrooms/laws.FnSquares", spec := "fnSquares", unfollowed := true, recurses := true, apart := false, narrowed := true }
def FnSquaresUptoSaid : Prop := fnSquaresUptoRow.holds Try.pinned (OpenSpec.upto fnSquaresSpec)

/-- 'laws.FnValue', WHERE WHAT IT READS IS OF BULK AT MOST 1048576: true; the input reads as it did. -/
def fnValueUptoRow : OpenClaim := { program := "ytjbijfdiojhmcaa", sum := "a562583bda93d5e823e50e073fd2a72bb56f40edc4f8a707491dee0bff6a9d7d", func := "loop.example/floorrooms/laws.FnValue", spec := "fnValue", unfollowed := true, recurses := true, apart := false, narrowed := true }
def FnValueUptoSaid : Prop := fnValueUptoRow.holds Try.pinned (OpenSpec.upto fnValueSpec)

end Rows
end Go.Proofs.Ytjbijfdiojhmcaa

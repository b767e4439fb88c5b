/-
  No cell of these rows narrows 'for every input' (looked for: loops, veiled, ifaces, maps, wideKeys, modest, calm, conditions, laid).
  DERIVED. THE GIVEN ROWS OF THIS SEAT. 3 by the template 'for every input the law returns true; each argument reads behind the call as it read before'; 0 by the template 'total and deterministic' (their statements: YtpilppppkjenaaaTotals.lean).
  GIVEN WITH THE SEED: the statements are not yours to turn. If you find one false, say at which input.
  Laid BY PROGRAM, IN A SANDBOX (cutbox-rows.mjs): the forced cells as the released guide's own fill.sh prints them over the translation 04815f8c79a3284e… (all of the seat's roots in one cut). By AI agents, Wed Nov 11 2026. No macro, syntax, notation, axiom, sorry.
-/
import Derived.Test.YtpilppppkjenaaaChecked
import GoSem.Claim
import GoSem.ClaimJoined
import GoSem.ClaimMapViews
import Derived.JoinedTies
import Derived.KernelRfl
namespace Go.Proofs.Ytpilppppkjenaaa
/- THE CELL 'sum', in the pinned program and in every row, IS THE sha256 OF THE DUMP (.gsa) THAT YtpilppppkjenaaaProg.lean LOADS. Nothing in Lean hashes anything: it is a label: what it is worth is what the hold of that sum in a sandbox is worth. -/
noncomputable def Try.pinned : Pinned := { name := "ytpilppppkjenaaa", sum := "04815f8c79a3284e156f20609ff9557996f117117ea3846fbedbb0b879404b24", checked := Try.checked }
namespace Rows
def none {H : Type} : Left H := { results := [], args := [] }

/-- 'laws.FnExactPlanFlip': WHATEVER THE INPUT: true; the input reads as it did. -/
def fnExactPlanFlipSpec : ChangeSpec := { name := "fnExactPlanFlip", fn := fun _ => fun
  | [d] => { results := [.lit (.bool true)], args := [d] }
  | _ => none }
def fnExactPlanFlipRow : OpenClaim := { program := "ytpilppppkjenaaa", sum := "04815f8c79a3284e156f20609ff9557996f117117ea3846fbedbb0b879404b24", func := "loop.example/floorrooms/laws.FnExactPlanFlip", spec := "fnExactPlanFlip", inPlace := ["internal/abi.NoEscape"], unfollowed := true, recurses := true, apart := false }
def FnExactPlanFlipSaid : Prop := fnExactPlanFlipRow.holds Try.pinned (OpenSpec.ofChange fnExactPlanFlipSpec)

/-- ITS FALSE NEIGHBOUR: 'it returns false'. Refute it at one input. -/
def fnExactPlanFlipWrong : ChangeSpec := { name := "fnExactPlanFlip", fn := fun _ => fun
  | [d] => { results := [.lit (.bool false)], args := [d] }
  | _ => none }
def FnExactPlanFlipWrongFalsely : Prop := fnExactPlanFlipRow.holds Try.pinned (OpenSpec.ofChange fnExactPlanFlipWrong)

/-- 'laws.FnExactPlanTrans': WHATEVER THE INPUT: true; the input reads as it did. -/
def fnExactPlanTransSpec : ChangeSpec := { name := "fnExactPlanTrans", fn := fun _ => fun
  | [d] => { results := [.lit (.bool true)], args := [d] }
  | _ => none }
def fnExactPlanTransRow : OpenClaim := { program := "ytpilppppkjenaaa", sum := "04815f8c79a3284e156f20609ff9557996f117117ea3846fbedbb0b879404b24", func := "loop.example/floorrooms/laws.FnExactPlanTrans", spec := "fnExactPlanTrans", inPlace := ["internal/abi.NoEscape"], unfollowed := true, recurses := true, apart := false }
def FnExactPlanTransSaid : Prop := fnExactPlanTransRow.holds Try.pinned (OpenSpec.ofChange fnExactPlanTransSpec)

/-- ITS FALSE NEIGHBOUR: 'it returns false'. Refute it at one input. -/
def fnExactPlanTransWrong : ChangeSpec := { name := "fnExactPlanTrans", fn := fun _ => fun
  | [d] => { results := [.lit (.bool false)], args := [d] }
  | _ => none }
def FnExactPlanTransWrongFalsely : Prop := fnExactPlanTransRow.holds Try.pinned (OpenSpec.ofChange fnExactPlanTransWrong)

/-- 'laws.FnExactPlanTurn': WHATEVER THE INPUT: true; the input reads as it did. -/
def fnExactPlanTurnSpec : ChangeSpec := { name := "fnExactPlanTurn", fn := fun _ => fun
  | [d] => { results := [.lit (.bool true)], args := [d] }
  | _ => none }
def fnExactPlanTurnRow : OpenClaim := { program := "ytpilppppkjenaaa", sum := "04815f8c79a3284e156f20609ff9557996f117117ea3846fbedbb0b879404b24", func := "loop.example/floorrooms/laws.FnExactPlanTurn", spec := "fnExactPlanTurn", inPlace := ["internal/abi.NoEscape"], unfollowed := true, recurses := true, apart := false }
def FnExactPlanTurnSaid : Prop := fnExactPlanTurnRow.holds Try.pinned (OpenSpec.ofChange fnExactPlanTurnSpec)

/-- ITS FALSE NEIGHBOUR: 'it returns false'. Refute it at one input. -/
def fnExactPlanTurnWrong : ChangeSpec := { name := "fnExactPlanTurn", fn := fun _ => fun
  | [d] => { results := [.lit (.bool false)], args := [d] }
  | _ => none }
def FnExactPlanTurnWrongFalsely : Prop := fnExactPlanTurnRow.holds Try.pinned (OpenSpec.ofChange fnExactPlanTurnWrong)

/- THE SECOND FORM. 'bulk': how many values and letters a reading holds, each counted each time it is reached (what is shared counts as often as it is met; a slice's spare places count too). A statement '..UptoSaid' is the law's where the arguments, and the package variables that the reading takes, are together of bulk at most 1048576: NARROWER than '..Said'. Prove '..Said' where nothing that the law and all that it calls make is longer than what came in: it says more and counts as full. Else prove '..UptoSaid'. A law counts once. -/
mutual
def uptoBulk {H : Type} : DataW H → Nat
  | .lit (.string bytes) => bytes.length + 1
  | .lit _ => 1
  | .nil => 1
  | .ptr d => uptoBulk d + 1
  | .slice elems spare => uptoBulkAll elems + uptoBulkAll spare + 1
  | .agg parts => uptoBulkAll parts + 1
  | .iface _ d => uptoBulk d + 1
  | .map entries => uptoBulkEntries entries + 1
  | .held _ => 1
def uptoBulkAll {H : Type} : List (DataW H) → Nat
  | [] => 0
  | d :: r => uptoBulk d + uptoBulkAll r
def uptoBulkEntries {H : Type} : List (Lit × DataW H) → Nat
  | [] => 0
  | x :: r => uptoBulkEntry x + uptoBulkEntries r
def uptoBulkEntry {H : Type} : Lit × DataW H → Nat
  | (.string bytes, d) => bytes.length + uptoBulk d + 1
  | (_, d) => uptoBulk d + 1
 end
def uptoSmall : (H : Type) → List (DataW H) → Bool := fun _ ds => decide (uptoBulkAll ds ≤ 1048576)
def OpenSpec.upto (s : _root_.Go.ChangeSpec) : _root_.Go.OpenSpec := { _root_.Go.OpenSpec.ofChange s with cond := some uptoSmall }

/-- 'laws.FnExactPlanFlip', WHERE WHAT IT READS IS OF BULK AT MOST 1048576: true; the input reads as it did. -/
def fnExactPlanFlipUptoRow : OpenClaim := { program := "ytpilppppkjenaaa", sum := "04815f8c79a3284e156f20609ff9557996f117117ea3846fbedbb0b879404b24", func := "loop.example/floorrooms/laws.FnExactPlanFlip", spec := "fnExactPlanFlip", inPlace := ["internal/abi.NoEscape"], unfollowed := true, recurses := true, apart := false, narrowed := true }
def FnExactPlanFlipUptoSaid : Prop := fnExactPlanFlipUptoRow.holds Try.pinned (OpenSpec.upto fnExactPlanFlipSpec)

/-- 'laws.FnExactPlanTrans', WHERE WHAT IT READS IS OF BULK AT MOST 1048576: true; the input reads as it did. -/
def fnExactPlanTransUptoRow : OpenClaim := { program := "ytpilppppkjenaaa", sum := "04815f8c79a3284e156f20609ff9557996f117117ea3846fbedbb0b879404b24", func := "loop.example/floorrooms/laws.FnExactPlanTrans", spec := "fnExactPlanTrans", inPlace := ["internal/abi.NoEscape"], unfollowed := true, recurses := true, apart := false, narrowed := true }
def FnExactPlanTransUptoSaid : Prop := fnExactPlanTransUptoRow.holds Try.pinned (OpenSpec.upto fnExactPlanTransSpec)

/-- 'laws.FnExactPlanTurn', WHERE WHAT IT READS IS OF BULK AT MOST 1048576: true; the input reads as it did. -/
def fnExactPlanTurnUptoRow : OpenClaim := { program := "ytpilppppkjenaaa", sum := "04815f8c79a3284e156f20609ff9557996f117117ea3846fbedbb0b879404b24", func := "loop.example/floorrooms/laws.FnExactPlanTurn", spec := "fnExactPlanTurn", inPlace := ["internal/abi.NoEscape"], unfollowed := true, recurses := true, apart := false, narrowed := true }
def FnExactPlanTurnUptoSaid : Prop := fnExactPlanTurnUptoRow.holds Try.pinned (OpenSpec.upto fnExactPlanTurnSpec)

end Rows
end Go.Proofs.Ytpilppppkjenaaa

/-
  No cell of these rows narrows 'for every input' (looked for: loops, veiled, ifaces, maps, wideKeys, modest, calm, conditions, laid).
  DERIVED. THE GIVEN ROWS OF THIS SEAT. 5 by the template 'for every input the law returns true; each argument reads behind the call as it read before'; 0 by the template 'total and deterministic' (their statements: YtoghadcjjmaneaaTotals.lean).
  GIVEN WITH THE SEED: the statements are not yours to turn. If you find one false, say at which input.
  Laid BY PROGRAM, IN A SANDBOX (cutbox-rows.mjs): the forced cells as the released guide's own fill.sh prints them over the translation eae24aee46744c6f… (all of the seat's roots in one cut). By AI agents, Wed Nov 11 2026. No macro, syntax, notation, axiom, sorry.
-/
import Derived.Test.YtoghadcjjmaneaaChecked
import GoSem.Claim
import GoSem.ClaimJoined
import GoSem.ClaimMapViews
import Derived.JoinedTies
import Derived.KernelRfl
namespace Go.Proofs.Ytoghadcjjmaneaa
/- THE CELL 'sum', in the pinned program and in every row, IS THE sha256 OF THE DUMP (.gsa) THAT YtoghadcjjmaneaaProg.lean LOADS. Nothing in Lean hashes anything: it is a label: what it is worth is what the hold of that sum in a sandbox is worth. -/
noncomputable def Try.pinned : Pinned := { name := "ytoghadcjjmaneaa", sum := "eae24aee46744c6f158873336e4b08fae8b8c12247f0aae608ca50679d09114b", checked := Try.checked }
namespace Rows
def none {H : Type} : Left H := { results := [], args := [] }

/-- 'laws.FnExactPlanAreas': WHATEVER THE INPUT: true; the input reads as it did. -/
def fnExactPlanAreasSpec : ChangeSpec := { name := "fnExactPlanAreas", fn := fun _ => fun
  | [d] => { results := [.lit (.bool true)], args := [d] }
  | _ => none }
def fnExactPlanAreasRow : OpenClaim := { program := "ytoghadcjjmaneaa", sum := "eae24aee46744c6f158873336e4b08fae8b8c12247f0aae608ca50679d09114b", func := "loop.example/floorrooms/laws.FnExactPlanAreas", spec := "fnExactPlanAreas", inPlace := ["internal/abi.NoEscape"], unfollowed := true, recurses := true, apart := false }
def FnExactPlanAreasSaid : Prop := fnExactPlanAreasRow.holds Try.pinned (OpenSpec.ofChange fnExactPlanAreasSpec)

/-- ITS FALSE NEIGHBOUR: 'it returns false'. Refute it at one input. -/
def fnExactPlanAreasWrong : ChangeSpec := { name := "fnExactPlanAreas", fn := fun _ => fun
  | [d] => { results := [.lit (.bool false)], args := [d] }
  | _ => none }
def FnExactPlanAreasWrongFalsely : Prop := fnExactPlanAreasRow.holds Try.pinned (OpenSpec.ofChange fnExactPlanAreasWrong)

/-- 'laws.FnExactPlanIn': WHATEVER THE INPUT: true; the input reads as it did. -/
def fnExactPlanInSpec : ChangeSpec := { name := "fnExactPlanIn", fn := fun _ => fun
  | [d] => { results := [.lit (.bool true)], args := [d] }
  | _ => none }
def fnExactPlanInRow : OpenClaim := { program := "ytoghadcjjmaneaa", sum := "eae24aee46744c6f158873336e4b08fae8b8c12247f0aae608ca50679d09114b", func := "loop.example/floorrooms/laws.FnExactPlanIn", spec := "fnExactPlanIn", inPlace := ["internal/abi.NoEscape"], unfollowed := true, recurses := true, apart := false }
def FnExactPlanInSaid : Prop := fnExactPlanInRow.holds Try.pinned (OpenSpec.ofChange fnExactPlanInSpec)

/-- ITS FALSE NEIGHBOUR: 'it returns false'. Refute it at one input. -/
def fnExactPlanInWrong : ChangeSpec := { name := "fnExactPlanIn", fn := fun _ => fun
  | [d] => { results := [.lit (.bool false)], args := [d] }
  | _ => none }
def FnExactPlanInWrongFalsely : Prop := fnExactPlanInRow.holds Try.pinned (OpenSpec.ofChange fnExactPlanInWrong)

/-- 'laws.FnExactPlanRooms': WHATEVER THE INPUT: true; the input reads as it did. -/
def fnExactPlanRoomsSpec : ChangeSpec := { name := "fnExactPlanRooms", fn := fun _ => fun
  | [d] => { results := [.lit (.bool true)], args := [d] }
  | _ => none }
def fnExactPlanRoomsRow : OpenClaim := { program := "ytoghadcjjmaneaa", sum := "eae24aee46744c6f158873336e4b08fae8b8c12247f0aae608ca50679d09114b", func := "loop.example/floorrooms/laws.FnExactPlanRooms", spec := "fnExactPlanRooms", inPlace := ["internal/abi.NoEscape"], unfollowed := true, recurses := true, apart := false }
def FnExactPlanRoomsSaid : Prop := fnExactPlanRoomsRow.holds Try.pinned (OpenSpec.ofChange fnExactPlanRoomsSpec)

/-- ITS FALSE NEIGHBOUR: 'it returns false'. Refute it at one input. -/
def fnExactPlanRoomsWrong : ChangeSpec := { name := "fnExactPlanRooms", fn := fun _ => fun
  | [d] => { results := [.lit (.bool false)], args := [d] }
  | _ => none }
def FnExactPlanRoomsWrongFalsely : Prop := fnExactPlanRoomsRow.holds Try.pinned (OpenSpec.ofChange fnExactPlanRoomsWrong)

/-- 'laws.FnExactPlanRoom': WHATEVER THE INPUT: true; the input reads as it did. -/
def fnExactPlanRoomSpec : ChangeSpec := { name := "fnExactPlanRoom", fn := fun _ => fun
  | [d1, d2] => { results := [.lit (.bool true)], args := [d1, d2] }
  | _ => none }
def fnExactPlanRoomRow : OpenClaim := { program := "ytoghadcjjmaneaa", sum := "eae24aee46744c6f158873336e4b08fae8b8c12247f0aae608ca50679d09114b", func := "loop.example/floorrooms/laws.FnExactPlanRoom", spec := "fnExactPlanRoom", inPlace := ["internal/abi.NoEscape"], unfollowed := true, recurses := true, apart := false }
def FnExactPlanRoomSaid : Prop := fnExactPlanRoomRow.holds Try.pinned (OpenSpec.ofChange fnExactPlanRoomSpec)

/-- ITS FALSE NEIGHBOUR: 'it returns false'. Refute it at one input. -/
def fnExactPlanRoomWrong : ChangeSpec := { name := "fnExactPlanRoom", fn := fun _ => fun
  | [d1, d2] => { results := [.lit (.bool false)], args := [d1, d2] }
  | _ => none }
def FnExactPlanRoomWrongFalsely : Prop := fnExactPlanRoomRow.holds Try.pinned (OpenSpec.ofChange fnExactPlanRoomWrong)

/-- 'laws.FnExactPlanName': WHATEVER THE INPUT: true; the input reads as it did. -/
def fnExactPlanNameSpec : ChangeSpec := { name := "fnExactPlanName", fn := fun _ => fun
  | [d] => { results := [.lit (.bool true)], args := [d] }
  | _ => none }
def fnExactPlanNameRow : OpenClaim := { program := "ytoghadcjjmaneaa", sum := "eae24aee46744c6f158873336e4b08fae8b8c12247f0aae608ca50679d09114b", func := "loop.example/floorrooms/laws.FnExactPlanName", spec := "fnExactPlanName", inPlace := ["internal/abi.NoEscape"], unfollowed := true, recurses := true, apart := false }
def FnExactPlanNameSaid : Prop := fnExactPlanNameRow.holds Try.pinned (OpenSpec.ofChange fnExactPlanNameSpec)

/-- ITS FALSE NEIGHBOUR: 'it returns false'. Refute it at one input. -/
def fnExactPlanNameWrong : ChangeSpec := { name := "fnExactPlanName", fn := fun _ => fun
  | [d] => { results := [.lit (.bool false)], args := [d] }
  | _ => none }
def FnExactPlanNameWrongFalsely : Prop := fnExactPlanNameRow.holds Try.pinned (OpenSpec.ofChange fnExactPlanNameWrong)

/- THE SECOND FORM. 'bulk': how many values and letters a reading holds, each counted each time it is reached (what is shared counts as often as it is met; a slice's spare places count too). A statement '..UptoSaid' is the law's where the arguments, and the package variables that the reading takes, are together of bulk at most 1048576: NARROWER than '..Said'. Prove '..Said' where nothing that the law and all that it calls make is longer than what came in: it says more and counts as full. Else prove '..UptoSaid'. A law counts once. -/
mutual
def uptoBulk {H : Type} : DataW H → Nat
  | .lit (.string bytes) => bytes.length + 1
  | .lit _ => 1
  | .nil => 1
  | .ptr d => uptoBulk d + 1
  | .slice elems spare => uptoBulkAll elems + uptoBulkAll spare + 1
  | .agg parts => uptoBulkAll parts + 1
  | .iface _ d => uptoBulk d + 1
  | .map entries => uptoBulkEntries entries + 1
  | .held _ => 1
def uptoBulkAll {H : Type} : List (DataW H) → Nat
  | [] => 0
  | d :: r => uptoBulk d + uptoBulkAll r
def uptoBulkEntries {H : Type} : List (Lit × DataW H) → Nat
  | [] => 0
  | x :: r => uptoBulkEntry x + uptoBulkEntries r
def uptoBulkEntry {H : Type} : Lit × DataW H → Nat
  | (.string bytes, d) => bytes.length + uptoBulk d + 1
  | (_, d) => uptoBulk d + 1
 end
def uptoSmall : (H : Type) → List (DataW H) → Bool := fun _ ds => decide (uptoBulkAll ds ≤ 1048576)
def OpenSpec.upto (s : _root_.Go.ChangeSpec) : _root_.Go.OpenSpec := { _root_.Go.OpenSpec.ofChange s with cond := some uptoSmall }

/-- 'laws.FnExactPlanAreas', WHERE WHAT IT READS IS OF BULK AT MOST 1048576: true; the input reads as it did. -/
def fnExactPlanAreasUptoRow : OpenClaim := { program := "ytoghadcjjmaneaa", sum := "eae24aee46744c6f158873336e4b08fae8b8c12247f0aae608ca50679d09114b", func := "loop.example/floorrooms/laws.FnExactPlanAreas", spec := "fnExactPlanAreas", inPlace := ["internal/abi.NoEscape"], unfollowed := true, recurses := true, apart := false, narrowed := true }
def FnExactPlanAreasUptoSaid : Prop := fnExactPlanAreasUptoRow.holds Try.pinned (OpenSpec.upto fnExactPlanAreasSpec)

/-- 'laws.FnExactPlanIn', WHERE WHAT IT READS IS OF BULK AT MOST 1048576: true; the input reads as it did. -/
def fnExactPlanInUptoRow : OpenClaim := { program := "ytoghadcjjmaneaa", sum := "eae24aee46744c6f158873336e4b08fae8b8c12247f0aae608ca50679d09114b", func := "loop.example/floorrooms/laws.FnExactPlanIn", spec := "fnExactPlanIn", inPlace := ["internal/abi.NoEscape"], unfollowed := true, recurses := true, apart := false, narrowed := true }
def FnExactPlanInUptoSaid : Prop := fnExactPlanInUptoRow.holds Try.pinned (OpenSpec.upto fnExactPlanInSpec)

/-- 'laws.FnExactPlanRooms', WHERE WHAT IT READS IS OF BULK AT MOST 1048576: true; the input reads as it did. -/
def fnExactPlanRoomsUptoRow : OpenClaim := { program := "ytoghadcjjmaneaa", sum := "eae24aee46744c6f158873336e4b08fae8b8c12247f0aae608ca50679d09114b", func := "loop.example/floorrooms/laws.FnExactPlanRooms", spec := "fnExactPlanRooms", inPlace := ["internal/abi.NoEscape"], unfollowed := true, recurses := true, apart := false, narrowed := true }
def FnExactPlanRoomsUptoSaid : Prop := fnExactPlanRoomsUptoRow.holds Try.pinned (OpenSpec.upto fnExactPlanRoomsSpec)

/-- 'laws.FnExactPlanRoom', WHERE WHAT IT READS IS OF BULK AT MOST 1048576: true; the input reads as it did. -/
def fnExactPlanRoomUptoRow : OpenClaim := { program := "ytoghadcjjmaneaa", sum := "eae24aee46744c6f158873336e4b08fae8b8c12247f0aae608ca50679d09114b", func := "loop.example/floorrooms/laws.FnExactPlanRoom", spec := "fnExactPlanRoom", inPlace := ["internal/abi.NoEscape"], unfollowed := true, recurses := true, apart := false, narrowed := true }
def FnExactPlanRoomUptoSaid : Prop := fnExactPlanRoomUptoRow.holds Try.pinned (OpenSpec.upto fnExactPlanRoomSpec)

/-- 'laws.FnExactPlanName', WHERE WHAT IT READS IS OF BULK AT MOST 1048576: true; the input reads as it did. -/
def fnExactPlanNameUptoRow : OpenClaim := { program := "ytoghadcjjmaneaa", sum := "eae24aee46744c6f158873336e4b08fae8b8c12247f0aae608ca50679d09114b", func := "loop.example/floorrooms/laws.FnExactPlanName", spec := "fnExactPlanName", inPlace := ["internal/abi.NoEscape"], unfollowed := true, recurses := true, apart := false, narrowed := true }
def FnExactPlanNameUptoSaid : Prop := fnExactPlanNameUptoRow.holds Try.pinned (OpenSpec.upto fnExactPlanNameSpec)

end Rows
end Go.Proofs.Ytoghadcjjmaneaa

/-
  No cell of these rows narrows 'for every input' (looked for: loops, veiled, ifaces, maps, wideKeys, modest, calm, conditions, laid).
  DERIVED. THE GIVEN ROWS OF THIS SEAT. 2 by the template 'for every input the law returns true; each argument reads behind the call as it read before'; 0 by the template 'total and deterministic' (their statements: YtjbjpkphepfldaaTotals.lean).
  GIVEN WITH THE SEED: the statements are not yours to turn. If you find one false, say at which input.
  Laid BY PROGRAM, IN A SANDBOX (cutbox-rows.mjs): the forced cells as the released guide's own fill.sh prints them over the translation e9cc241f721be0dd… (all of the seat's roots in one cut). By AI agents, Wed Nov 11 2026. No macro, syntax, notation, axiom, sorry.
-/
import Derived.Test.YtjbjpkphepfldaaChecked
import GoSem.Claim
import GoSem.ClaimJoined
import GoSem.ClaimMapViews
import Derived.JoinedTies
import Derived.KernelRfl
namespace Go.Proofs.Ytjbjpkphepfldaa
/- THE CELL 'sum', in the pinned program and in every row, IS THE sha256 OF THE DUMP (.gsa) THAT YtjbjpkphepfldaaProg.lean LOADS. Nothing in Lean hashes anything: it is a label: what it is worth is what the hold of that sum in a sandbox is worth. -/
noncomputable def Try.pinned : Pinned := { name := "ytjbjpkphepfldaa", sum := "e9cc241f721be0dde4dd897d025fa875400c720c1d087ce2e8c942877c831769", checked := Try.checked }
namespace Rows
def none {H : Type} : Left H := { results := [], args := [] }

/-- 'laws.FnExactCountRooms': WHATEVER THE INPUT: true; the input reads as it did. -/
def fnExactCountRoomsSpec : ChangeSpec := { name := "fnExactCountRooms", fn := fun _ => fun
  | [d1, d2] => { results := [.lit (.bool true)], args := [d1, d2] }
  | _ => none }
def fnExactCountRoomsRow : OpenClaim := { program := "ytjbjpkphepfldaa", sum := "e9cc241f721be0dde4dd897d025fa875400c720c1d087ce2e8c942877c831769", func := "loop.example/floorrooms/laws.FnExactCountRooms", spec := "fnExactCountRooms", unfollowed := true, recurses := true, apart := false }
def FnExactCountRoomsSaid : Prop := fnExactCountRoomsRow.holds Try.pinned (OpenSpec.ofChange fnExactCountRoomsSpec)

/-- ITS FALSE NEIGHBOUR: 'it returns false'. Refute it at one input. -/
def fnExactCountRoomsWrong : ChangeSpec := { name := "fnExactCountRooms", fn := fun _ => fun
  | [d1, d2] => { results := [.lit (.bool false)], args := [d1, d2] }
  | _ => none }
def FnExactCountRoomsWrongFalsely : Prop := fnExactCountRoomsRow.holds Try.pinned (OpenSpec.ofChange fnExactCountRoomsWrong)

/-- 'laws.FnCountRooms': WHATEVER THE INPUT: true; the input reads as it did. -/
def fnCountRoomsSpec : ChangeSpec := { name := "fnCountRooms", fn := fun _ => fun
  | [d] => { results := [.lit (.bool true)], args := [d] }
  | _ => none }
def fnCountRoomsRow : OpenClaim := { program := "ytjbjpkphepfldaa", sum := "e9cc241f721be0dde4dd897d025fa875400c720c1d087ce2e8c942877c831769", func := "loop.example/floorrooms/laws.FnCountRooms", spec := "fnCountRooms", unfollowed := true, recurses := true, apart := false }
def FnCountRoomsSaid : Prop := fnCountRoomsRow.holds Try.pinned (OpenSpec.ofChange fnCountRoomsSpec)

/-- ITS FALSE NEIGHBOUR: 'it returns false'. Refute it at one input. -/
def fnCountRoomsWrong : ChangeSpec := { name := "fnCountRooms", fn := fun _ => fun
  | [d] => { results := [.lit (.bool false)], args := [d] }
  | _ => none }
def FnCountRoomsWrongFalsely : Prop := fnCountRoomsRow.holds Try.pinned (OpenSpec.ofChange fnCountRoomsWrong)

/- THE SECOND FORM. 'bulk': how many values and letters a reading holds, each counted each time it is reached (what is shared counts as often as it is met; a slice's spare places count too). A statement '..UptoSaid' is the law's where the arguments, and the package variables that the reading takes, are together of bulk at most 1048576: NARROWER than '..Said'. Prove '..Said' where nothing that the law and all that it calls make is longer than what came in: it says more and counts as full. Else prove '..UptoSaid'. A law counts once. -/
mutual
def uptoBulk {H : Type} : DataW H → Nat
  | .lit (.string bytes) => bytes.length + 1
  | .lit _ => 1
  | .nil => 1
  | .ptr d => uptoBulk d + 1
  | .slice elems spare => uptoBulkAll elems + uptoBulkAll spare + 1
  | .agg parts => uptoBulkAll parts + 1
  | .iface _ d => uptoBulk d + 1
  | .map entries => uptoBulkEntries entries + 1
  | .held _ => 1
def uptoBulkAll {H : Type} : List (DataW H) → Nat
  | [] => 0
  | d :: r => uptoBulk d + uptoBulkAll r
def uptoBulkEntries {H : Type} : List (Lit × DataW H) → Nat
  | [] => 0
  | x :: r => uptoBulkEntry x + uptoBulkEntries r
def uptoBulkEntry {H : Type} : Lit × DataW H → Nat
  | (.string bytes, d) => bytes.length + uptoBulk d + 1
  | (_, d) => uptoBulk d + 1
 end
def uptoSmall : (H : Type) → List (DataW H) → Bool := fun _ ds => decide (uptoBulkAll ds ≤ 1048576)
def OpenSpec.upto (s : _root_.Go.ChangeSpec) : _root_.Go.OpenSpec := { _root_.Go.OpenSpec.ofChange s with cond := some uptoSmall }

/-- 'laws.FnExactCountRooms', WHERE WHAT IT READS IS OF BULK AT MOST 1048576: true; the input reads as it did. -/
def fnExactCountRoomsUptoRow : OpenClaim := { program := "ytjbjpkphepfldaa", sum := "e9cc241f721be0dde4dd897d025fa875400c720c1d087ce2e8c942877c831769", func := "loop.example/floorrooms/laws.FnExactCountRooms", spec := "fnExactCountRooms", unfollowed := true, recurses := true, apart := false, narrowed := true }
def FnExactCountRoomsUptoSaid : Prop := fnExactCountRoomsUptoRow.holds Try.pinned (OpenSpec.upto fnExactCountRoomsSpec)

/-- 'laws.FnCountRooms', WHERE WHAT IT READS IS OF BULK AT MOST 1048576: true; the input reads as it did. -/
def fnCountRoomsUptoRow : OpenClaim := { program := "ytjbjpkphepfldaa", sum := "e9cc241f721be0dde4dd897d025fa875400c720c1d087ce2e8c942877c831769", func := "loop.example/floorrooms/laws.FnCountRooms", spec := "fnCountRooms", unfollowed := true, recurses := true, apart := false, narrowed := true }
def FnCountRoomsUptoSaid : Prop := fnCountRoomsUptoRow.holds Try.pinned (OpenSpec.upto fnCountRoomsSpec)

end Rows
end Go.Proofs.Ytjbjpkphepfldaa

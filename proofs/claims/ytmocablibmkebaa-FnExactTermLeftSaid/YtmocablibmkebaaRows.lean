/-
  No cell of these rows narrows 'for every input' (looked for: loops, veiled, ifaces, maps, wideKeys, modest, calm, conditions, laid).
  DERIVED. THE GIVEN ROWS OF THIS SEAT. 5 by the template 'for every input the law returns true; each argument reads behind the call as it read before'; 0 by the template 'total and deterministic' (their statements: YtmocablibmkebaaTotals.lean).
  GIVEN WITH THE SEED: the statements are not yours to turn. If you find one false, say at which input.
  Laid BY PROGRAM, IN A SANDBOX (cutbox-rows.mjs): the forced cells as the released guide's own fill.sh prints them over the translation 3f5ad220f6201184… (all of the seat's roots in one cut). By AI agents, Wed Nov 11 2026. No macro, syntax, notation, axiom, sorry.
-/
import Derived.Test.YtmocablibmkebaaChecked
import GoSem.Claim
import GoSem.ClaimJoined
import GoSem.ClaimMapViews
import Derived.JoinedTies
import Derived.KernelRfl
namespace Go.Proofs.Ytmocablibmkebaa
/- THE CELL 'sum', in the pinned program and in every row, IS THE sha256 OF THE DUMP (.gsa) THAT YtmocablibmkebaaProg.lean LOADS. Nothing in Lean hashes anything: it is a label: what it is worth is what the hold of that sum in a sandbox is worth. -/
noncomputable def Try.pinned : Pinned := { name := "ytmocablibmkebaa", sum := "3f5ad220f6201184e129b830ed4b11c7bbf85558b79bd521ba7ce59455666210", checked := Try.checked }
namespace Rows
def none {H : Type} : Left H := { results := [], args := [] }

/-- 'laws.FnExactTermIn': WHATEVER THE INPUT: true; the input reads as it did. -/
def fnExactTermInSpec : ChangeSpec := { name := "fnExactTermIn", fn := fun _ => fun
  | [d] => { results := [.lit (.bool true)], args := [d] }
  | _ => none }
def fnExactTermInRow : OpenClaim := { program := "ytmocablibmkebaa", sum := "3f5ad220f6201184e129b830ed4b11c7bbf85558b79bd521ba7ce59455666210", func := "loop.example/floorrooms/laws.FnExactTermIn", spec := "fnExactTermIn", inPlace := ["internal/bytealg.CountString", "internal/bytealg.IndexByteString", "internal/bytealg.IndexString"], recurses := true, named := ["internal/bytealg.MaxLen"], apart := false }
def FnExactTermInSaid : Prop := fnExactTermInRow.holds Try.pinned (OpenSpec.ofChange fnExactTermInSpec)

/-- ITS FALSE NEIGHBOUR: 'it returns false'. Refute it at one input. -/
def fnExactTermInWrong : ChangeSpec := { name := "fnExactTermIn", fn := fun _ => fun
  | [d] => { results := [.lit (.bool false)], args := [d] }
  | _ => none }
def FnExactTermInWrongFalsely : Prop := fnExactTermInRow.holds Try.pinned (OpenSpec.ofChange fnExactTermInWrong)

/-- 'laws.FnExactTermRooms': WHATEVER THE INPUT: true; the input reads as it did. -/
def fnExactTermRoomsSpec : ChangeSpec := { name := "fnExactTermRooms", fn := fun _ => fun
  | [d] => { results := [.lit (.bool true)], args := [d] }
  | _ => none }
def fnExactTermRoomsRow : OpenClaim := { program := "ytmocablibmkebaa", sum := "3f5ad220f6201184e129b830ed4b11c7bbf85558b79bd521ba7ce59455666210", func := "loop.example/floorrooms/laws.FnExactTermRooms", spec := "fnExactTermRooms", inPlace := ["internal/bytealg.CountString", "internal/bytealg.IndexByteString", "internal/bytealg.IndexString"], recurses := true, named := ["internal/bytealg.MaxLen"], apart := false }
def FnExactTermRoomsSaid : Prop := fnExactTermRoomsRow.holds Try.pinned (OpenSpec.ofChange fnExactTermRoomsSpec)

/-- ITS FALSE NEIGHBOUR: 'it returns false'. Refute it at one input. -/
def fnExactTermRoomsWrong : ChangeSpec := { name := "fnExactTermRooms", fn := fun _ => fun
  | [d] => { results := [.lit (.bool false)], args := [d] }
  | _ => none }
def FnExactTermRoomsWrongFalsely : Prop := fnExactTermRoomsRow.holds Try.pinned (OpenSpec.ofChange fnExactTermRoomsWrong)

/-- 'laws.FnTerm': WHATEVER THE INPUT: true; the input reads as it did. -/
def fnTermSpec : ChangeSpec := { name := "fnTerm", fn := fun _ => fun
  | [d] => { results := [.lit (.bool true)], args := [d] }
  | _ => none }
def fnTermRow : OpenClaim := { program := "ytmocablibmkebaa", sum := "3f5ad220f6201184e129b830ed4b11c7bbf85558b79bd521ba7ce59455666210", func := "loop.example/floorrooms/laws.FnTerm", spec := "fnTerm", inPlace := ["internal/bytealg.CountString", "internal/bytealg.IndexByteString", "internal/bytealg.IndexString"], recurses := true, named := ["internal/bytealg.MaxLen"], apart := false }
def FnTermSaid : Prop := fnTermRow.holds Try.pinned (OpenSpec.ofChange fnTermSpec)

/-- ITS FALSE NEIGHBOUR: 'it returns false'. Refute it at one input. -/
def fnTermWrong : ChangeSpec := { name := "fnTerm", fn := fun _ => fun
  | [d] => { results := [.lit (.bool false)], args := [d] }
  | _ => none }
def FnTermWrongFalsely : Prop := fnTermRow.holds Try.pinned (OpenSpec.ofChange fnTermWrong)

/-- 'laws.FnExactTermTidy': WHATEVER THE INPUT: true; the input reads as it did. -/
def fnExactTermTidySpec : ChangeSpec := { name := "fnExactTermTidy", fn := fun _ => fun
  | [d] => { results := [.lit (.bool true)], args := [d] }
  | _ => none }
def fnExactTermTidyRow : OpenClaim := { program := "ytmocablibmkebaa", sum := "3f5ad220f6201184e129b830ed4b11c7bbf85558b79bd521ba7ce59455666210", func := "loop.example/floorrooms/laws.FnExactTermTidy", spec := "fnExactTermTidy", inPlace := ["internal/bytealg.CountString", "internal/bytealg.IndexByteString", "internal/bytealg.IndexString"], recurses := true, named := ["internal/bytealg.MaxLen"], apart := false }
def FnExactTermTidySaid : Prop := fnExactTermTidyRow.holds Try.pinned (OpenSpec.ofChange fnExactTermTidySpec)

/-- ITS FALSE NEIGHBOUR: 'it returns false'. Refute it at one input. -/
def fnExactTermTidyWrong : ChangeSpec := { name := "fnExactTermTidy", fn := fun _ => fun
  | [d] => { results := [.lit (.bool false)], args := [d] }
  | _ => none }
def FnExactTermTidyWrongFalsely : Prop := fnExactTermTidyRow.holds Try.pinned (OpenSpec.ofChange fnExactTermTidyWrong)

/-- 'laws.FnExactTermLeft': WHATEVER THE INPUT: true; the input reads as it did. -/
def fnExactTermLeftSpec : ChangeSpec := { name := "fnExactTermLeft", fn := fun _ => fun
  | [d] => { results := [.lit (.bool true)], args := [d] }
  | _ => none }
def fnExactTermLeftRow : OpenClaim := { program := "ytmocablibmkebaa", sum := "3f5ad220f6201184e129b830ed4b11c7bbf85558b79bd521ba7ce59455666210", func := "loop.example/floorrooms/laws.FnExactTermLeft", spec := "fnExactTermLeft", inPlace := ["internal/bytealg.CountString", "internal/bytealg.IndexByteString", "internal/bytealg.IndexString"], recurses := true, named := ["internal/bytealg.MaxLen"], apart := false }
def FnExactTermLeftSaid : Prop := fnExactTermLeftRow.holds Try.pinned (OpenSpec.ofChange fnExactTermLeftSpec)

/-- ITS FALSE NEIGHBOUR: 'it returns false'. Refute it at one input. -/
def fnExactTermLeftWrong : ChangeSpec := { name := "fnExactTermLeft", fn := fun _ => fun
  | [d] => { results := [.lit (.bool false)], args := [d] }
  | _ => none }
def FnExactTermLeftWrongFalsely : Prop := fnExactTermLeftRow.holds Try.pinned (OpenSpec.ofChange fnExactTermLeftWrong)

/- THE SECOND FORM. 'bulk': how many values and letters a reading holds, each counted each time it is reached (what is shared counts as often as it is met; a slice's spare places count too). A statement '..UptoSaid' is the law's where the arguments, and the package variables that the reading takes, are together of bulk at most 1048576: NARROWER than '..Said'. Prove '..Said' where nothing that the law and all that it calls make is longer than what came in: it says more and counts as full. Else prove '..UptoSaid'. A law counts once. -/
mutual
def uptoBulk {H : Type} : DataW H → Nat
  | .lit (.string bytes) => bytes.length + 1
  | .lit _ => 1
  | .nil => 1
  | .ptr d => uptoBulk d + 1
  | .slice elems spare => uptoBulkAll elems + uptoBulkAll spare + 1
  | .agg parts => uptoBulkAll parts + 1
  | .iface _ d => uptoBulk d + 1
  | .map entries => uptoBulkEntries entries + 1
  | .held _ => 1
def uptoBulkAll {H : Type} : List (DataW H) → Nat
  | [] => 0
  | d :: r => uptoBulk d + uptoBulkAll r
def uptoBulkEntries {H : Type} : List (Lit × DataW H) → Nat
  | [] => 0
  | x :: r => uptoBulkEntry x + uptoBulkEntries r
def uptoBulkEntry {H : Type} : Lit × DataW H → Nat
  | (.string bytes, d) => bytes.length + uptoBulk d + 1
  | (_, d) => uptoBulk d + 1
 end
def uptoSmall : (H : Type) → List (DataW H) → Bool := fun _ ds => decide (uptoBulkAll ds ≤ 1048576)
def OpenSpec.upto (s : _root_.Go.ChangeSpec) : _root_.Go.OpenSpec := { _root_.Go.OpenSpec.ofChange s with cond := some uptoSmall }

/-- 'laws.FnExactTermIn', WHERE WHAT IT READS IS OF BULK AT MOST 1048576: true; the input reads as it did. -/
def fnExactTermInUptoRow : OpenClaim := { program := "ytmocablibmkebaa", sum := "3f5ad220f6201184e129b830ed4b11c7bbf85558b79bd521ba7ce59455666210", func := "loop.example/floorrooms/laws.FnExactTermIn", spec := "fnExactTermIn", inPlace := ["internal/bytealg.CountString", "internal/bytealg.IndexByteString", "internal/bytealg.IndexString"], recurses := true, named := ["internal/bytealg.MaxLen"], apart := false, narrowed := true }
def FnExactTermInUptoSaid : Prop := fnExactTermInUptoRow.holds Try.pinned (OpenSpec.upto fnExactTermInSpec)

/-- 'laws.FnExactTermRooms', WHERE WHAT IT READS IS OF BULK AT MOST 1048576: true; the input reads as it did. -/
def fnExactTermRoomsUptoRow : OpenClaim := { program := "ytmocablibmkebaa", sum := "3f5ad220f6201184e129b830ed4b11c7bbf85558b79bd521ba7ce59455666210", func := "loop.example/floorrooms/laws.FnExactTermRooms", spec := "fnExactTermRooms", inPlace := ["internal/bytealg.CountString", "internal/bytealg.IndexByteString", "internal/bytealg.IndexString"], recurses := true, named := ["internal/bytealg.MaxLen"], apart := false, narrowed := true }
def FnExactTermRoomsUptoSaid : Prop := fnExactTermRoomsUptoRow.holds Try.pinned (OpenSpec.upto fnExactTermRoomsSpec)

/-- 'laws.FnTerm', WHERE WHAT IT READS IS OF BULK AT MOST 1048576: true; the input reads as it did. -/
def fnTermUptoRow : OpenClaim := { program := "ytmocablibmkebaa", sum := "3f5ad220f6201184e129b830ed4b11c7bbf85558b79bd521ba7ce59455666210", func := "loop.example/floorrooms/laws.FnTerm", spec := "fnTerm", inPlace := ["internal/bytealg.CountString", "internal/bytealg.IndexByteString", "internal/bytealg.IndexString"], recurses := true, named := ["internal/bytealg.MaxLen"], apart := false, narrowed := true }
def FnTermUptoSaid : Prop := fnTermUptoRow.holds Try.pinned (OpenSpec.upto fnTermSpec)

/-- 'laws.FnExactTermTidy', WHERE WHAT IT READS IS OF BULK AT MOST 1048576: true; the input reads as it did. -/
def fnExactTermTidyUptoRow : OpenClaim := { program := "ytmocablibmkebaa", sum := "3f5ad220f6201184e129b830ed4b11c7bbf85558b79bd521ba7ce59455666210", func := "loop.example/floorrooms/laws.FnExactTermTidy", spec := "fnExactTermTidy", inPlace := ["internal/bytealg.CountString", "internal/bytealg.IndexByteString", "internal/bytealg.IndexString"], recurses := true, named := ["internal/bytealg.MaxLen"], apart := false, narrowed := true }
def FnExactTermTidyUptoSaid : Prop := fnExactTermTidyUptoRow.holds Try.pinned (OpenSpec.upto fnExactTermTidySpec)

/-- 'laws.FnExactTermLeft', WHERE WHAT IT READS IS OF BULK AT MOST 1048576: true; the input reads as it did. -/
def fnExactTermLeftUptoRow : OpenClaim := { program := "ytmocablibmkebaa", sum := "3f5ad220f6201184e129b830ed4b11c7bbf85558b79bd521ba7ce59455666210", func := "loop.example/floorrooms/laws.FnExactTermLeft", spec := "fnExactTermLeft", inPlace := ["internal/bytealg.CountString", "internal/bytealg.IndexByteString", "internal/bytealg.IndexString"], recurses := true, named := ["internal/bytealg.MaxLen"], apart := false, narrowed := true }
def FnExactTermLeftUptoSaid : Prop := fnExactTermLeftUptoRow.holds Try.pinned (OpenSpec.upto fnExactTermLeftSpec)

end Rows
end Go.Proofs.Ytmocablibmkebaa

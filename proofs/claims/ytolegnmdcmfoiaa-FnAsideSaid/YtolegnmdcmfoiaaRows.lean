/-
  No cell of these rows narrows 'for every input' (looked for: loops, veiled, ifaces, maps, wideKeys, modest, calm, conditions, laid).
  DERIVED. THE GIVEN ROWS OF THIS SEAT. 5 by the template 'for every input the law returns true; each argument reads behind the call as it read before'; 0 by the template 'total and deterministic' (their statements: YtolegnmdcmfoiaaTotals.lean).
  GIVEN WITH THE SEED: the statements are not yours to turn. If you find one false, say at which input.
  Laid BY PROGRAM, IN A SANDBOX (cutbox-rows.mjs): the forced cells as the released guide's own fill.sh prints them over the translation d9add36f5477af25… (all of the seat's roots in one cut). By AI agents, Wed Nov 11 2026. No macro, syntax, notation, axiom, sorry.
-/
import Derived.Test.YtolegnmdcmfoiaaChecked
import GoSem.Claim
import GoSem.ClaimJoined
import GoSem.ClaimMapViews
import Derived.JoinedTies
import Derived.KernelRfl
namespace Go.Proofs.Ytolegnmdcmfoiaa
/- THE CELL 'sum', in the pinned program and in every row, IS THE sha256 OF THE DUMP (.gsa) THAT YtolegnmdcmfoiaaProg.lean LOADS. Nothing in Lean hashes anything: it is a label: what it is worth is what the hold of that sum in a sandbox is worth. -/
noncomputable def Try.pinned : Pinned := { name := "ytolegnmdcmfoiaa", sum := "d9add36f5477af25bebc983c65940ed6217224c547d5fd65b7ce65f280525545", checked := Try.checked }
namespace Rows
def none {H : Type} : Left H := { results := [], args := [] }

/-- 'laws.FnExactPermLoose': WHATEVER THE INPUT: true; the input reads as it did. -/
def fnExactPermLooseSpec : ChangeSpec := { name := "fnExactPermLoose", fn := fun _ => fun
  | [d] => { results := [.lit (.bool true)], args := [d] }
  | _ => none }
def fnExactPermLooseRow : OpenClaim := { program := "ytolegnmdcmfoiaa", sum := "d9add36f5477af25bebc983c65940ed6217224c547d5fd65b7ce65f280525545", func := "loop.example/floorrooms/laws.FnExactPermLoose", spec := "fnExactPermLoose", unfollowed := true, recurses := true, apart := false }
def FnExactPermLooseSaid : Prop := fnExactPermLooseRow.holds Try.pinned (OpenSpec.ofChange fnExactPermLooseSpec)

/-- ITS FALSE NEIGHBOUR: 'it returns false'. Refute it at one input. -/
def fnExactPermLooseWrong : ChangeSpec := { name := "fnExactPermLoose", fn := fun _ => fun
  | [d] => { results := [.lit (.bool false)], args := [d] }
  | _ => none }
def FnExactPermLooseWrongFalsely : Prop := fnExactPermLooseRow.holds Try.pinned (OpenSpec.ofChange fnExactPermLooseWrong)

/-- 'laws.FnExactPermFair': WHATEVER THE INPUT: true; the input reads as it did. -/
def fnExactPermFairSpec : ChangeSpec := { name := "fnExactPermFair", fn := fun _ => fun
  | [d] => { results := [.lit (.bool true)], args := [d] }
  | _ => none }
def fnExactPermFairRow : OpenClaim := { program := "ytolegnmdcmfoiaa", sum := "d9add36f5477af25bebc983c65940ed6217224c547d5fd65b7ce65f280525545", func := "loop.example/floorrooms/laws.FnExactPermFair", spec := "fnExactPermFair", unfollowed := true, recurses := true, apart := false }
def FnExactPermFairSaid : Prop := fnExactPermFairRow.holds Try.pinned (OpenSpec.ofChange fnExactPermFairSpec)

/-- ITS FALSE NEIGHBOUR: 'it returns false'. Refute it at one input. -/
def fnExactPermFairWrong : ChangeSpec := { name := "fnExactPermFair", fn := fun _ => fun
  | [d] => { results := [.lit (.bool false)], args := [d] }
  | _ => none }
def FnExactPermFairWrongFalsely : Prop := fnExactPermFairRow.holds Try.pinned (OpenSpec.ofChange fnExactPermFairWrong)

/-- 'laws.FnFair': WHATEVER THE INPUT: true; the input reads as it did. -/
def fnFairSpec : ChangeSpec := { name := "fnFair", fn := fun _ => fun
  | [d] => { results := [.lit (.bool true)], args := [d] }
  | _ => none }
def fnFairRow : OpenClaim := { program := "ytolegnmdcmfoiaa", sum := "d9add36f5477af25bebc983c65940ed6217224c547d5fd65b7ce65f280525545", func := "loop.example/floorrooms/laws.FnFair", spec := "fnFair", unfollowed := true, recurses := true, apart := false }
def FnFairSaid : Prop := fnFairRow.holds Try.pinned (OpenSpec.ofChange fnFairSpec)

/-- ITS FALSE NEIGHBOUR: 'it returns false'. Refute it at one input. -/
def fnFairWrong : ChangeSpec := { name := "fnFair", fn := fun _ => fun
  | [d] => { results := [.lit (.bool false)], args := [d] }
  | _ => none }
def FnFairWrongFalsely : Prop := fnFairRow.holds Try.pinned (OpenSpec.ofChange fnFairWrong)

/-- 'laws.FnAside': WHATEVER THE INPUT: true; the input reads as it did. -/
def fnAsideSpec : ChangeSpec := { name := "fnAside", fn := fun _ => fun
  | [d] => { results := [.lit (.bool true)], args := [d] }
  | _ => none }
def fnAsideRow : OpenClaim := { program := "ytolegnmdcmfoiaa", sum := "d9add36f5477af25bebc983c65940ed6217224c547d5fd65b7ce65f280525545", func := "loop.example/floorrooms/laws.FnAside", spec := "fnAside", unfollowed := true, recurses := true, apart := false }
def FnAsideSaid : Prop := fnAsideRow.holds Try.pinned (OpenSpec.ofChange fnAsideSpec)

/-- ITS FALSE NEIGHBOUR: 'it returns false'. Refute it at one input. -/
def fnAsideWrong : ChangeSpec := { name := "fnAside", fn := fun _ => fun
  | [d] => { results := [.lit (.bool false)], args := [d] }
  | _ => none }
def FnAsideWrongFalsely : Prop := fnAsideRow.holds Try.pinned (OpenSpec.ofChange fnAsideWrong)

/-- 'laws.FnLoose': WHATEVER THE INPUT: true; the input reads as it did. -/
def fnLooseSpec : ChangeSpec := { name := "fnLoose", fn := fun _ => fun
  | [d] => { results := [.lit (.bool true)], args := [d] }
  | _ => none }
def fnLooseRow : OpenClaim := { program := "ytolegnmdcmfoiaa", sum := "d9add36f5477af25bebc983c65940ed6217224c547d5fd65b7ce65f280525545", func := "loop.example/floorrooms/laws.FnLoose", spec := "fnLoose", unfollowed := true, recurses := true, apart := false }
def FnLooseSaid : Prop := fnLooseRow.holds Try.pinned (OpenSpec.ofChange fnLooseSpec)

/-- ITS FALSE NEIGHBOUR: 'it returns false'. Refute it at one input. -/
def fnLooseWrong : ChangeSpec := { name := "fnLoose", fn := fun _ => fun
  | [d] => { results := [.lit (.bool false)], args := [d] }
  | _ => none }
def FnLooseWrongFalsely : Prop := fnLooseRow.holds Try.pinned (OpenSpec.ofChange fnLooseWrong)

/- THE SECOND FORM. 'bulk': how many values and letters a reading holds, each counted each time it is reached (what is shared counts as often as it is met; a slice's spare places count too). A statement '..UptoSaid' is the law's where the arguments, and the package variables that the reading takes, are together of bulk at most 1048576: NARROWER than '..Said'. Prove '..Said' where nothing that the law and all that it calls make is longer than what came in: it says more and counts as full. Else prove '..UptoSaid'. A law counts once. -/
mutual
def uptoBulk {H : Type} : DataW H → Nat
  | .lit (.string bytes) => bytes.length + 1
  | .lit _ => 1
  | .nil => 1
  | .ptr d => uptoBulk d + 1
  | .slice elems spare => uptoBulkAll elems + uptoBulkAll spare + 1
  | .agg parts => uptoBulkAll parts + 1
  | .iface _ d => uptoBulk d + 1
  | .map entries => uptoBulkEntries entries + 1
  | .held _ => 1
def uptoBulkAll {H : Type} : List (DataW H) → Nat
  | [] => 0
  | d :: r => uptoBulk d + uptoBulkAll r
def uptoBulkEntries {H : Type} : List (Lit × DataW H) → Nat
  | [] => 0
  | x :: r => uptoBulkEntry x + uptoBulkEntries r
def uptoBulkEntry {H : Type} : Lit × DataW H → Nat
  | (.string bytes, d) => bytes.length + uptoBulk d + 1
  | (_, d) => uptoBulk d + 1
 end
def uptoSmall : (H : Type) → List (DataW H) → Bool := fun _ ds => decide (uptoBulkAll ds ≤ 1048576)
def OpenSpec.upto (s : _root_.Go.ChangeSpec) : _root_.Go.OpenSpec := { _root_.Go.OpenSpec.ofChange s with cond := some uptoSmall }

/-- 'laws.FnExactPermLoose', WHERE WHAT IT READS IS OF BULK AT MOST 1048576: true; the input reads as it did. -/
def fnExactPermLooseUptoRow : OpenClaim := { program := "ytolegnmdcmfoiaa", sum := "d9add36f5477af25bebc983c65940ed6217224c547d5fd65b7ce65f280525545", func := "loop.example/floorrooms/laws.FnExactPermLoose", spec := "fnExactPermLoose", unfollowed := true, recurses := true, apart := false, narrowed := true }
def FnExactPermLooseUptoSaid : Prop := fnExactPermLooseUptoRow.holds Try.pinned (OpenSpec.upto fnExactPermLooseSpec)

/-- 'laws.FnExactPermFair', WHERE WHAT IT READS IS OF BULK AT MOST 1048576: true; the input reads as it did. -/
def fnExactPermFairUptoRow : OpenClaim := { program := "ytolegnmdcmfoiaa", sum := "d9add36f5477af25bebc983c65940ed6217224c547d5fd65b7ce65f280525545", func := "loop.example/floorrooms/laws.FnExactPermFair", spec := "fnExactPermFair", unfollowed := true, recurses := true, apart := false, narrowed := true }
def FnExactPermFairUptoSaid : Prop := fnExactPermFairUptoRow.holds Try.pinned (OpenSpec.upto fnExactPermFairSpec)

/-- 'laws.FnFair', WHERE WHAT IT READS IS OF BULK AT MOST 1048576: true; the input reads as it did. -/
def fnFairUptoRow : OpenClaim := { program := "ytolegnmdcmfoiaa", sum := "d9add36f5477af25bebc983c65940ed6217224c547d5fd65b7ce65f280525545", func := "loop.example/floorrooms/laws.FnFair", spec := "fnFair", unfollowed := true, recurses := true, apart := false, narrowed := true }
def FnFairUptoSaid : Prop := fnFairUptoRow.holds Try.pinned (OpenSpec.upto fnFairSpec)

/-- 'laws.FnAside', WHERE WHAT IT READS IS OF BULK AT MOST 1048576: true; the input reads as it did. -/
def fnAsideUptoRow : OpenClaim := { program := "ytolegnmdcmfoiaa", sum := "d9add36f5477af25bebc983c65940ed6217224c547d5fd65b7ce65f280525545", func := "loop.example/floorrooms/laws.FnAside", spec := "fnAside", unfollowed := true, recurses := true, apart := false, narrowed := true }
def FnAsideUptoSaid : Prop := fnAsideUptoRow.holds Try.pinned (OpenSpec.upto fnAsideSpec)

/-- 'laws.FnLoose', WHERE WHAT IT READS IS OF BULK AT MOST 1048576: true; the input reads as it did. -/
def fnLooseUptoRow : OpenClaim := { program := "ytolegnmdcmfoiaa", sum := "d9add36f5477af25bebc983c65940ed6217224c547d5fd65b7ce65f280525545", func := "loop.example/floorrooms/laws.FnLoose", spec := "fnLoose", unfollowed := true, recurses := true, apart := false, narrowed := true }
def FnLooseUptoSaid : Prop := fnLooseUptoRow.holds Try.pinned (OpenSpec.upto fnLooseSpec)

end Rows
end Go.Proofs.Ytolegnmdcmfoiaa

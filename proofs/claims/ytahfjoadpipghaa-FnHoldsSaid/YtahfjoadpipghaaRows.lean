/-
  No cell of these rows narrows 'for every input' (looked for: loops, veiled, ifaces, maps, wideKeys, modest, calm, conditions, laid).
  DERIVED. THE GIVEN ROWS OF THIS SEAT. 5 by the template 'for every input the law returns true; each argument reads behind the call as it read before'; 0 by the template 'total and deterministic' (their statements: YtahfjoadpipghaaTotals.lean).
  GIVEN WITH THE SEED: the statements are not yours to turn. If you find one false, say at which input.
  Laid BY PROGRAM, IN A SANDBOX (cutbox-rows.mjs): the forced cells as the released guide's own fill.sh prints them over the translation e1ec7a22d8d31463… (all of the seat's roots in one cut). By AI agents, Wed Nov 11 2026. No macro, syntax, notation, axiom, sorry.
-/
import Derived.Test.YtahfjoadpipghaaChecked
import GoSem.Claim
import GoSem.ClaimJoined
import GoSem.ClaimMapViews
import Derived.JoinedTies
import Derived.KernelRfl
namespace Go.Proofs.Ytahfjoadpipghaa
/- THE CELL 'sum', in the pinned program and in every row, IS THE sha256 OF THE DUMP (.gsa) THAT YtahfjoadpipghaaProg.lean LOADS. Nothing in Lean hashes anything: it is a label: what it is worth is what the hold of that sum in a sandbox is worth. -/
noncomputable def Try.pinned : Pinned := { name := "ytahfjoadpipghaa", sum := "e1ec7a22d8d314637bcc9c61734cf11b232a481fd8342b95700ce8c01617cc0e", checked := Try.checked }
namespace Rows
def none {H : Type} : Left H := { results := [], args := [] }

/-- 'laws.FnExactKindsUsed': WHATEVER THE INPUT: true; the input reads as it did. -/
def fnExactKindsUsedSpec : ChangeSpec := { name := "fnExactKindsUsed", fn := fun _ => fun
  | [d] => { results := [.lit (.bool true)], args := [d] }
  | _ => none }
def fnExactKindsUsedRow : OpenClaim := { program := "ytahfjoadpipghaa", sum := "e1ec7a22d8d314637bcc9c61734cf11b232a481fd8342b95700ce8c01617cc0e", func := "loop.example/g01013/laws.FnExactKindsUsed", spec := "fnExactKindsUsed", recurses := true, apart := false }
def FnExactKindsUsedSaid : Prop := fnExactKindsUsedRow.holds Try.pinned (OpenSpec.ofChange fnExactKindsUsedSpec)

/-- ITS FALSE NEIGHBOUR: 'it returns false'. Refute it at one input. -/
def fnExactKindsUsedWrong : ChangeSpec := { name := "fnExactKindsUsed", fn := fun _ => fun
  | [d] => { results := [.lit (.bool false)], args := [d] }
  | _ => none }
def FnExactKindsUsedWrongFalsely : Prop := fnExactKindsUsedRow.holds Try.pinned (OpenSpec.ofChange fnExactKindsUsedWrong)

/-- 'laws.FnExactWeakDepth': WHATEVER THE INPUT: true; the input reads as it did. -/
def fnExactWeakDepthSpec : ChangeSpec := { name := "fnExactWeakDepth", fn := fun _ => fun
  | [d1, d2] => { results := [.lit (.bool true)], args := [d1, d2] }
  | _ => none }
def fnExactWeakDepthRow : OpenClaim := { program := "ytahfjoadpipghaa", sum := "e1ec7a22d8d314637bcc9c61734cf11b232a481fd8342b95700ce8c01617cc0e", func := "loop.example/g01013/laws.FnExactWeakDepth", spec := "fnExactWeakDepth", recurses := true, apart := false }
def FnExactWeakDepthSaid : Prop := fnExactWeakDepthRow.holds Try.pinned (OpenSpec.ofChange fnExactWeakDepthSpec)

/-- ITS FALSE NEIGHBOUR: 'it returns false'. Refute it at one input. -/
def fnExactWeakDepthWrong : ChangeSpec := { name := "fnExactWeakDepth", fn := fun _ => fun
  | [d1, d2] => { results := [.lit (.bool false)], args := [d1, d2] }
  | _ => none }
def FnExactWeakDepthWrongFalsely : Prop := fnExactWeakDepthRow.holds Try.pinned (OpenSpec.ofChange fnExactWeakDepthWrong)

/-- 'laws.FnExactDepthGroups': WHATEVER THE INPUT: true; the input reads as it did. -/
def fnExactDepthGroupsSpec : ChangeSpec := { name := "fnExactDepthGroups", fn := fun _ => fun
  | [d1, d2] => { results := [.lit (.bool true)], args := [d1, d2] }
  | _ => none }
def fnExactDepthGroupsRow : OpenClaim := { program := "ytahfjoadpipghaa", sum := "e1ec7a22d8d314637bcc9c61734cf11b232a481fd8342b95700ce8c01617cc0e", func := "loop.example/g01013/laws.FnExactDepthGroups", spec := "fnExactDepthGroups", unfollowed := true, recurses := true, apart := false }
def FnExactDepthGroupsSaid : Prop := fnExactDepthGroupsRow.holds Try.pinned (OpenSpec.ofChange fnExactDepthGroupsSpec)

/-- ITS FALSE NEIGHBOUR: 'it returns false'. Refute it at one input. -/
def fnExactDepthGroupsWrong : ChangeSpec := { name := "fnExactDepthGroups", fn := fun _ => fun
  | [d1, d2] => { results := [.lit (.bool false)], args := [d1, d2] }
  | _ => none }
def FnExactDepthGroupsWrongFalsely : Prop := fnExactDepthGroupsRow.holds Try.pinned (OpenSpec.ofChange fnExactDepthGroupsWrong)

/-- 'laws.FnDepths': WHATEVER THE INPUT: true; the input reads as it did. -/
def fnDepthsSpec : ChangeSpec := { name := "fnDepths", fn := fun _ => fun
  | [d1, d2] => { results := [.lit (.bool true)], args := [d1, d2] }
  | _ => none }
def fnDepthsRow : OpenClaim := { program := "ytahfjoadpipghaa", sum := "e1ec7a22d8d314637bcc9c61734cf11b232a481fd8342b95700ce8c01617cc0e", func := "loop.example/g01013/laws.FnDepths", spec := "fnDepths", unfollowed := true, recurses := true, apart := false }
def FnDepthsSaid : Prop := fnDepthsRow.holds Try.pinned (OpenSpec.ofChange fnDepthsSpec)

/-- ITS FALSE NEIGHBOUR: 'it returns false'. Refute it at one input. -/
def fnDepthsWrong : ChangeSpec := { name := "fnDepths", fn := fun _ => fun
  | [d1, d2] => { results := [.lit (.bool false)], args := [d1, d2] }
  | _ => none }
def FnDepthsWrongFalsely : Prop := fnDepthsRow.holds Try.pinned (OpenSpec.ofChange fnDepthsWrong)

/-- 'laws.FnHolds': WHATEVER THE INPUT: true; the input reads as it did. -/
def fnHoldsSpec : ChangeSpec := { name := "fnHolds", fn := fun _ => fun
  | [d1, d2] => { results := [.lit (.bool true)], args := [d1, d2] }
  | _ => none }
def fnHoldsRow : OpenClaim := { program := "ytahfjoadpipghaa", sum := "e1ec7a22d8d314637bcc9c61734cf11b232a481fd8342b95700ce8c01617cc0e", func := "loop.example/g01013/laws.FnHolds", spec := "fnHolds", unfollowed := true, recurses := true, apart := false }
def FnHoldsSaid : Prop := fnHoldsRow.holds Try.pinned (OpenSpec.ofChange fnHoldsSpec)

/-- ITS FALSE NEIGHBOUR: 'it returns false'. Refute it at one input. -/
def fnHoldsWrong : ChangeSpec := { name := "fnHolds", fn := fun _ => fun
  | [d1, d2] => { results := [.lit (.bool false)], args := [d1, d2] }
  | _ => none }
def FnHoldsWrongFalsely : Prop := fnHoldsRow.holds Try.pinned (OpenSpec.ofChange fnHoldsWrong)

/- THE SECOND FORM. 'bulk': how many values and letters a reading holds, each counted each time it is reached (what is shared counts as often as it is met; a slice's spare places count too). A statement '..UptoSaid' is the law's where the arguments, and the package variables that the reading takes, are together of bulk at most 1048576: NARROWER than '..Said'. Prove '..Said' where nothing that the law and all that it calls make is longer than what came in: it says more and counts as full. Else prove '..UptoSaid'. A law counts once. -/
mutual
def uptoBulk {H : Type} : DataW H → Nat
  | .lit (.string bytes) => bytes.length + 1
  | .lit _ => 1
  | .nil => 1
  | .ptr d => uptoBulk d + 1
  | .slice elems spare => uptoBulkAll elems + uptoBulkAll spare + 1
  | .agg parts => uptoBulkAll parts + 1
  | .iface _ d => uptoBulk d + 1
  | .map entries => uptoBulkEntries entries + 1
  | .held _ => 1
def uptoBulkAll {H : Type} : List (DataW H) → Nat
  | [] => 0
  | d :: r => uptoBulk d + uptoBulkAll r
def uptoBulkEntries {H : Type} : List (Lit × DataW H) → Nat
  | [] => 0
  | x :: r => uptoBulkEntry x + uptoBulkEntries r
def uptoBulkEntry {H : Type} : Lit × DataW H → Nat
  | (.string bytes, d) => bytes.length + uptoBulk d + 1
  | (_, d) => uptoBulk d + 1
 end
def uptoSmall : (H : Type) → List (DataW H) → Bool := fun _ ds => decide (uptoBulkAll ds ≤ 1048576)
def OpenSpec.upto (s : _root_.Go.ChangeSpec) : _root_.Go.OpenSpec := { _root_.Go.OpenSpec.ofChange s with cond := some uptoSmall }

/-- 'laws.FnExactKindsUsed', WHERE WHAT IT READS IS OF BULK AT MOST 1048576: true; the input reads as it did. -/
def fnExactKindsUsedUptoRow : OpenClaim := { program := "ytahfjoadpipghaa", sum := "e1ec7a22d8d314637bcc9c61734cf11b232a481fd8342b95700ce8c01617cc0e", func := "loop.example/g01013/laws.FnExactKindsUsed", spec := "fnExactKindsUsed", recurses := true, apart := false, narrowed := true }
def FnExactKindsUsedUptoSaid : Prop := fnExactKindsUsedUptoRow.holds Try.pinned (OpenSpec.upto fnExactKindsUsedSpec)

/-- 'laws.FnExactWeakDepth', WHERE WHAT IT READS IS OF BULK AT MOST 1048576: true; the input reads as it did. -/
def fnExactWeakDepthUptoRow : OpenClaim := { program := "ytahfjoadpipghaa", sum := "e1ec7a22d8d314637bcc9c61734cf11b232a481fd8342b95700ce8c01617cc0e", func := "loop.example/g01013/laws.FnExactWeakDepth", spec := "fnExactWeakDepth", recurses := true, apart := false, narrowed := true }
def FnExactWeakDepthUptoSaid : Prop := fnExactWeakDepthUptoRow.holds Try.pinned (OpenSpec.upto fnExactWeakDepthSpec)

/-- 'laws.FnExactDepthGroups', WHERE WHAT IT READS IS OF BULK AT MOST 1048576: true; the input reads as it did. -/
def fnExactDepthGroupsUptoRow : OpenClaim := { program := "ytahfjoadpipghaa", sum := "e1ec7a22d8d314637bcc9c61734cf11b232a481fd8342b95700ce8c01617cc0e", func := "loop.example/g01013/laws.FnExactDepthGroups", spec := "fnExactDepthGroups", unfollowed := true, recurses := true, apart := false, narrowed := true }
def FnExactDepthGroupsUptoSaid : Prop := fnExactDepthGroupsUptoRow.holds Try.pinned (OpenSpec.upto fnExactDepthGroupsSpec)

/-- 'laws.FnDepths', WHERE WHAT IT READS IS OF BULK AT MOST 1048576: true; the input reads as it did. -/
def fnDepthsUptoRow : OpenClaim := { program := "ytahfjoadpipghaa", sum := "e1ec7a22d8d314637bcc9c61734cf11b232a481fd8342b95700ce8c01617cc0e", func := "loop.example/g01013/laws.FnDepths", spec := "fnDepths", unfollowed := true, recurses := true, apart := false, narrowed := true }
def FnDepthsUptoSaid : Prop := fnDepthsUptoRow.holds Try.pinned (OpenSpec.upto fnDepthsSpec)

/-- 'laws.FnHolds', WHERE WHAT IT READS IS OF BULK AT MOST 1048576: true; the input reads as it did. -/
def fnHoldsUptoRow : OpenClaim := { program := "ytahfjoadpipghaa", sum := "e1ec7a22d8d314637bcc9c61734cf11b232a481fd8342b95700ce8c01617cc0e", func := "loop.example/g01013/laws.FnHolds", spec := "fnHolds", unfollowed := true, recurses := true, apart := false, narrowed := true }
def FnHoldsUptoSaid : Prop := fnHoldsUptoRow.holds Try.pinned (OpenSpec.upto fnHoldsSpec)

end Rows
end Go.Proofs.Ytahfjoadpipghaa

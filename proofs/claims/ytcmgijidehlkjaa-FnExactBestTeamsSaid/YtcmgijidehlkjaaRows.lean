/-
  No cell of these rows narrows 'for every input' (looked for: loops, veiled, ifaces, maps, wideKeys, modest, calm, conditions, laid).
  DERIVED. THE GIVEN ROWS OF THIS SEAT. 4 by the template 'for every input the law returns true; each argument reads behind the call as it read before'; 0 by the template 'total and deterministic' (their statements: YtcmgijidehlkjaaTotals.lean).
  GIVEN WITH THE SEED: the statements are not yours to turn. If you find one false, say at which input.
  Laid BY PROGRAM, IN A SANDBOX (cutbox-rows.mjs): the forced cells as the released guide's own fill.sh prints them over the translation 3d119a9062e82514… (all of the seat's roots in one cut). By AI agents, Wed Nov 11 2026. No macro, syntax, notation, axiom, sorry.
-/
import Derived.Test.YtcmgijidehlkjaaChecked
import GoSem.Claim
import GoSem.ClaimJoined
import GoSem.ClaimMapViews
import Derived.JoinedTies
import Derived.KernelRfl
namespace Go.Proofs.Ytcmgijidehlkjaa
/- THE CELL 'sum', in the pinned program and in every row, IS THE sha256 OF THE DUMP (.gsa) THAT YtcmgijidehlkjaaProg.lean LOADS. Nothing in Lean hashes anything: it is a label: what it is worth is what the hold of that sum in a sandbox is worth. -/
noncomputable def Try.pinned : Pinned := { name := "ytcmgijidehlkjaa", sum := "3d119a9062e82514330fbe3ba3ac0638bed4487f68fa8e3a85cae7648662d1c1", checked := Try.checked }
namespace Rows
def none {H : Type} : Left H := { results := [], args := [] }

/-- 'laws.FnExactWorthOf': WHATEVER THE INPUT: true; the input reads as it did. -/
def fnExactWorthOfSpec : ChangeSpec := { name := "fnExactWorthOf", fn := fun _ => fun
  | [d1, d2, d3] => { results := [.lit (.bool true)], args := [d1, d2, d3] }
  | _ => none }
def fnExactWorthOfRow : OpenClaim := { program := "ytcmgijidehlkjaa", sum := "3d119a9062e82514330fbe3ba3ac0638bed4487f68fa8e3a85cae7648662d1c1", func := "loop.example/g01013/laws.FnExactWorthOf", spec := "fnExactWorthOf", unfollowed := true, recurses := true, apart := false }
def FnExactWorthOfSaid : Prop := fnExactWorthOfRow.holds Try.pinned (OpenSpec.ofChange fnExactWorthOfSpec)

/-- ITS FALSE NEIGHBOUR: 'it returns false'. Refute it at one input. -/
def fnExactWorthOfWrong : ChangeSpec := { name := "fnExactWorthOf", fn := fun _ => fun
  | [d1, d2, d3] => { results := [.lit (.bool false)], args := [d1, d2, d3] }
  | _ => none }
def FnExactWorthOfWrongFalsely : Prop := fnExactWorthOfRow.holds Try.pinned (OpenSpec.ofChange fnExactWorthOfWrong)

/-- 'laws.FnExactDelayCost': WHATEVER THE INPUT: true; the input reads as it did. -/
def fnExactDelayCostSpec : ChangeSpec := { name := "fnExactDelayCost", fn := fun _ => fun
  | [d1, d2, d3, d4] => { results := [.lit (.bool true)], args := [d1, d2, d3, d4] }
  | _ => none }
def fnExactDelayCostRow : OpenClaim := { program := "ytcmgijidehlkjaa", sum := "3d119a9062e82514330fbe3ba3ac0638bed4487f68fa8e3a85cae7648662d1c1", func := "loop.example/g01013/laws.FnExactDelayCost", spec := "fnExactDelayCost", unfollowed := true, recurses := true, apart := false }
def FnExactDelayCostSaid : Prop := fnExactDelayCostRow.holds Try.pinned (OpenSpec.ofChange fnExactDelayCostSpec)

/-- ITS FALSE NEIGHBOUR: 'it returns false'. Refute it at one input. -/
def fnExactDelayCostWrong : ChangeSpec := { name := "fnExactDelayCost", fn := fun _ => fun
  | [d1, d2, d3, d4] => { results := [.lit (.bool false)], args := [d1, d2, d3, d4] }
  | _ => none }
def FnExactDelayCostWrongFalsely : Prop := fnExactDelayCostRow.holds Try.pinned (OpenSpec.ofChange fnExactDelayCostWrong)

/-- 'laws.FnExactBestOrder': WHATEVER THE INPUT: true; the input reads as it did. -/
def fnExactBestOrderSpec : ChangeSpec := { name := "fnExactBestOrder", fn := fun _ => fun
  | [d1, d2, d3] => { results := [.lit (.bool true)], args := [d1, d2, d3] }
  | _ => none }
def fnExactBestOrderRow : OpenClaim := { program := "ytcmgijidehlkjaa", sum := "3d119a9062e82514330fbe3ba3ac0638bed4487f68fa8e3a85cae7648662d1c1", func := "loop.example/g01013/laws.FnExactBestOrder", spec := "fnExactBestOrder", unfollowed := true, recurses := true, apart := false }
def FnExactBestOrderSaid : Prop := fnExactBestOrderRow.holds Try.pinned (OpenSpec.ofChange fnExactBestOrderSpec)

/-- ITS FALSE NEIGHBOUR: 'it returns false'. Refute it at one input. -/
def fnExactBestOrderWrong : ChangeSpec := { name := "fnExactBestOrder", fn := fun _ => fun
  | [d1, d2, d3] => { results := [.lit (.bool false)], args := [d1, d2, d3] }
  | _ => none }
def FnExactBestOrderWrongFalsely : Prop := fnExactBestOrderRow.holds Try.pinned (OpenSpec.ofChange fnExactBestOrderWrong)

/-- 'laws.FnExactBestTeams': WHATEVER THE INPUT: true; the input reads as it did. -/
def fnExactBestTeamsSpec : ChangeSpec := { name := "fnExactBestTeams", fn := fun _ => fun
  | [d1, d2, d3, d4] => { results := [.lit (.bool true)], args := [d1, d2, d3, d4] }
  | _ => none }
def fnExactBestTeamsRow : OpenClaim := { program := "ytcmgijidehlkjaa", sum := "3d119a9062e82514330fbe3ba3ac0638bed4487f68fa8e3a85cae7648662d1c1", func := "loop.example/g01013/laws.FnExactBestTeams", spec := "fnExactBestTeams", unfollowed := true, recurses := true, apart := false }
def FnExactBestTeamsSaid : Prop := fnExactBestTeamsRow.holds Try.pinned (OpenSpec.ofChange fnExactBestTeamsSpec)

/-- ITS FALSE NEIGHBOUR: 'it returns false'. Refute it at one input. -/
def fnExactBestTeamsWrong : ChangeSpec := { name := "fnExactBestTeams", fn := fun _ => fun
  | [d1, d2, d3, d4] => { results := [.lit (.bool false)], args := [d1, d2, d3, d4] }
  | _ => none }
def FnExactBestTeamsWrongFalsely : Prop := fnExactBestTeamsRow.holds Try.pinned (OpenSpec.ofChange fnExactBestTeamsWrong)

/- THE SECOND FORM. 'bulk': how many values and letters a reading holds, each counted each time it is reached (what is shared counts as often as it is met; a slice's spare places count too). A statement '..UptoSaid' is the law's where the arguments, and the package variables that the reading takes, are together of bulk at most 1048576: NARROWER than '..Said'. Prove '..Said' where nothing that the law and all that it calls make is longer than what came in: it says more and counts as full. Else prove '..UptoSaid'. A law counts once. -/
mutual
def uptoBulk {H : Type} : DataW H → Nat
  | .lit (.string bytes) => bytes.length + 1
  | .lit _ => 1
  | .nil => 1
  | .ptr d => uptoBulk d + 1
  | .slice elems spare => uptoBulkAll elems + uptoBulkAll spare + 1
  | .agg parts => uptoBulkAll parts + 1
  | .iface _ d => uptoBulk d + 1
  | .map entries => uptoBulkEntries entries + 1
  | .held _ => 1
def uptoBulkAll {H : Type} : List (DataW H) → Nat
  | [] => 0
  | d :: r => uptoBulk d + uptoBulkAll r
def uptoBulkEntries {H : Type} : List (Lit × DataW H) → Nat
  | [] => 0
  | x :: r => uptoBulkEntry x + uptoBulkEntries r
def uptoBulkEntry {H : Type} : Lit × DataW H → Nat
  | (.string bytes, d) => bytes.length + uptoBulk d + 1
  | (_, d) => uptoBulk d + 1
 end
def uptoSmall : (H : Type) → List (DataW H) → Bool := fun _ ds => decide (uptoBulkAll ds ≤ 1048576)
def OpenSpec.upto (s : _root_.Go.ChangeSpec) : _root_.Go.OpenSpec := { _root_.Go.OpenSpec.ofChange s with cond := some uptoSmall }

/-- 'laws.FnExactWorthOf', WHERE WHAT IT READS IS OF BULK AT MOST 1048576: true; the input reads as it did. -/
def fnExactWorthOfUptoRow : OpenClaim := { program := "ytcmgijidehlkjaa", sum := "3d119a9062e82514330fbe3ba3ac0638bed4487f68fa8e3a85cae7648662d1c1", func := "loop.example/g01013/laws.FnExactWorthOf", spec := "fnExactWorthOf", unfollowed := true, recurses := true, apart := false, narrowed := true }
def FnExactWorthOfUptoSaid : Prop := fnExactWorthOfUptoRow.holds Try.pinned (OpenSpec.upto fnExactWorthOfSpec)

/-- 'laws.FnExactDelayCost', WHERE WHAT IT READS IS OF BULK AT MOST 1048576: true; the input reads as it did. -/
def fnExactDelayCostUptoRow : OpenClaim := { program := "ytcmgijidehlkjaa", sum := "3d119a9062e82514330fbe3ba3ac0638bed4487f68fa8e3a85cae7648662d1c1", func := "loop.example/g01013/laws.FnExactDelayCost", spec := "fnExactDelayCost", unfollowed := true, recurses := true, apart := false, narrowed := true }
def FnExactDelayCostUptoSaid : Prop := fnExactDelayCostUptoRow.holds Try.pinned (OpenSpec.upto fnExactDelayCostSpec)

/-- 'laws.FnExactBestOrder', WHERE WHAT IT READS IS OF BULK AT MOST 1048576: true; the input reads as it did. -/
def fnExactBestOrderUptoRow : OpenClaim := { program := "ytcmgijidehlkjaa", sum := "3d119a9062e82514330fbe3ba3ac0638bed4487f68fa8e3a85cae7648662d1c1", func := "loop.example/g01013/laws.FnExactBestOrder", spec := "fnExactBestOrder", unfollowed := true, recurses := true, apart := false, narrowed := true }
def FnExactBestOrderUptoSaid : Prop := fnExactBestOrderUptoRow.holds Try.pinned (OpenSpec.upto fnExactBestOrderSpec)

/-- 'laws.FnExactBestTeams', WHERE WHAT IT READS IS OF BULK AT MOST 1048576: true; the input reads as it did. -/
def fnExactBestTeamsUptoRow : OpenClaim := { program := "ytcmgijidehlkjaa", sum := "3d119a9062e82514330fbe3ba3ac0638bed4487f68fa8e3a85cae7648662d1c1", func := "loop.example/g01013/laws.FnExactBestTeams", spec := "fnExactBestTeams", unfollowed := true, recurses := true, apart := false, narrowed := true }
def FnExactBestTeamsUptoSaid : Prop := fnExactBestTeamsUptoRow.holds Try.pinned (OpenSpec.upto fnExactBestTeamsSpec)

end Rows
end Go.Proofs.Ytcmgijidehlkjaa

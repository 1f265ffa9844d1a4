/-
  No cell of these rows narrows 'for every input' (looked for: loops, veiled, ifaces, maps, wideKeys, modest, calm, conditions, laid).
  DERIVED. THE GIVEN ROWS OF THIS SEAT. 9 by the template 'for every input the law returns true; each argument reads behind the call as it read before'; 0 by the template 'total and deterministic' (their statements: YtbfgaimlkoeklaaTotals.lean).
  GIVEN WITH THE SEED: the statements are not yours to turn. If you find one false, say at which input.
  Laid BY PROGRAM, IN A SANDBOX (cutbox-rows.mjs): the forced cells as the released guide's own fill.sh prints them over the translation 5e55317a7edf1bef… (all of the seat's roots in one cut). By AI agents, Wed Nov 11 2026. No macro, syntax, notation, axiom, sorry.
-/
import Derived.Test.YtbfgaimlkoeklaaChecked
import GoSem.Claim
import GoSem.ClaimJoined
import GoSem.ClaimMapViews
import Derived.JoinedTies
import Derived.KernelRfl
namespace Go.Proofs.Ytbfgaimlkoeklaa
/- THE CELL 'sum', in the pinned program and in every row, IS THE sha256 OF THE DUMP (.gsa) THAT YtbfgaimlkoeklaaProg.lean LOADS. Nothing in Lean hashes anything: it is a label: what it is worth is what the hold of that sum in a sandbox is worth. -/
noncomputable def Try.pinned : Pinned := { name := "ytbfgaimlkoeklaa", sum := "5e55317a7edf1bef3e403ed3c368f1c13417b859196d0207e0e8c338527aceaa", checked := Try.checked }
namespace Rows
def none {H : Type} : Left H := { results := [], args := [] }

/-- 'laws.FnExactHeadsOf': WHATEVER THE INPUT: true; the input reads as it did. -/
def fnExactHeadsOfSpec : ChangeSpec := { name := "fnExactHeadsOf", fn := fun _ => fun
  | [d] => { results := [.lit (.bool true)], args := [d] }
  | _ => none }
def fnExactHeadsOfRow : OpenClaim := { program := "ytbfgaimlkoeklaa", sum := "5e55317a7edf1bef3e403ed3c368f1c13417b859196d0207e0e8c338527aceaa", func := "loop.example/g01013/laws.FnExactHeadsOf", spec := "fnExactHeadsOf", unfollowed := true, recurses := true, apart := false }
def FnExactHeadsOfSaid : Prop := fnExactHeadsOfRow.holds Try.pinned (OpenSpec.ofChange fnExactHeadsOfSpec)

/-- ITS FALSE NEIGHBOUR: 'it returns false'. Refute it at one input. -/
def fnExactHeadsOfWrong : ChangeSpec := { name := "fnExactHeadsOf", fn := fun _ => fun
  | [d] => { results := [.lit (.bool false)], args := [d] }
  | _ => none }
def FnExactHeadsOfWrongFalsely : Prop := fnExactHeadsOfRow.holds Try.pinned (OpenSpec.ofChange fnExactHeadsOfWrong)

/-- 'laws.FnExactAncestorsOf': WHATEVER THE INPUT: true; the input reads as it did. -/
def fnExactAncestorsOfSpec : ChangeSpec := { name := "fnExactAncestorsOf", fn := fun _ => fun
  | [d1, d2] => { results := [.lit (.bool true)], args := [d1, d2] }
  | _ => none }
def fnExactAncestorsOfRow : OpenClaim := { program := "ytbfgaimlkoeklaa", sum := "5e55317a7edf1bef3e403ed3c368f1c13417b859196d0207e0e8c338527aceaa", func := "loop.example/g01013/laws.FnExactAncestorsOf", spec := "fnExactAncestorsOf", unfollowed := true, recurses := true, apart := false }
def FnExactAncestorsOfSaid : Prop := fnExactAncestorsOfRow.holds Try.pinned (OpenSpec.ofChange fnExactAncestorsOfSpec)

/-- ITS FALSE NEIGHBOUR: 'it returns false'. Refute it at one input. -/
def fnExactAncestorsOfWrong : ChangeSpec := { name := "fnExactAncestorsOf", fn := fun _ => fun
  | [d1, d2] => { results := [.lit (.bool false)], args := [d1, d2] }
  | _ => none }
def FnExactAncestorsOfWrongFalsely : Prop := fnExactAncestorsOfRow.holds Try.pinned (OpenSpec.ofChange fnExactAncestorsOfWrong)

/-- 'laws.FnExactCommonAncestor': WHATEVER THE INPUT: true; the input reads as it did. -/
def fnExactCommonAncestorSpec : ChangeSpec := { name := "fnExactCommonAncestor", fn := fun _ => fun
  | [d1, d2, d3] => { results := [.lit (.bool true)], args := [d1, d2, d3] }
  | _ => none }
def fnExactCommonAncestorRow : OpenClaim := { program := "ytbfgaimlkoeklaa", sum := "5e55317a7edf1bef3e403ed3c368f1c13417b859196d0207e0e8c338527aceaa", func := "loop.example/g01013/laws.FnExactCommonAncestor", spec := "fnExactCommonAncestor", unfollowed := true, recurses := true, apart := false }
def FnExactCommonAncestorSaid : Prop := fnExactCommonAncestorRow.holds Try.pinned (OpenSpec.ofChange fnExactCommonAncestorSpec)

/-- ITS FALSE NEIGHBOUR: 'it returns false'. Refute it at one input. -/
def fnExactCommonAncestorWrong : ChangeSpec := { name := "fnExactCommonAncestor", fn := fun _ => fun
  | [d1, d2, d3] => { results := [.lit (.bool false)], args := [d1, d2, d3] }
  | _ => none }
def FnExactCommonAncestorWrongFalsely : Prop := fnExactCommonAncestorRow.holds Try.pinned (OpenSpec.ofChange fnExactCommonAncestorWrong)

/-- 'laws.FnExactCommitState': WHATEVER THE INPUT: true; the input reads as it did. -/
def fnExactCommitStateSpec : ChangeSpec := { name := "fnExactCommitState", fn := fun _ => fun
  | [d1, d2, d3, d4] => { results := [.lit (.bool true)], args := [d1, d2, d3, d4] }
  | _ => none }
def fnExactCommitStateRow : OpenClaim := { program := "ytbfgaimlkoeklaa", sum := "5e55317a7edf1bef3e403ed3c368f1c13417b859196d0207e0e8c338527aceaa", func := "loop.example/g01013/laws.FnExactCommitState", spec := "fnExactCommitState", apart := false }
def FnExactCommitStateSaid : Prop := fnExactCommitStateRow.holds Try.pinned (OpenSpec.ofChange fnExactCommitStateSpec)

/-- ITS FALSE NEIGHBOUR: 'it returns false'. Refute it at one input. -/
def fnExactCommitStateWrong : ChangeSpec := { name := "fnExactCommitState", fn := fun _ => fun
  | [d1, d2, d3, d4] => { results := [.lit (.bool false)], args := [d1, d2, d3, d4] }
  | _ => none }
def FnExactCommitStateWrongFalsely : Prop := fnExactCommitStateRow.holds Try.pinned (OpenSpec.ofChange fnExactCommitStateWrong)

/-- 'laws.FnExactApplyChanges': WHATEVER THE INPUT: true; the input reads as it did. -/
def fnExactApplyChangesSpec : ChangeSpec := { name := "fnExactApplyChanges", fn := fun _ => fun
  | [d1, d2] => { results := [.lit (.bool true)], args := [d1, d2] }
  | _ => none }
def fnExactApplyChangesRow : OpenClaim := { program := "ytbfgaimlkoeklaa", sum := "5e55317a7edf1bef3e403ed3c368f1c13417b859196d0207e0e8c338527aceaa", func := "loop.example/g01013/laws.FnExactApplyChanges", spec := "fnExactApplyChanges", inPlace := ["slices.overlaps[loop.example/g01013/impl.Setting]"], unfollowed := true, recurses := true, apart := false }
def FnExactApplyChangesSaid : Prop := fnExactApplyChangesRow.holds Try.pinned (OpenSpec.ofChange fnExactApplyChangesSpec)

/-- ITS FALSE NEIGHBOUR: 'it returns false'. Refute it at one input. -/
def fnExactApplyChangesWrong : ChangeSpec := { name := "fnExactApplyChanges", fn := fun _ => fun
  | [d1, d2] => { results := [.lit (.bool false)], args := [d1, d2] }
  | _ => none }
def FnExactApplyChangesWrongFalsely : Prop := fnExactApplyChangesRow.holds Try.pinned (OpenSpec.ofChange fnExactApplyChangesWrong)

/-- 'laws.FnExactConflictsOf': WHATEVER THE INPUT: true; the input reads as it did. -/
def fnExactConflictsOfSpec : ChangeSpec := { name := "fnExactConflictsOf", fn := fun _ => fun
  | [d1, d2, d3] => { results := [.lit (.bool true)], args := [d1, d2, d3] }
  | _ => none }
def fnExactConflictsOfRow : OpenClaim := { program := "ytbfgaimlkoeklaa", sum := "5e55317a7edf1bef3e403ed3c368f1c13417b859196d0207e0e8c338527aceaa", func := "loop.example/g01013/laws.FnExactConflictsOf", spec := "fnExactConflictsOf", unfollowed := true, recurses := true, apart := false }
def FnExactConflictsOfSaid : Prop := fnExactConflictsOfRow.holds Try.pinned (OpenSpec.ofChange fnExactConflictsOfSpec)

/-- ITS FALSE NEIGHBOUR: 'it returns false'. Refute it at one input. -/
def fnExactConflictsOfWrong : ChangeSpec := { name := "fnExactConflictsOf", fn := fun _ => fun
  | [d1, d2, d3] => { results := [.lit (.bool false)], args := [d1, d2, d3] }
  | _ => none }
def FnExactConflictsOfWrongFalsely : Prop := fnExactConflictsOfRow.holds Try.pinned (OpenSpec.ofChange fnExactConflictsOfWrong)

/-- 'laws.FnExactMergeStates': WHATEVER THE INPUT: true; the input reads as it did. -/
def fnExactMergeStatesSpec : ChangeSpec := { name := "fnExactMergeStates", fn := fun _ => fun
  | [d1, d2, d3] => { results := [.lit (.bool true)], args := [d1, d2, d3] }
  | _ => none }
def fnExactMergeStatesRow : OpenClaim := { program := "ytbfgaimlkoeklaa", sum := "5e55317a7edf1bef3e403ed3c368f1c13417b859196d0207e0e8c338527aceaa", func := "loop.example/g01013/laws.FnExactMergeStates", spec := "fnExactMergeStates", unfollowed := true, recurses := true, apart := false }
def FnExactMergeStatesSaid : Prop := fnExactMergeStatesRow.holds Try.pinned (OpenSpec.ofChange fnExactMergeStatesSpec)

/-- ITS FALSE NEIGHBOUR: 'it returns false'. Refute it at one input. -/
def fnExactMergeStatesWrong : ChangeSpec := { name := "fnExactMergeStates", fn := fun _ => fun
  | [d1, d2, d3] => { results := [.lit (.bool false)], args := [d1, d2, d3] }
  | _ => none }
def FnExactMergeStatesWrongFalsely : Prop := fnExactMergeStatesRow.holds Try.pinned (OpenSpec.ofChange fnExactMergeStatesWrong)

/-- 'laws.FnExactMergeVersions': WHATEVER THE INPUT: true; the input reads as it did. -/
def fnExactMergeVersionsSpec : ChangeSpec := { name := "fnExactMergeVersions", fn := fun _ => fun
  | [d1, d2, d3, d4] => { results := [.lit (.bool true)], args := [d1, d2, d3, d4] }
  | _ => none }
def fnExactMergeVersionsRow : OpenClaim := { program := "ytbfgaimlkoeklaa", sum := "5e55317a7edf1bef3e403ed3c368f1c13417b859196d0207e0e8c338527aceaa", func := "loop.example/g01013/laws.FnExactMergeVersions", spec := "fnExactMergeVersions", unfollowed := true, recurses := true, apart := false }
def FnExactMergeVersionsSaid : Prop := fnExactMergeVersionsRow.holds Try.pinned (OpenSpec.ofChange fnExactMergeVersionsSpec)

/-- ITS FALSE NEIGHBOUR: 'it returns false'. Refute it at one input. -/
def fnExactMergeVersionsWrong : ChangeSpec := { name := "fnExactMergeVersions", fn := fun _ => fun
  | [d1, d2, d3, d4] => { results := [.lit (.bool false)], args := [d1, d2, d3, d4] }
  | _ => none }
def FnExactMergeVersionsWrongFalsely : Prop := fnExactMergeVersionsRow.holds Try.pinned (OpenSpec.ofChange fnExactMergeVersionsWrong)

/-- 'laws.FnMerges': WHATEVER THE INPUT: true; the input reads as it did. -/
def fnMergesSpec : ChangeSpec := { name := "fnMerges", fn := fun _ => fun
  | [d1, d2] => { results := [.lit (.bool true)], args := [d1, d2] }
  | _ => none }
def fnMergesRow : OpenClaim := { program := "ytbfgaimlkoeklaa", sum := "5e55317a7edf1bef3e403ed3c368f1c13417b859196d0207e0e8c338527aceaa", func := "loop.example/g01013/laws.FnMerges", spec := "fnMerges", unfollowed := true, recurses := true, apart := false }
def FnMergesSaid : Prop := fnMergesRow.holds Try.pinned (OpenSpec.ofChange fnMergesSpec)

/-- ITS FALSE NEIGHBOUR: 'it returns false'. Refute it at one input. -/
def fnMergesWrong : ChangeSpec := { name := "fnMerges", fn := fun _ => fun
  | [d1, d2] => { results := [.lit (.bool false)], args := [d1, d2] }
  | _ => none }
def FnMergesWrongFalsely : Prop := fnMergesRow.holds Try.pinned (OpenSpec.ofChange fnMergesWrong)

/- THE SECOND FORM. 'bulk': how many values and letters a reading holds, each counted each time it is reached (what is shared counts as often as it is met; a slice's spare places count too). A statement '..UptoSaid' is the law's where the arguments, and the package variables that the reading takes, are together of bulk at most 1048576: NARROWER than '..Said'. Prove '..Said' where nothing that the law and all that it calls make is longer than what came in: it says more and counts as full. Else prove '..UptoSaid'. A law counts once. -/
mutual
def uptoBulk {H : Type} : DataW H → Nat
  | .lit (.string bytes) => bytes.length + 1
  | .lit _ => 1
  | .nil => 1
  | .ptr d => uptoBulk d + 1
  | .slice elems spare => uptoBulkAll elems + uptoBulkAll spare + 1
  | .agg parts => uptoBulkAll parts + 1
  | .iface _ d => uptoBulk d + 1
  | .map entries => uptoBulkEntries entries + 1
  | .held _ => 1
def uptoBulkAll {H : Type} : List (DataW H) → Nat
  | [] => 0
  | d :: r => uptoBulk d + uptoBulkAll r
def uptoBulkEntries {H : Type} : List (Lit × DataW H) → Nat
  | [] => 0
  | x :: r => uptoBulkEntry x + uptoBulkEntries r
def uptoBulkEntry {H : Type} : Lit × DataW H → Nat
  | (.string bytes, d) => bytes.length + uptoBulk d + 1
  | (_, d) => uptoBulk d + 1
 end
def uptoSmall : (H : Type) → List (DataW H) → Bool := fun _ ds => decide (uptoBulkAll ds ≤ 1048576)
def OpenSpec.upto (s : _root_.Go.ChangeSpec) : _root_.Go.OpenSpec := { _root_.Go.OpenSpec.ofChange s with cond := some uptoSmall }

/-- 'laws.FnExactHeadsOf', WHERE WHAT IT READS IS OF BULK AT MOST 1048576: true; the input reads as it did. -/
def fnExactHeadsOfUptoRow : OpenClaim := { program := "ytbfgaimlkoeklaa", sum := "5e55317a7edf1bef3e403ed3c368f1c13417b859196d0207e0e8c338527aceaa", func := "loop.example/g01013/laws.FnExactHeadsOf", spec := "fnExactHeadsOf", unfollowed := true, recurses := true, apart := false, narrowed := true }
def FnExactHeadsOfUptoSaid : Prop := fnExactHeadsOfUptoRow.holds Try.pinned (OpenSpec.upto fnExactHeadsOfSpec)

/-- 'laws.FnExactAncestorsOf', WHERE WHAT IT READS IS OF BULK AT MOST 1048576: true; the input reads as it did. -/
def fnExactAncestorsOfUptoRow : OpenClaim := { program := "ytbfgaimlkoeklaa", sum := "5e55317a7edf1bef3e403ed3c368f1c13417b859196d0207e0e8c338527aceaa", func := "loop.example/g01013/laws.FnExactAncestorsOf", spec := "fnExactAncestorsOf", unfollowed := true, recurses := true, apart := false, narrowed := true }
def FnExactAncestorsOfUptoSaid : Prop := fnExactAncestorsOfUptoRow.holds Try.pinned (OpenSpec.upto fnExactAncestorsOfSpec)

/-- 'laws.FnExactCommonAncestor', WHERE WHAT IT READS IS OF BULK AT MOST 1048576: true; the input reads as it did. -/
def fnExactCommonAncestorUptoRow : OpenClaim := { program := "ytbfgaimlkoeklaa", sum := "5e55317a7edf1bef3e403ed3c368f1c13417b859196d0207e0e8c338527aceaa", func := "loop.example/g01013/laws.FnExactCommonAncestor", spec := "fnExactCommonAncestor", unfollowed := true, recurses := true, apart := false, narrowed := true }
def FnExactCommonAncestorUptoSaid : Prop := fnExactCommonAncestorUptoRow.holds Try.pinned (OpenSpec.upto fnExactCommonAncestorSpec)

/-- 'laws.FnExactCommitState', WHERE WHAT IT READS IS OF BULK AT MOST 1048576: true; the input reads as it did. -/
def fnExactCommitStateUptoRow : OpenClaim := { program := "ytbfgaimlkoeklaa", sum := "5e55317a7edf1bef3e403ed3c368f1c13417b859196d0207e0e8c338527aceaa", func := "loop.example/g01013/laws.FnExactCommitState", spec := "fnExactCommitState", apart := false, narrowed := true }
def FnExactCommitStateUptoSaid : Prop := fnExactCommitStateUptoRow.holds Try.pinned (OpenSpec.upto fnExactCommitStateSpec)

/-- 'laws.FnExactApplyChanges', WHERE WHAT IT READS IS OF BULK AT MOST 1048576: true; the input reads as it did. -/
def fnExactApplyChangesUptoRow : OpenClaim := { program := "ytbfgaimlkoeklaa", sum := "5e55317a7edf1bef3e403ed3c368f1c13417b859196d0207e0e8c338527aceaa", func := "loop.example/g01013/laws.FnExactApplyChanges", spec := "fnExactApplyChanges", inPlace := ["slices.overlaps[loop.example/g01013/impl.Setting]"], unfollowed := true, recurses := true, apart := false, narrowed := true }
def FnExactApplyChangesUptoSaid : Prop := fnExactApplyChangesUptoRow.holds Try.pinned (OpenSpec.upto fnExactApplyChangesSpec)

/-- 'laws.FnExactConflictsOf', WHERE WHAT IT READS IS OF BULK AT MOST 1048576: true; the input reads as it did. -/
def fnExactConflictsOfUptoRow : OpenClaim := { program := "ytbfgaimlkoeklaa", sum := "5e55317a7edf1bef3e403ed3c368f1c13417b859196d0207e0e8c338527aceaa", func := "loop.example/g01013/laws.FnExactConflictsOf", spec := "fnExactConflictsOf", unfollowed := true, recurses := true, apart := false, narrowed := true }
def FnExactConflictsOfUptoSaid : Prop := fnExactConflictsOfUptoRow.holds Try.pinned (OpenSpec.upto fnExactConflictsOfSpec)

/-- 'laws.FnExactMergeStates', WHERE WHAT IT READS IS OF BULK AT MOST 1048576: true; the input reads as it did. -/
def fnExactMergeStatesUptoRow : OpenClaim := { program := "ytbfgaimlkoeklaa", sum := "5e55317a7edf1bef3e403ed3c368f1c13417b859196d0207e0e8c338527aceaa", func := "loop.example/g01013/laws.FnExactMergeStates", spec := "fnExactMergeStates", unfollowed := true, recurses := true, apart := false, narrowed := true }
def FnExactMergeStatesUptoSaid : Prop := fnExactMergeStatesUptoRow.holds Try.pinned (OpenSpec.upto fnExactMergeStatesSpec)

/-- 'laws.FnExactMergeVersions', WHERE WHAT IT READS IS OF BULK AT MOST 1048576: true; the input reads as it did. -/
def fnExactMergeVersionsUptoRow : OpenClaim := { program := "ytbfgaimlkoeklaa", sum := "5e55317a7edf1bef3e403ed3c368f1c13417b859196d0207e0e8c338527aceaa", func := "loop.example/g01013/laws.FnExactMergeVersions", spec := "fnExactMergeVersions", unfollowed := true, recurses := true, apart := false, narrowed := true }
def FnExactMergeVersionsUptoSaid : Prop := fnExactMergeVersionsUptoRow.holds Try.pinned (OpenSpec.upto fnExactMergeVersionsSpec)

/-- 'laws.FnMerges', WHERE WHAT IT READS IS OF BULK AT MOST 1048576: true; the input reads as it did. -/
def fnMergesUptoRow : OpenClaim := { program := "ytbfgaimlkoeklaa", sum := "5e55317a7edf1bef3e403ed3c368f1c13417b859196d0207e0e8c338527aceaa", func := "loop.example/g01013/laws.FnMerges", spec := "fnMerges", unfollowed := true, recurses := true, apart := false, narrowed := true }
def FnMergesUptoSaid : Prop := fnMergesUptoRow.holds Try.pinned (OpenSpec.upto fnMergesSpec)

end Rows
end Go.Proofs.Ytbfgaimlkoeklaa

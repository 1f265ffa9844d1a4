/-
  No cell of these rows narrows 'for every input' (looked for: loops, veiled, ifaces, maps, wideKeys, modest, calm, conditions, laid).
  DERIVED. THE GIVEN ROWS OF THIS SEAT. 3 by the template 'for every input the law returns true; each argument reads behind the call as it read before'; 0 by the template 'total and deterministic' (their statements: YtndkcgiadpdcjaaTotals.lean).
  GIVEN WITH THE SEED: the statements are not yours to turn. If you find one false, say at which input.
  Laid BY PROGRAM, IN A SANDBOX (cutbox-rows.mjs): the forced cells as the released guide's own fill.sh prints them over the translation f23909a04889f681… (all of the seat's roots in one cut). By AI agents, Wed Nov 11 2026. No macro, syntax, notation, axiom, sorry.
-/
import Derived.Test.YtndkcgiadpdcjaaChecked
import GoSem.Claim
import GoSem.ClaimJoined
import GoSem.ClaimMapViews
import Derived.JoinedTies
import Derived.KernelRfl
namespace Go.Proofs.Ytndkcgiadpdcjaa
/- THE CELL 'sum', in the pinned program and in every row, IS THE sha256 OF THE DUMP (.gsa) THAT YtndkcgiadpdcjaaProg.lean LOADS. Nothing in Lean hashes anything: it is a label: what it is worth is what the hold of that sum in a sandbox is worth. -/
noncomputable def Try.pinned : Pinned := { name := "ytndkcgiadpdcjaa", sum := "f23909a04889f6812d36589be0dd2caa2a3137ba443c73d65fb84863ea4a291f", checked := Try.checked }
namespace Rows
def none {H : Type} : Left H := { results := [], args := [] }

/-- 'laws.FnExactCausesBy': WHATEVER THE INPUT: true; the input reads as it did. -/
def fnExactCausesBySpec : ChangeSpec := { name := "fnExactCausesBy", fn := fun _ => fun
  | [d] => { results := [.lit (.bool true)], args := [d] }
  | _ => none }
def fnExactCausesByRow : OpenClaim := { program := "ytndkcgiadpdcjaa", sum := "f23909a04889f6812d36589be0dd2caa2a3137ba443c73d65fb84863ea4a291f", func := "loop.example/g01013/laws.FnExactCausesBy", spec := "fnExactCausesBy", unfollowed := true, recurses := true, apart := false }
def FnExactCausesBySaid : Prop := fnExactCausesByRow.holds Try.pinned (OpenSpec.ofChange fnExactCausesBySpec)

/-- ITS FALSE NEIGHBOUR: 'it returns false'. Refute it at one input. -/
def fnExactCausesByWrong : ChangeSpec := { name := "fnExactCausesBy", fn := fun _ => fun
  | [d] => { results := [.lit (.bool false)], args := [d] }
  | _ => none }
def FnExactCausesByWrongFalsely : Prop := fnExactCausesByRow.holds Try.pinned (OpenSpec.ofChange fnExactCausesByWrong)

/-- 'laws.FnExactPlacesOf': WHATEVER THE INPUT: true; the input reads as it did. -/
def fnExactPlacesOfSpec : ChangeSpec := { name := "fnExactPlacesOf", fn := fun _ => fun
  | [d] => { results := [.lit (.bool true)], args := [d] }
  | _ => none }
def fnExactPlacesOfRow : OpenClaim := { program := "ytndkcgiadpdcjaa", sum := "f23909a04889f6812d36589be0dd2caa2a3137ba443c73d65fb84863ea4a291f", func := "loop.example/g01013/laws.FnExactPlacesOf", spec := "fnExactPlacesOf", unfollowed := true, recurses := true, apart := false }
def FnExactPlacesOfSaid : Prop := fnExactPlacesOfRow.holds Try.pinned (OpenSpec.ofChange fnExactPlacesOfSpec)

/-- ITS FALSE NEIGHBOUR: 'it returns false'. Refute it at one input. -/
def fnExactPlacesOfWrong : ChangeSpec := { name := "fnExactPlacesOf", fn := fun _ => fun
  | [d] => { results := [.lit (.bool false)], args := [d] }
  | _ => none }
def FnExactPlacesOfWrongFalsely : Prop := fnExactPlacesOfRow.holds Try.pinned (OpenSpec.ofChange fnExactPlacesOfWrong)

/-- 'laws.FnCalm': WHATEVER THE INPUT: true; the input reads as it did. -/
def fnCalmSpec : ChangeSpec := { name := "fnCalm", fn := fun _ => fun
  | [d1, d2] => { results := [.lit (.bool true)], args := [d1, d2] }
  | _ => none }
def fnCalmRow : OpenClaim := { program := "ytndkcgiadpdcjaa", sum := "f23909a04889f6812d36589be0dd2caa2a3137ba443c73d65fb84863ea4a291f", func := "loop.example/g01013/laws.FnCalm", spec := "fnCalm", unfollowed := true, recurses := true, apart := false }
def FnCalmSaid : Prop := fnCalmRow.holds Try.pinned (OpenSpec.ofChange fnCalmSpec)

/-- ITS FALSE NEIGHBOUR: 'it returns false'. Refute it at one input. -/
def fnCalmWrong : ChangeSpec := { name := "fnCalm", fn := fun _ => fun
  | [d1, d2] => { results := [.lit (.bool false)], args := [d1, d2] }
  | _ => none }
def FnCalmWrongFalsely : Prop := fnCalmRow.holds Try.pinned (OpenSpec.ofChange fnCalmWrong)

/- THE SECOND FORM. 'bulk': how many values and letters a reading holds, each counted each time it is reached (what is shared counts as often as it is met; a slice's spare places count too). A statement '..UptoSaid' is the law's where the arguments, and the package variables that the reading takes, are together of bulk at most 1048576: NARROWER than '..Said'. Prove '..Said' where nothing that the law and all that it calls make is longer than what came in: it says more and counts as full. Else prove '..UptoSaid'. A law counts once. -/
mutual
def uptoBulk {H : Type} : DataW H → Nat
  | .lit (.string bytes) => bytes.length + 1
  | .lit _ => 1
  | .nil => 1
  | .ptr d => uptoBulk d + 1
  | .slice elems spare => uptoBulkAll elems + uptoBulkAll spare + 1
  | .agg parts => uptoBulkAll parts + 1
  | .iface _ d => uptoBulk d + 1
  | .map entries => uptoBulkEntries entries + 1
  | .held _ => 1
def uptoBulkAll {H : Type} : List (DataW H) → Nat
  | [] => 0
  | d :: r => uptoBulk d + uptoBulkAll r
def uptoBulkEntries {H : Type} : List (Lit × DataW H) → Nat
  | [] => 0
  | x :: r => uptoBulkEntry x + uptoBulkEntries r
def uptoBulkEntry {H : Type} : Lit × DataW H → Nat
  | (.string bytes, d) => bytes.length + uptoBulk d + 1
  | (_, d) => uptoBulk d + 1
 end
def uptoSmall : (H : Type) → List (DataW H) → Bool := fun _ ds => decide (uptoBulkAll ds ≤ 1048576)
def OpenSpec.upto (s : _root_.Go.ChangeSpec) : _root_.Go.OpenSpec := { _root_.Go.OpenSpec.ofChange s with cond := some uptoSmall }

/-- 'laws.FnExactCausesBy', WHERE WHAT IT READS IS OF BULK AT MOST 1048576: true; the input reads as it did. -/
def fnExactCausesByUptoRow : OpenClaim := { program := "ytndkcgiadpdcjaa", sum := "f23909a04889f6812d36589be0dd2caa2a3137ba443c73d65fb84863ea4a291f", func := "loop.example/g01013/laws.FnExactCausesBy", spec := "fnExactCausesBy", unfollowed := true, recurses := true, apart := false, narrowed := true }
def FnExactCausesByUptoSaid : Prop := fnExactCausesByUptoRow.holds Try.pinned (OpenSpec.upto fnExactCausesBySpec)

/-- 'laws.FnExactPlacesOf', WHERE WHAT IT READS IS OF BULK AT MOST 1048576: true; the input reads as it did. -/
def fnExactPlacesOfUptoRow : OpenClaim := { program := "ytndkcgiadpdcjaa", sum := "f23909a04889f6812d36589be0dd2caa2a3137ba443c73d65fb84863ea4a291f", func := "loop.example/g01013/laws.FnExactPlacesOf", spec := "fnExactPlacesOf", unfollowed := true, recurses := true, apart := false, narrowed := true }
def FnExactPlacesOfUptoSaid : Prop := fnExactPlacesOfUptoRow.holds Try.pinned (OpenSpec.upto fnExactPlacesOfSpec)

/-- 'laws.FnCalm', WHERE WHAT IT READS IS OF BULK AT MOST 1048576: true; the input reads as it did. -/
def fnCalmUptoRow : OpenClaim := { program := "ytndkcgiadpdcjaa", sum := "f23909a04889f6812d36589be0dd2caa2a3137ba443c73d65fb84863ea4a291f", func := "loop.example/g01013/laws.FnCalm", spec := "fnCalm", unfollowed := true, recurses := true, apart := false, narrowed := true }
def FnCalmUptoSaid : Prop := fnCalmUptoRow.holds Try.pinned (OpenSpec.upto fnCalmSpec)

end Rows
end Go.Proofs.Ytndkcgiadpdcjaa

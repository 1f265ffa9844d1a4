/-
  DERIVED. GIVEN WITH THE SEED: THE CARDS: each row of YtfiiaegfikocoaaDoorRows.lean that lists a variable, with what it lists TIED to the program's text (the seventh form; the later family's looks); each row that meets fmt, with fmt's text TOLD by the authors' own Lean function (tested against real Go, not proved from fmt's source: count such statements apart). THE CARD IS WHAT COUNTS. Prove the row's statement (the work); the ties are given (YtfiiaegfikocoaaDoorTie.lean); close each card by the builder's one call (the guide's Derived/Test/ToyasCard.lean, 'card_holds'). Laid BY PROGRAM, IN A SANDBOX (cutbox-door.mjs). By AI agents, Wed Nov 11 2026. No macro, syntax, notation, axiom, sorry.
-/
import Derived.Test.YtfiiaegfikocoaaDoorRows
import GoSem.ClaimSeven
namespace Go.Proofs.YtfiiaegfikocoaaDoor
namespace Rows

/-- THE TIED CARD OF 'laws.FnExactReadArea'. -/
def fnExactReadAreaCard : Claim7 := { stood := { row := fnExactReadAreaRow, standIns := [], harness := (true, "990ea9dda2b88d039c957d8ef257d28536f889ed6751f7d84ee6d1720d3b737f"), looks := true }, kinds := [], alts := [], laidByText := true, laidKinds := [.data, .data, .data, .sentinel, .sentinel], laidTests := true, laidLooks := .later }
def FnExactReadAreaCardSaid : Prop := Claim7.holds Tryd.pinned (.plain (OpenSpec.ofChange fnExactReadAreaSpec)) fnExactReadAreaCard

/-- THE TIED CARD OF 'laws.FnGates'. -/
def fnGatesCard : Claim7 := { stood := { row := fnGatesRow, standIns := [], harness := (true, "990ea9dda2b88d039c957d8ef257d28536f889ed6751f7d84ee6d1720d3b737f"), looks := true }, kinds := [], alts := [], laidByText := true, laidKinds := [.data, .data, .data, .data, .sentinel, .sentinel, .pinned], laidTests := true, laidLooks := .later }
def FnGatesCardSaid : Prop := Claim7.holds Tryd.pinned (.plain (OpenSpec.ofChange fnGatesSpec)) fnGatesCard

/-- THE SECOND FORM's CARD OF 'laws.FnExactReadArea'. -/
def fnExactReadAreaUptoCard : Claim7 := { stood := { row := fnExactReadAreaUptoRow, standIns := [], harness := (true, "990ea9dda2b88d039c957d8ef257d28536f889ed6751f7d84ee6d1720d3b737f"), looks := true }, kinds := [], alts := [], laidByText := true, laidKinds := [.data, .data, .data, .sentinel, .sentinel], laidTests := true, laidLooks := .later }
def FnExactReadAreaUptoCardSaid : Prop := Claim7.holds Tryd.pinned (.plain (OpenSpec.upto fnExactReadAreaSpec)) fnExactReadAreaUptoCard

/-- THE SECOND FORM's CARD OF 'laws.FnGates'. -/
def fnGatesUptoCard : Claim7 := { stood := { row := fnGatesUptoRow, standIns := [], harness := (true, "990ea9dda2b88d039c957d8ef257d28536f889ed6751f7d84ee6d1720d3b737f"), looks := true }, kinds := [], alts := [], laidByText := true, laidKinds := [.data, .data, .data, .data, .sentinel, .sentinel, .pinned], laidTests := true, laidLooks := .later }
def FnGatesUptoCardSaid : Prop := Claim7.holds Tryd.pinned (.plain (OpenSpec.upto fnGatesSpec)) fnGatesUptoCard
end Rows
end Go.Proofs.YtfiiaegfikocoaaDoor

/-
  DERIVED. GIVEN WITH THE SEED: THE CARDS: each row of YtbcpgdidajapoaaDoorRows.lean that lists a variable, with what it lists TIED to the program's text (the seventh form; the later family's looks); each row that meets fmt, with fmt's text TOLD by the authors' own Lean function (tested against real Go, not proved from fmt's source: count such statements apart). THE CARD IS WHAT COUNTS. Prove the row's statement (the work); the ties are given (YtbcpgdidajapoaaDoorTie.lean); close each card by the builder's one call (the guide's Derived/Test/ToyasCard.lean, 'card_holds'). Laid BY PROGRAM, IN A SANDBOX (cutbox-door.mjs). By AI agents, Wed Nov 11 2026. No macro, syntax, notation, axiom, sorry.
-/
import Derived.Test.YtbcpgdidajapoaaDoorRows
import GoSem.ClaimSeven
namespace Go.Proofs.YtbcpgdidajapoaaDoor
namespace Rows

/-- THE TIED CARD OF 'laws.FnVersions'. -/
def fnVersionsCard : Claim7 := { stood := { row := fnVersionsRow, standIns := [], harness := (true, "fe46797d3f99452044829a248f61410f41973500dce5a11a9b3c78400f91c2cd"), looks := false }, kinds := [], alts := [], laidByText := true, laidKinds := [.data, .data, .data], laidTests := true, laidLooks := .later }
def FnVersionsCardSaid : Prop := Claim7.holds Tryd.pinned (.plain (OpenSpec.ofChange fnVersionsSpec)) fnVersionsCard

/-- THE SECOND FORM's CARD OF 'laws.FnVersions'. -/
def fnVersionsUptoCard : Claim7 := { stood := { row := fnVersionsUptoRow, standIns := [], harness := (true, "fe46797d3f99452044829a248f61410f41973500dce5a11a9b3c78400f91c2cd"), looks := false }, kinds := [], alts := [], laidByText := true, laidKinds := [.data, .data, .data], laidTests := true, laidLooks := .later }
def FnVersionsUptoCardSaid : Prop := Claim7.holds Tryd.pinned (.plain (OpenSpec.upto fnVersionsSpec)) fnVersionsUptoCard
end Rows
end Go.Proofs.YtbcpgdidajapoaaDoor

/-
  DERIVED. GIVEN WITH THE SEED: THE CARDS: each row of YtmkmmenkjbmppaaDoorRows.lean that lists a variable, with what it lists TIED to the program's text (the seventh form; the later family's looks); each row that meets fmt, with fmt's text TOLD by the authors' own Lean function (tested against real Go, not proved from fmt's source: count such statements apart). THE CARD IS WHAT COUNTS. Prove the row's statement (the work); the ties are given (YtmkmmenkjbmppaaDoorTie.lean); close each card by the builder's one call (the guide's Derived/Test/ToyasCard.lean, 'card_holds'). Laid BY PROGRAM, IN A SANDBOX (cutbox-door.mjs). By AI agents, Wed Nov 11 2026. No macro, syntax, notation, axiom, sorry.
-/
import Derived.Test.YtmkmmenkjbmppaaDoorRows
import GoSem.ClaimSeven
namespace Go.Proofs.YtmkmmenkjbmppaaDoor
namespace Rows

/-- THE TIED CARD OF 'laws.FnTurnPlans'. -/
def fnTurnPlansCard : Claim7 := { stood := { row := fnTurnPlansRow, standIns := [], harness := (true, "2a3313311cab723da151988bf2f32174923a991c4da453731dd0316450a361c0"), looks := false }, kinds := [], alts := [], laidByText := true, laidKinds := [.data, .data, .data], laidTests := true, laidLooks := .later }
def FnTurnPlansCardSaid : Prop := Claim7.holds Tryd.pinned (.plain (OpenSpec.ofChange fnTurnPlansSpec)) fnTurnPlansCard

/-- THE SECOND FORM's CARD OF 'laws.FnTurnPlans'. -/
def fnTurnPlansUptoCard : Claim7 := { stood := { row := fnTurnPlansUptoRow, standIns := [], harness := (true, "2a3313311cab723da151988bf2f32174923a991c4da453731dd0316450a361c0"), looks := false }, kinds := [], alts := [], laidByText := true, laidKinds := [.data, .data, .data], laidTests := true, laidLooks := .later }
def FnTurnPlansUptoCardSaid : Prop := Claim7.holds Tryd.pinned (.plain (OpenSpec.upto fnTurnPlansSpec)) fnTurnPlansUptoCard
end Rows
end Go.Proofs.YtmkmmenkjbmppaaDoor

/-
  DERIVED. GIVEN WITH THE SEED: THE CARDS: each row of YtanafhppifhfmaaDoorRows.lean that lists a variable, with what it lists TIED to the program's text (the seventh form; the later family's looks); each row that meets fmt, with fmt's text TOLD by the authors' own Lean function (tested against real Go, not proved from fmt's source: count such statements apart). THE CARD IS WHAT COUNTS. Prove the row's statement (the work); the ties are given (YtanafhppifhfmaaDoorTie.lean); close each card by the builder's one call (the guide's Derived/Test/ToyasCard.lean, 'card_holds'). Laid BY PROGRAM, IN A SANDBOX (cutbox-door.mjs). By AI agents, Wed Nov 11 2026. No macro, syntax, notation, axiom, sorry.
-/
import Derived.Test.YtanafhppifhfmaaDoorRows
import GoSem.ClaimSeven
namespace Go.Proofs.YtanafhppifhfmaaDoor
namespace Rows

/-- THE TIED CARD OF 'laws.FnExactReadArea'. -/
def fnExactReadAreaCard : Claim7 := { stood := { row := fnExactReadAreaRow, standIns := [], harness := (true, "a1e8fa670a4e050d11d579e375611f030ca39c6779b59d4ee8c9d439e93453de"), looks := true }, kinds := [], alts := [], laidByText := true, laidKinds := [.data, .data, .data, .sentinel, .sentinel], laidTests := true, laidLooks := .later }
def FnExactReadAreaCardSaid : Prop := Claim7.holds Tryd.pinned (.plain (OpenSpec.ofChange fnExactReadAreaSpec)) fnExactReadAreaCard

/-- THE TIED CARD OF 'laws.FnExactReadPart'. -/
def fnExactReadPartCard : Claim7 := { stood := { row := fnExactReadPartRow, standIns := [], harness := (true, "a1e8fa670a4e050d11d579e375611f030ca39c6779b59d4ee8c9d439e93453de"), looks := true }, kinds := [], alts := [], laidByText := true, laidKinds := [.data, .data, .data, .data, .sentinel, .sentinel, .pinned], laidTests := true, laidLooks := .later }
def FnExactReadPartCardSaid : Prop := Claim7.holds Tryd.pinned (.plain (OpenSpec.ofChange fnExactReadPartSpec)) fnExactReadPartCard

/-- THE TIED CARD OF 'laws.FnExactReadObserved'. -/
def fnExactReadObservedCard : Claim7 := { stood := { row := fnExactReadObservedRow, standIns := [], harness := (true, "a1e8fa670a4e050d11d579e375611f030ca39c6779b59d4ee8c9d439e93453de"), looks := true }, kinds := [], alts := [], laidByText := true, laidKinds := [.data, .data, .data, .data, .sentinel, .sentinel, .pinned], laidTests := true, laidLooks := .later }
def FnExactReadObservedCardSaid : Prop := Claim7.holds Tryd.pinned (.plain (OpenSpec.ofChange fnExactReadObservedSpec)) fnExactReadObservedCard

/-- THE TIED CARD OF 'laws.FnExactReadWatch'. -/
def fnExactReadWatchCard : Claim7 := { stood := { row := fnExactReadWatchRow, standIns := [], harness := (true, "a1e8fa670a4e050d11d579e375611f030ca39c6779b59d4ee8c9d439e93453de"), looks := true }, kinds := [], alts := [], laidByText := true, laidKinds := [.data, .data, .data, .data, .sentinel, .sentinel, .pinned], laidTests := true, laidLooks := .later }
def FnExactReadWatchCardSaid : Prop := Claim7.holds Tryd.pinned (.plain (OpenSpec.ofChange fnExactReadWatchSpec)) fnExactReadWatchCard

/-- THE TIED CARD OF 'laws.FnExactReadShot'. -/
def fnExactReadShotCard : Claim7 := { stood := { row := fnExactReadShotRow, standIns := [], harness := (true, "a1e8fa670a4e050d11d579e375611f030ca39c6779b59d4ee8c9d439e93453de"), looks := true }, kinds := [], alts := [], laidByText := true, laidKinds := [.data, .data, .data, .data, .sentinel, .sentinel, .pinned], laidTests := true, laidLooks := .later }
def FnExactReadShotCardSaid : Prop := Claim7.holds Tryd.pinned (.plain (OpenSpec.ofChange fnExactReadShotSpec)) fnExactReadShotCard

/-- THE TIED CARD OF 'laws.FnExactReadStand'. -/
def fnExactReadStandCard : Claim7 := { stood := { row := fnExactReadStandRow, standIns := [], harness := (true, "a1e8fa670a4e050d11d579e375611f030ca39c6779b59d4ee8c9d439e93453de"), looks := true }, kinds := [], alts := [], laidByText := true, laidKinds := [.data, .data, .data, .data, .sentinel, .sentinel, .pinned], laidTests := true, laidLooks := .later }
def FnExactReadStandCardSaid : Prop := Claim7.holds Tryd.pinned (.plain (OpenSpec.ofChange fnExactReadStandSpec)) fnExactReadStandCard

/-- THE TIED CARD OF 'laws.FnExactReadGate'. -/
def fnExactReadGateCard : Claim7 := { stood := { row := fnExactReadGateRow, standIns := [], harness := (true, "a1e8fa670a4e050d11d579e375611f030ca39c6779b59d4ee8c9d439e93453de"), looks := true }, kinds := [], alts := [], laidByText := true, laidKinds := [.data, .data, .data, .data, .sentinel, .sentinel, .pinned], laidTests := true, laidLooks := .later }
def FnExactReadGateCardSaid : Prop := Claim7.holds Tryd.pinned (.plain (OpenSpec.ofChange fnExactReadGateSpec)) fnExactReadGateCard

/-- THE TIED CARD OF 'laws.FnExactReadGroup'. -/
def fnExactReadGroupCard : Claim7 := { stood := { row := fnExactReadGroupRow, standIns := [], harness := (true, "a1e8fa670a4e050d11d579e375611f030ca39c6779b59d4ee8c9d439e93453de"), looks := true }, kinds := [], alts := [], laidByText := true, laidKinds := [.data, .data, .data, .data, .sentinel, .sentinel, .pinned], laidTests := true, laidLooks := .later }
def FnExactReadGroupCardSaid : Prop := Claim7.holds Tryd.pinned (.plain (OpenSpec.ofChange fnExactReadGroupSpec)) fnExactReadGroupCard

/-- THE TIED CARD OF 'laws.FnExactReadTest'. -/
def fnExactReadTestCard : Claim7 := { stood := { row := fnExactReadTestRow, standIns := [], harness := (true, "a1e8fa670a4e050d11d579e375611f030ca39c6779b59d4ee8c9d439e93453de"), looks := true }, kinds := [], alts := [], laidByText := true, laidKinds := [.data, .data, .data, .data, .sentinel, .sentinel, .pinned], laidTests := true, laidLooks := .later }
def FnExactReadTestCardSaid : Prop := Claim7.holds Tryd.pinned (.plain (OpenSpec.ofChange fnExactReadTestSpec)) fnExactReadTestCard

/-- THE TIED CARD OF 'laws.FnGates'. -/
def fnGatesCard : Claim7 := { stood := { row := fnGatesRow, standIns := [], harness := (true, "a1e8fa670a4e050d11d579e375611f030ca39c6779b59d4ee8c9d439e93453de"), looks := true }, kinds := [], alts := [], laidByText := true, laidKinds := [.data, .data, .data, .data, .sentinel, .sentinel, .pinned], laidTests := true, laidLooks := .later }
def FnGatesCardSaid : Prop := Claim7.holds Tryd.pinned (.plain (OpenSpec.ofChange fnGatesSpec)) fnGatesCard

/-- THE SECOND FORM's CARD OF 'laws.FnExactReadArea'. -/
def fnExactReadAreaUptoCard : Claim7 := { stood := { row := fnExactReadAreaUptoRow, standIns := [], harness := (true, "a1e8fa670a4e050d11d579e375611f030ca39c6779b59d4ee8c9d439e93453de"), looks := true }, kinds := [], alts := [], laidByText := true, laidKinds := [.data, .data, .data, .sentinel, .sentinel], laidTests := true, laidLooks := .later }
def FnExactReadAreaUptoCardSaid : Prop := Claim7.holds Tryd.pinned (.plain (OpenSpec.upto fnExactReadAreaSpec)) fnExactReadAreaUptoCard

/-- THE SECOND FORM's CARD OF 'laws.FnExactReadPart'. -/
def fnExactReadPartUptoCard : Claim7 := { stood := { row := fnExactReadPartUptoRow, standIns := [], harness := (true, "a1e8fa670a4e050d11d579e375611f030ca39c6779b59d4ee8c9d439e93453de"), looks := true }, kinds := [], alts := [], laidByText := true, laidKinds := [.data, .data, .data, .data, .sentinel, .sentinel, .pinned], laidTests := true, laidLooks := .later }
def FnExactReadPartUptoCardSaid : Prop := Claim7.holds Tryd.pinned (.plain (OpenSpec.upto fnExactReadPartSpec)) fnExactReadPartUptoCard

/-- THE SECOND FORM's CARD OF 'laws.FnExactReadObserved'. -/
def fnExactReadObservedUptoCard : Claim7 := { stood := { row := fnExactReadObservedUptoRow, standIns := [], harness := (true, "a1e8fa670a4e050d11d579e375611f030ca39c6779b59d4ee8c9d439e93453de"), looks := true }, kinds := [], alts := [], laidByText := true, laidKinds := [.data, .data, .data, .data, .sentinel, .sentinel, .pinned], laidTests := true, laidLooks := .later }
def FnExactReadObservedUptoCardSaid : Prop := Claim7.holds Tryd.pinned (.plain (OpenSpec.upto fnExactReadObservedSpec)) fnExactReadObservedUptoCard

/-- THE SECOND FORM's CARD OF 'laws.FnExactReadWatch'. -/
def fnExactReadWatchUptoCard : Claim7 := { stood := { row := fnExactReadWatchUptoRow, standIns := [], harness := (true, "a1e8fa670a4e050d11d579e375611f030ca39c6779b59d4ee8c9d439e93453de"), looks := true }, kinds := [], alts := [], laidByText := true, laidKinds := [.data, .data, .data, .data, .sentinel, .sentinel, .pinned], laidTests := true, laidLooks := .later }
def FnExactReadWatchUptoCardSaid : Prop := Claim7.holds Tryd.pinned (.plain (OpenSpec.upto fnExactReadWatchSpec)) fnExactReadWatchUptoCard

/-- THE SECOND FORM's CARD OF 'laws.FnExactReadShot'. -/
def fnExactReadShotUptoCard : Claim7 := { stood := { row := fnExactReadShotUptoRow, standIns := [], harness := (true, "a1e8fa670a4e050d11d579e375611f030ca39c6779b59d4ee8c9d439e93453de"), looks := true }, kinds := [], alts := [], laidByText := true, laidKinds := [.data, .data, .data, .data, .sentinel, .sentinel, .pinned], laidTests := true, laidLooks := .later }
def FnExactReadShotUptoCardSaid : Prop := Claim7.holds Tryd.pinned (.plain (OpenSpec.upto fnExactReadShotSpec)) fnExactReadShotUptoCard

/-- THE SECOND FORM's CARD OF 'laws.FnExactReadStand'. -/
def fnExactReadStandUptoCard : Claim7 := { stood := { row := fnExactReadStandUptoRow, standIns := [], harness := (true, "a1e8fa670a4e050d11d579e375611f030ca39c6779b59d4ee8c9d439e93453de"), looks := true }, kinds := [], alts := [], laidByText := true, laidKinds := [.data, .data, .data, .data, .sentinel, .sentinel, .pinned], laidTests := true, laidLooks := .later }
def FnExactReadStandUptoCardSaid : Prop := Claim7.holds Tryd.pinned (.plain (OpenSpec.upto fnExactReadStandSpec)) fnExactReadStandUptoCard

/-- THE SECOND FORM's CARD OF 'laws.FnExactReadGate'. -/
def fnExactReadGateUptoCard : Claim7 := { stood := { row := fnExactReadGateUptoRow, standIns := [], harness := (true, "a1e8fa670a4e050d11d579e375611f030ca39c6779b59d4ee8c9d439e93453de"), looks := true }, kinds := [], alts := [], laidByText := true, laidKinds := [.data, .data, .data, .data, .sentinel, .sentinel, .pinned], laidTests := true, laidLooks := .later }
def FnExactReadGateUptoCardSaid : Prop := Claim7.holds Tryd.pinned (.plain (OpenSpec.upto fnExactReadGateSpec)) fnExactReadGateUptoCard

/-- THE SECOND FORM's CARD OF 'laws.FnExactReadGroup'. -/
def fnExactReadGroupUptoCard : Claim7 := { stood := { row := fnExactReadGroupUptoRow, standIns := [], harness := (true, "a1e8fa670a4e050d11d579e375611f030ca39c6779b59d4ee8c9d439e93453de"), looks := true }, kinds := [], alts := [], laidByText := true, laidKinds := [.data, .data, .data, .data, .sentinel, .sentinel, .pinned], laidTests := true, laidLooks := .later }
def FnExactReadGroupUptoCardSaid : Prop := Claim7.holds Tryd.pinned (.plain (OpenSpec.upto fnExactReadGroupSpec)) fnExactReadGroupUptoCard

/-- THE SECOND FORM's CARD OF 'laws.FnExactReadTest'. -/
def fnExactReadTestUptoCard : Claim7 := { stood := { row := fnExactReadTestUptoRow, standIns := [], harness := (true, "a1e8fa670a4e050d11d579e375611f030ca39c6779b59d4ee8c9d439e93453de"), looks := true }, kinds := [], alts := [], laidByText := true, laidKinds := [.data, .data, .data, .data, .sentinel, .sentinel, .pinned], laidTests := true, laidLooks := .later }
def FnExactReadTestUptoCardSaid : Prop := Claim7.holds Tryd.pinned (.plain (OpenSpec.upto fnExactReadTestSpec)) fnExactReadTestUptoCard

/-- THE SECOND FORM's CARD OF 'laws.FnGates'. -/
def fnGatesUptoCard : Claim7 := { stood := { row := fnGatesUptoRow, standIns := [], harness := (true, "a1e8fa670a4e050d11d579e375611f030ca39c6779b59d4ee8c9d439e93453de"), looks := true }, kinds := [], alts := [], laidByText := true, laidKinds := [.data, .data, .data, .data, .sentinel, .sentinel, .pinned], laidTests := true, laidLooks := .later }
def FnGatesUptoCardSaid : Prop := Claim7.holds Tryd.pinned (.plain (OpenSpec.upto fnGatesSpec)) fnGatesUptoCard
end Rows
end Go.Proofs.YtanafhppifhfmaaDoor

/-
  DERIVED. GIVEN WITH THE SEED: THE CARDS: each row of YtpjojmkbccdofaaDoorRows.lean that lists a variable, with what it lists TIED to the program's text (the seventh form; the later family's looks); each row that meets fmt, with fmt's text TOLD by the authors' own Lean function (tested against real Go, not proved from fmt's source: count such statements apart). THE CARD IS WHAT COUNTS. Prove the row's statement (the work); the ties are given (YtpjojmkbccdofaaDoorTie.lean); close each card by the builder's one call (the guide's Derived/Test/ToyasCard.lean, 'card_holds'). Laid BY PROGRAM, IN A SANDBOX (cutbox-door.mjs). By AI agents, Wed Nov 11 2026. No macro, syntax, notation, axiom, sorry.
-/
import Derived.Test.YtpjojmkbccdofaaDoorRows
import GoSem.ClaimSeven
namespace Go.Proofs.YtpjojmkbccdofaaDoor
namespace Rows

/-- THE TIED CARD OF 'laws.FnExactPartText'. -/
def fnExactPartTextCard : Claim7 := { stood := { row := fnExactPartTextRow, standIns := [], harness := (true, "b3fbe230df835e373646d0985bd9ceb31e2296e053c57d41af157416fef45c3b"), looks := false }, kinds := [], alts := [], laidByText := true, laidKinds := [.data, .data, .data], laidTests := true, laidLooks := .later }
def FnExactPartTextCardSaid : Prop := Claim7.holds Tryd.pinned (.plain (OpenSpec.ofChange fnExactPartTextSpec)) fnExactPartTextCard

/-- THE TIED CARD OF 'laws.FnExactObservedText'. -/
def fnExactObservedTextCard : Claim7 := { stood := { row := fnExactObservedTextRow, standIns := [], harness := (true, "b3fbe230df835e373646d0985bd9ceb31e2296e053c57d41af157416fef45c3b"), looks := false }, kinds := [], alts := [], laidByText := true, laidKinds := [.data, .data, .data], laidTests := true, laidLooks := .later }
def FnExactObservedTextCardSaid : Prop := Claim7.holds Tryd.pinned (.plain (OpenSpec.ofChange fnExactObservedTextSpec)) fnExactObservedTextCard

/-- THE TIED CARD OF 'laws.FnExactShotText'. -/
def fnExactShotTextCard : Claim7 := { stood := { row := fnExactShotTextRow, standIns := [], harness := (true, "b3fbe230df835e373646d0985bd9ceb31e2296e053c57d41af157416fef45c3b"), looks := false }, kinds := [], alts := [], laidByText := true, laidKinds := [.data, .data, .data], laidTests := true, laidLooks := .later }
def FnExactShotTextCardSaid : Prop := Claim7.holds Tryd.pinned (.plain (OpenSpec.ofChange fnExactShotTextSpec)) fnExactShotTextCard

/-- THE TIED CARD OF 'laws.FnExactStandText'. -/
def fnExactStandTextCard : Claim7 := { stood := { row := fnExactStandTextRow, standIns := [], harness := (true, "b3fbe230df835e373646d0985bd9ceb31e2296e053c57d41af157416fef45c3b"), looks := false }, kinds := [], alts := [], laidByText := true, laidKinds := [.data, .data, .data], laidTests := true, laidLooks := .later }
def FnExactStandTextCardSaid : Prop := Claim7.holds Tryd.pinned (.plain (OpenSpec.ofChange fnExactStandTextSpec)) fnExactStandTextCard

/-- THE TIED CARD OF 'laws.FnExactWatchText'. -/
def fnExactWatchTextCard : Claim7 := { stood := { row := fnExactWatchTextRow, standIns := [], harness := (true, "b3fbe230df835e373646d0985bd9ceb31e2296e053c57d41af157416fef45c3b"), looks := false }, kinds := [], alts := [], laidByText := true, laidKinds := [.data, .data, .data], laidTests := true, laidLooks := .later }
def FnExactWatchTextCardSaid : Prop := Claim7.holds Tryd.pinned (.plain (OpenSpec.ofChange fnExactWatchTextSpec)) fnExactWatchTextCard

/-- THE TIED CARD OF 'laws.FnExactTestText'. -/
def fnExactTestTextCard : Claim7 := { stood := { row := fnExactTestTextRow, standIns := [], harness := (true, "b3fbe230df835e373646d0985bd9ceb31e2296e053c57d41af157416fef45c3b"), looks := false }, kinds := [], alts := [], laidByText := true, laidKinds := [.data, .data, .data], laidTests := true, laidLooks := .later }
def FnExactTestTextCardSaid : Prop := Claim7.holds Tryd.pinned (.plain (OpenSpec.ofChange fnExactTestTextSpec)) fnExactTestTextCard

/-- THE TIED CARD OF 'laws.FnExactGateText'. -/
def fnExactGateTextCard : Claim7 := { stood := { row := fnExactGateTextRow, standIns := [], harness := (true, "b3fbe230df835e373646d0985bd9ceb31e2296e053c57d41af157416fef45c3b"), looks := false }, kinds := [], alts := [], laidByText := true, laidKinds := [.data, .data, .data], laidTests := true, laidLooks := .later }
def FnExactGateTextCardSaid : Prop := Claim7.holds Tryd.pinned (.plain (OpenSpec.ofChange fnExactGateTextSpec)) fnExactGateTextCard

/-- THE TIED CARD OF 'laws.FnExactGroupText'. -/
def fnExactGroupTextCard : Claim7 := { stood := { row := fnExactGroupTextRow, standIns := [], harness := (true, "b3fbe230df835e373646d0985bd9ceb31e2296e053c57d41af157416fef45c3b"), looks := false }, kinds := [], alts := [], laidByText := true, laidKinds := [.data, .data, .data], laidTests := true, laidLooks := .later }
def FnExactGroupTextCardSaid : Prop := Claim7.holds Tryd.pinned (.plain (OpenSpec.ofChange fnExactGroupTextSpec)) fnExactGroupTextCard

/-- THE TIED CARD OF 'laws.FnExactVersionText'. -/
def fnExactVersionTextCard : Claim7 := { stood := { row := fnExactVersionTextRow, standIns := [], harness := (true, "b3fbe230df835e373646d0985bd9ceb31e2296e053c57d41af157416fef45c3b"), looks := false }, kinds := [], alts := [], laidByText := true, laidKinds := [.data, .data, .data], laidTests := true, laidLooks := .later }
def FnExactVersionTextCardSaid : Prop := Claim7.holds Tryd.pinned (.plain (OpenSpec.ofChange fnExactVersionTextSpec)) fnExactVersionTextCard

/-- THE TIED CARD OF 'laws.FnExactVerifiedText'. -/
def fnExactVerifiedTextCard : Claim7 := { stood := { row := fnExactVerifiedTextRow, standIns := [], harness := (true, "b3fbe230df835e373646d0985bd9ceb31e2296e053c57d41af157416fef45c3b"), looks := false }, kinds := [], alts := [], laidByText := true, laidKinds := [.data, .data, .data], laidTests := true, laidLooks := .later }
def FnExactVerifiedTextCardSaid : Prop := Claim7.holds Tryd.pinned (.plain (OpenSpec.ofChange fnExactVerifiedTextSpec)) fnExactVerifiedTextCard

/-- THE TIED CARD OF 'laws.FnExactIncidentText'. -/
def fnExactIncidentTextCard : Claim7 := { stood := { row := fnExactIncidentTextRow, standIns := [], harness := (true, "b3fbe230df835e373646d0985bd9ceb31e2296e053c57d41af157416fef45c3b"), looks := false }, kinds := [], alts := [], laidByText := true, laidKinds := [.data, .data, .data], laidTests := true, laidLooks := .later }
def FnExactIncidentTextCardSaid : Prop := Claim7.holds Tryd.pinned (.plain (OpenSpec.ofChange fnExactIncidentTextSpec)) fnExactIncidentTextCard

/-- THE SECOND FORM's CARD OF 'laws.FnExactPartText'. -/
def fnExactPartTextUptoCard : Claim7 := { stood := { row := fnExactPartTextUptoRow, standIns := [], harness := (true, "b3fbe230df835e373646d0985bd9ceb31e2296e053c57d41af157416fef45c3b"), looks := false }, kinds := [], alts := [], laidByText := true, laidKinds := [.data, .data, .data], laidTests := true, laidLooks := .later }
def FnExactPartTextUptoCardSaid : Prop := Claim7.holds Tryd.pinned (.plain (OpenSpec.upto fnExactPartTextSpec)) fnExactPartTextUptoCard

/-- THE SECOND FORM's CARD OF 'laws.FnExactObservedText'. -/
def fnExactObservedTextUptoCard : Claim7 := { stood := { row := fnExactObservedTextUptoRow, standIns := [], harness := (true, "b3fbe230df835e373646d0985bd9ceb31e2296e053c57d41af157416fef45c3b"), looks := false }, kinds := [], alts := [], laidByText := true, laidKinds := [.data, .data, .data], laidTests := true, laidLooks := .later }
def FnExactObservedTextUptoCardSaid : Prop := Claim7.holds Tryd.pinned (.plain (OpenSpec.upto fnExactObservedTextSpec)) fnExactObservedTextUptoCard

/-- THE SECOND FORM's CARD OF 'laws.FnExactShotText'. -/
def fnExactShotTextUptoCard : Claim7 := { stood := { row := fnExactShotTextUptoRow, standIns := [], harness := (true, "b3fbe230df835e373646d0985bd9ceb31e2296e053c57d41af157416fef45c3b"), looks := false }, kinds := [], alts := [], laidByText := true, laidKinds := [.data, .data, .data], laidTests := true, laidLooks := .later }
def FnExactShotTextUptoCardSaid : Prop := Claim7.holds Tryd.pinned (.plain (OpenSpec.upto fnExactShotTextSpec)) fnExactShotTextUptoCard

/-- THE SECOND FORM's CARD OF 'laws.FnExactStandText'. -/
def fnExactStandTextUptoCard : Claim7 := { stood := { row := fnExactStandTextUptoRow, standIns := [], harness := (true, "b3fbe230df835e373646d0985bd9ceb31e2296e053c57d41af157416fef45c3b"), looks := false }, kinds := [], alts := [], laidByText := true, laidKinds := [.data, .data, .data], laidTests := true, laidLooks := .later }
def FnExactStandTextUptoCardSaid : Prop := Claim7.holds Tryd.pinned (.plain (OpenSpec.upto fnExactStandTextSpec)) fnExactStandTextUptoCard

/-- THE SECOND FORM's CARD OF 'laws.FnExactWatchText'. -/
def fnExactWatchTextUptoCard : Claim7 := { stood := { row := fnExactWatchTextUptoRow, standIns := [], harness := (true, "b3fbe230df835e373646d0985bd9ceb31e2296e053c57d41af157416fef45c3b"), looks := false }, kinds := [], alts := [], laidByText := true, laidKinds := [.data, .data, .data], laidTests := true, laidLooks := .later }
def FnExactWatchTextUptoCardSaid : Prop := Claim7.holds Tryd.pinned (.plain (OpenSpec.upto fnExactWatchTextSpec)) fnExactWatchTextUptoCard

/-- THE SECOND FORM's CARD OF 'laws.FnExactTestText'. -/
def fnExactTestTextUptoCard : Claim7 := { stood := { row := fnExactTestTextUptoRow, standIns := [], harness := (true, "b3fbe230df835e373646d0985bd9ceb31e2296e053c57d41af157416fef45c3b"), looks := false }, kinds := [], alts := [], laidByText := true, laidKinds := [.data, .data, .data], laidTests := true, laidLooks := .later }
def FnExactTestTextUptoCardSaid : Prop := Claim7.holds Tryd.pinned (.plain (OpenSpec.upto fnExactTestTextSpec)) fnExactTestTextUptoCard

/-- THE SECOND FORM's CARD OF 'laws.FnExactGateText'. -/
def fnExactGateTextUptoCard : Claim7 := { stood := { row := fnExactGateTextUptoRow, standIns := [], harness := (true, "b3fbe230df835e373646d0985bd9ceb31e2296e053c57d41af157416fef45c3b"), looks := false }, kinds := [], alts := [], laidByText := true, laidKinds := [.data, .data, .data], laidTests := true, laidLooks := .later }
def FnExactGateTextUptoCardSaid : Prop := Claim7.holds Tryd.pinned (.plain (OpenSpec.upto fnExactGateTextSpec)) fnExactGateTextUptoCard

/-- THE SECOND FORM's CARD OF 'laws.FnExactGroupText'. -/
def fnExactGroupTextUptoCard : Claim7 := { stood := { row := fnExactGroupTextUptoRow, standIns := [], harness := (true, "b3fbe230df835e373646d0985bd9ceb31e2296e053c57d41af157416fef45c3b"), looks := false }, kinds := [], alts := [], laidByText := true, laidKinds := [.data, .data, .data], laidTests := true, laidLooks := .later }
def FnExactGroupTextUptoCardSaid : Prop := Claim7.holds Tryd.pinned (.plain (OpenSpec.upto fnExactGroupTextSpec)) fnExactGroupTextUptoCard

/-- THE SECOND FORM's CARD OF 'laws.FnExactVersionText'. -/
def fnExactVersionTextUptoCard : Claim7 := { stood := { row := fnExactVersionTextUptoRow, standIns := [], harness := (true, "b3fbe230df835e373646d0985bd9ceb31e2296e053c57d41af157416fef45c3b"), looks := false }, kinds := [], alts := [], laidByText := true, laidKinds := [.data, .data, .data], laidTests := true, laidLooks := .later }
def FnExactVersionTextUptoCardSaid : Prop := Claim7.holds Tryd.pinned (.plain (OpenSpec.upto fnExactVersionTextSpec)) fnExactVersionTextUptoCard

/-- THE SECOND FORM's CARD OF 'laws.FnExactVerifiedText'. -/
def fnExactVerifiedTextUptoCard : Claim7 := { stood := { row := fnExactVerifiedTextUptoRow, standIns := [], harness := (true, "b3fbe230df835e373646d0985bd9ceb31e2296e053c57d41af157416fef45c3b"), looks := false }, kinds := [], alts := [], laidByText := true, laidKinds := [.data, .data, .data], laidTests := true, laidLooks := .later }
def FnExactVerifiedTextUptoCardSaid : Prop := Claim7.holds Tryd.pinned (.plain (OpenSpec.upto fnExactVerifiedTextSpec)) fnExactVerifiedTextUptoCard

/-- THE SECOND FORM's CARD OF 'laws.FnExactIncidentText'. -/
def fnExactIncidentTextUptoCard : Claim7 := { stood := { row := fnExactIncidentTextUptoRow, standIns := [], harness := (true, "b3fbe230df835e373646d0985bd9ceb31e2296e053c57d41af157416fef45c3b"), looks := false }, kinds := [], alts := [], laidByText := true, laidKinds := [.data, .data, .data], laidTests := true, laidLooks := .later }
def FnExactIncidentTextUptoCardSaid : Prop := Claim7.holds Tryd.pinned (.plain (OpenSpec.upto fnExactIncidentTextSpec)) fnExactIncidentTextUptoCard
end Rows
end Go.Proofs.YtpjojmkbccdofaaDoor

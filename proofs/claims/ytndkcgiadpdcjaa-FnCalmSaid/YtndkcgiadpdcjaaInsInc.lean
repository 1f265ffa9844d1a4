/- slices.Insert at incidents. -/
import Derived.Test.YtndkcgiadpdcjaaIns
import Derived.Test.YtndkcgiadpdcjaaIncident
namespace Go.Proofs.Ytndkcgiadpdcjaa
open Go.RowKit
theorem elIncident : El Try.prog 28 44 6 64 := El.mk' Try.underlying28 (by kernel_rfl) (by decide)
theorem oneIncident : ∀ (x : Incident) (j : Nat), j < 6 → (Incident.cell x j).oneCell' = true := fun x j hj => by rcases (show j = 0 ∨ j = 1 ∨ j = 2 ∨ j = 3 ∨ j = 4 ∨ j = 5 by omega) with rfl | rfl | rfl | rfl | rfl | rfl <;> rfl
end Go.Proofs.Ytndkcgiadpdcjaa

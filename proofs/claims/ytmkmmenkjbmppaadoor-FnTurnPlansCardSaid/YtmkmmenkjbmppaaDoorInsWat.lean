/- slices.Insert at watches. -/
import Derived.Test.YtmkmmenkjbmppaaDoorLst
import Derived.Test.YtmkmmenkjbmppaaDoorWatch
namespace Go.Proofs.YtmkmmenkjbmppaaDoor
open Go.RowKit
theorem elWatch : El Tryd.prog 35 65 4 40 := El.mk' Tryd.underlying35 (by kernel_rfl) (by decide)
theorem oneWatch : ∀ (x : Watch) (j : Nat), j < 4 → (Watch.cell x j).oneCell' = true := fun x j hj => by rcases (show j = 0 ∨ j = 1 ∨ j = 2 ∨ j = 3 by omega) with rfl | rfl | rfl | rfl <;> rfl
end Go.Proofs.YtmkmmenkjbmppaaDoor

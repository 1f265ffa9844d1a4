/- A list of numbers that a call builds: its cells. No conditions. -/
import Derived.Test.YtndkcgiadpdcjaaRows
import Derived.Test.YtndkcgiadpdcjaaLst
namespace Go.Proofs.Ytndkcgiadpdcjaa
open Go.RowKit
theorem elI : El Try.prog 25 2 1 8 := El.mk' Try.underlying25 (by kernel_rfl) (by decide)
def celI : Int → Nat → Value := fun x _ => .int .i64 x
theorem oneI : ∀ (x : Int) (j : Nat), j < 1 → (celI x j).oneCell' = true := fun _ _ _ => rfl
end Go.Proofs.Ytndkcgiadpdcjaa

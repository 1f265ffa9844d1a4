/- A list of numbers that a call builds: its cells. No conditions. -/
import Derived.Test.YtbfgaimlkoeklaaDoorRows
import Derived.Test.YtbfgaimlkoeklaaDoorLst
namespace Go.Proofs.YtbfgaimlkoeklaaDoor
open Go.RowKit
theorem elI : El Tryd.prog 45 2 1 8 := El.mk' Tryd.underlying45 (by kernel_rfl) (by decide)
def celI : Int → Nat → Value := fun x _ => .int .i64 x
theorem oneI : ∀ (x : Int) (j : Nat), j < 1 → (celI x j).oneCell' = true := fun _ _ _ => rfl
end Go.Proofs.YtbfgaimlkoeklaaDoor

/- A list of numbers that a call builds: its cells. No conditions. -/
import Derived.Test.YtdopffhekinbnaaRows
import Derived.Test.YtdopffhekinbnaaLst
namespace Go.Proofs.Ytdopffhekinbnaa
open Go.RowKit
theorem elI : El Try.prog 38 2 1 8 := El.mk' Try.underlying38 (by kernel_rfl) (by decide)
def celI : Int → Nat → Value := fun x _ => .int .i64 x
theorem oneI : ∀ (x : Int) (j : Nat), j < 1 → (celI x j).oneCell' = true := fun _ _ _ => rfl
end Go.Proofs.Ytdopffhekinbnaa

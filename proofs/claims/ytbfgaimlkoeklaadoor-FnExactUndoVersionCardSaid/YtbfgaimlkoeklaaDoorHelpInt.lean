/- The law's own helpers on lists of numbers. -/
import Derived.Test.YtbfgaimlkoeklaaDoorBasics
namespace Go.Proofs.YtbfgaimlkoeklaaDoor
open Go.RowKit
end Go.Proofs.YtbfgaimlkoeklaaDoor

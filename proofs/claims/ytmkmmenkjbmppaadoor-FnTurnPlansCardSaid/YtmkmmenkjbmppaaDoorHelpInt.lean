/- The law's own helpers on lists of numbers. -/
import Derived.Test.YtmkmmenkjbmppaaDoorBasics
namespace Go.Proofs.YtmkmmenkjbmppaaDoor
open Go.RowKit
end Go.Proofs.YtmkmmenkjbmppaaDoor

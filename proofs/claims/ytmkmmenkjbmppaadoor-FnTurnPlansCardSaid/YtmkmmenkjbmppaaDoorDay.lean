/- Days and levels: their bounds. -/
import Derived.Test.YtmkmmenkjbmppaaDoorBasics
namespace Go.Proofs.YtmkmmenkjbmppaaDoor
open Go.RowKit
end Go.Proofs.YtmkmmenkjbmppaaDoor

/- The law's own helpers on lists of numbers. -/
import Derived.Test.YtpmbaemfpkcjnaaBasics
namespace Go.Proofs.Ytpmbaemfpkcjnaa
open Go.RowKit
end Go.Proofs.Ytpmbaemfpkcjnaa

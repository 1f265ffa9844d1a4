/- The law's own helpers on lists of numbers. -/
import Derived.Test.YtbcpgdidajapoaaBasics
namespace Go.Proofs.Ytbcpgdidajapoaa
open Go.RowKit
end Go.Proofs.Ytbcpgdidajapoaa

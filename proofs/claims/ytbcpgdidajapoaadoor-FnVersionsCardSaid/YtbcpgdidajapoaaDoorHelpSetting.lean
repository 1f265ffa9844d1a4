/- The law's own helpers on the type Setting, and how one reads. -/
import Derived.Test.YtbcpgdidajapoaaDoorSetting
import Derived.Test.YtbcpgdidajapoaaDoorMark
import Derived.Test.YtbcpgdidajapoaaDoorLift
namespace Go.Proofs.YtbcpgdidajapoaaDoor
open Go.RowKit
open Go.ChangeShapes Go.WideShapes Go.ChangeAt
open Go.ChangeMaps (open_string shut_string)
end Go.Proofs.YtbcpgdidajapoaaDoor

/- The law's own helpers on the type Version, and how one reads. -/
import Derived.Test.YtbcpgdidajapoaaDoorVersion
import Derived.Test.YtbcpgdidajapoaaDoorHelpSetting
namespace Go.Proofs.YtbcpgdidajapoaaDoor
open Go.RowKit
open Go.ChangeShapes Go.WideShapes Go.ChangeAt
open Go.ChangeMaps (open_string shut_string)
end Go.Proofs.YtbcpgdidajapoaaDoor

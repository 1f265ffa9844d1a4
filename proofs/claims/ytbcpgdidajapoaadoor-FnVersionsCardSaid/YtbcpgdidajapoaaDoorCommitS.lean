/- CommitState: what the program and the reference hand back. -/
import Derived.Test.YtbcpgdidajapoaaDoorOwnV
namespace Go.Proofs.YtbcpgdidajapoaaDoor
open Go.RowKit
end Go.Proofs.YtbcpgdidajapoaaDoor

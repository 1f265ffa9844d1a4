/- The law's own helpers on parts, and how a part reads. -/
import Derived.Test.YtanafhppifhfmaaDoorPart
import Derived.Test.YtanafhppifhfmaaDoorMark
import Derived.Test.YtanafhppifhfmaaDoorLift
namespace Go.Proofs.YtanafhppifhfmaaDoor
open Go.RowKit
set_option maxRecDepth 100000 in
set_option maxHeartbeats 1000000 in
theorem eqPart_same (x : Part) (w : World) :
    Gives Tryd.prog 18 #[.agg #[.int .i64 x.length, .int .i64 x.width, .int .i64 x.depth, .int .i64 x.density], .agg #[.int .i64 x.length, .int .i64 x.width, .int .i64 x.depth, .int .i64 x.density]] w (.bool true) := by
  unfold Gives
  go_enter Tryd.func18, Tryd.ntmps18
  go_wp2
  go_ret
  exact ⟨rfl, ((Ext.refl _).alloc _).alloc _⟩
open Go.ChangeShapes Go.WideShapes Go.ChangeAt
open Go.ChangeMaps (open_string shut_string)
end Go.Proofs.YtanafhppifhfmaaDoor

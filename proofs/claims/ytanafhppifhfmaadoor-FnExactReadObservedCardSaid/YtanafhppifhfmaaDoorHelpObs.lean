/- The law's own helpers on observed hours, and how an observed hour reads. -/
import Derived.Test.YtanafhppifhfmaaDoorObs
import Derived.Test.YtanafhppifhfmaaDoorMark
import Derived.Test.YtanafhppifhfmaaDoorLift
namespace Go.Proofs.YtanafhppifhfmaaDoor
open Go.RowKit
set_option maxRecDepth 100000 in
set_option maxHeartbeats 1000000 in
theorem eqObserved_same (x : Observed) (w : World) :
    Gives Tryd.prog 21 #[.agg #[.int .i64 x.hour, .int .i64 x.snow, .int .i64 x.degrees, .int .i64 x.wind], .agg #[.int .i64 x.hour, .int .i64 x.snow, .int .i64 x.degrees, .int .i64 x.wind]] w (.bool true) := by
  unfold Gives
  go_enter Tryd.func21, Tryd.ntmps21
  go_wp2
  go_ret
  exact ⟨rfl, ((Ext.refl _).alloc _).alloc _⟩
open Go.ChangeShapes Go.WideShapes Go.ChangeAt
open Go.ChangeMaps (open_string shut_string)
end Go.Proofs.YtanafhppifhfmaaDoor

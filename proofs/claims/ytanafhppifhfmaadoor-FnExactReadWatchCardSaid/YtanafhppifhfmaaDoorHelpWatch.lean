/- The law's own helpers on the type Watch, and how one reads. -/
import Derived.Test.YtanafhppifhfmaaDoorWatch
import Derived.Test.YtanafhppifhfmaaDoorMark
import Derived.Test.YtanafhppifhfmaaDoorLift
namespace Go.Proofs.YtanafhppifhfmaaDoor
open Go.RowKit
set_option maxRecDepth 100000 in
set_option maxHeartbeats 1000000 in
theorem eqWatch_same (x : Watch) (w : World) :
    Gives Tryd.prog 24 #[.agg #[.string x.person, .int .i64 x.start, .int .i64 x.hours, .bool x.call], .agg #[.string x.person, .int .i64 x.start, .int .i64 x.hours, .bool x.call]] w (.bool true) := by
  unfold Gives
  have h0 : sEq x.person x.person = true := sEq_iff.2 rfl
  go_enter Tryd.func24, Tryd.ntmps24
  go_wp2
  go_ret
  exact ⟨rfl, ((Ext.refl _).alloc _).alloc _⟩
open Go.ChangeShapes Go.WideShapes Go.ChangeAt
open Go.ChangeMaps (open_string shut_string)
end Go.Proofs.YtanafhppifhfmaaDoor

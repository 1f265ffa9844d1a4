/- The law's own helpers on the type Shot, and how one reads. -/
import Derived.Test.YtanafhppifhfmaaDoorShot
import Derived.Test.YtanafhppifhfmaaDoorMark
import Derived.Test.YtanafhppifhfmaaDoorLift
namespace Go.Proofs.YtanafhppifhfmaaDoor
open Go.RowKit
set_option maxRecDepth 100000 in
set_option maxHeartbeats 1000000 in
theorem eqShot_same (x : Shot) (w : World) :
    Gives Tryd.prog 27 #[.agg #[.string x.id, .int .i64 x.frm, .int .i64 x.til, .int .i64 x.mins, .int .i64 x.gain], .agg #[.string x.id, .int .i64 x.frm, .int .i64 x.til, .int .i64 x.mins, .int .i64 x.gain]] w (.bool true) := by
  unfold Gives
  have h0 : sEq x.id x.id = true := sEq_iff.2 rfl
  go_enter Tryd.func27, Tryd.ntmps27
  go_wp2
  go_ret
  exact ⟨rfl, ((Ext.refl _).alloc _).alloc _⟩
open Go.ChangeShapes Go.WideShapes Go.ChangeAt
open Go.ChangeMaps (open_string shut_string)
end Go.Proofs.YtanafhppifhfmaaDoor

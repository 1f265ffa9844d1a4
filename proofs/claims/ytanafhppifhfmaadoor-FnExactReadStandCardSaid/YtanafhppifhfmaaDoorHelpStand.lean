/- The law's own helpers on the type Stand, and how one reads. -/
import Derived.Test.YtanafhppifhfmaaDoorStand
import Derived.Test.YtanafhppifhfmaaDoorMark
import Derived.Test.YtanafhppifhfmaaDoorLift
namespace Go.Proofs.YtanafhppifhfmaaDoor
open Go.RowKit
set_option maxRecDepth 100000 in
set_option maxHeartbeats 1000000 in
theorem eqStand_same (x : Stand) (w : World) :
    Gives Tryd.prog 30 #[.agg #[.string x.id, .int .i64 x.trees, .int .i64 x.height, .int .i64 x.cover, .int .i64 x.gap], .agg #[.string x.id, .int .i64 x.trees, .int .i64 x.height, .int .i64 x.cover, .int .i64 x.gap]] w (.bool true) := by
  unfold Gives
  have h0 : sEq x.id x.id = true := sEq_iff.2 rfl
  go_enter Tryd.func30, Tryd.ntmps30
  go_wp2
  go_ret
  exact ⟨rfl, ((Ext.refl _).alloc _).alloc _⟩
open Go.ChangeShapes Go.WideShapes Go.ChangeAt
open Go.ChangeMaps (open_string shut_string)
end Go.Proofs.YtanafhppifhfmaaDoor

/- The law's own helpers on the type Group, and how one reads. -/
import Derived.Test.YtanafhppifhfmaaDoorGroup
import Derived.Test.YtanafhppifhfmaaDoorMark
import Derived.Test.YtanafhppifhfmaaDoorLift
namespace Go.Proofs.YtanafhppifhfmaaDoor
open Go.RowKit
set_option maxRecDepth 100000 in
set_option maxHeartbeats 1000000 in
theorem eqGroup_same (x : Group) (w : World) :
    Gives Tryd.prog 36 #[.agg #[.string x.id, .int .i64 x.people, .int .i64 x.guides, .int .i64 x.beacons, .int .i64 x.shovels, .int .i64 x.probes, .int .i64 x.skill], .agg #[.string x.id, .int .i64 x.people, .int .i64 x.guides, .int .i64 x.beacons, .int .i64 x.shovels, .int .i64 x.probes, .int .i64 x.skill]] w (.bool true) := by
  unfold Gives
  have h0 : sEq x.id x.id = true := sEq_iff.2 rfl
  go_enter Tryd.func36, Tryd.ntmps36
  go_wp2
  go_ret
  exact ⟨rfl, ((Ext.refl _).alloc _).alloc _⟩
open Go.ChangeShapes Go.WideShapes Go.ChangeAt
open Go.ChangeMaps (open_string shut_string)
end Go.Proofs.YtanafhppifhfmaaDoor

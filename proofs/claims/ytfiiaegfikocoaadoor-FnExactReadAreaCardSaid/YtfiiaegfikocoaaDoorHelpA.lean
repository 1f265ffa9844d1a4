/- The law's own helpers on areas: how large they are, copies, comparison, marks. -/
import Derived.Test.YtfiiaegfikocoaaDoorSearch
import Derived.Test.YtfiiaegfikocoaaDoorMark
namespace Go.Proofs.YtfiiaegfikocoaaDoor
open Go.RowKit
set_option maxRecDepth 100000 in
set_option maxHeartbeats 1000000 in
theorem eqArea_same (x : Area) (w : World) :
    Gives Tryd.prog 7 #[.agg #[.string x.id, .int .i64 x.chance, .int .i64 x.minutes], .agg #[.string x.id, .int .i64 x.chance, .int .i64 x.minutes]] w (.bool true) := by
  unfold Gives
  have h0 : sEq x.id x.id = true := sEq_iff.2 rfl
  go_enter Tryd.func7, Tryd.ntmps7
  go_wp2
  go_ret
  exact ⟨rfl, ((Ext.refl _).alloc _).alloc _⟩
end Go.Proofs.YtfiiaegfikocoaaDoor

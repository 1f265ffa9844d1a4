/- Chapter 21: lists of gates, and a gate an hour later. What the program's and the reference's functions hand back. -/
import Derived.Test.YtfiiaegfikocoaaDoorGate
import Derived.Test.YtfiiaegfikocoaaDoorValid
import Derived.Test.YtfiiaegfikocoaaDoorOut
namespace Go.Proofs.YtfiiaegfikocoaaDoor
open Go.RowKit
theorem Gate.Small.sz {x : Gate} (h : x.Small) : x.id.size ≤ 2000000 := by unfold Gate.Small at h; omega
def gateOrd (x y : Gate) : Bool := sLt x.id y.id
/-- The list is valid. -/
def gateList (l : List Gate) : Bool := vAll gateB gateOrd 8 l
/-- A gate an hour later. -/
def stepG (x : Gate) (hz : Int) : Gate :=
  if x.shuts = false then { x with shuts := decide (x.shut ≤ hz) }
  else if x.opn ≤ hz then { x with calm := 0 }
  else if x.hold ≤ x.calm + 1 then { x with shuts := false, calm := 0 }
  else { x with calm := x.calm + 1 }
set_option maxRecDepth 100000 in
set_option maxHeartbeats 2000000 in
theorem Gate_step' (x : Gate) (hz : Int) (w : World) (hx : gateB x = true) :
    Gives Tryd.prog 40 #[.agg #[.string x.id, .int .i64 x.shut, .int .i64 x.opn, .int .i64 x.hold, .bool x.shuts, .int .i64 x.calm], .int .i64 hz] w (Gate.val (stepG x hz)) := by
  unfold Gives
  have hb := gateB_bd hx
  obtain ⟨-, -, -, b1, b2, -⟩ := hb
  cases hs : x.shuts
  · cases h1 : decide (x.shut ≤ hz)
    all_goals
      have hv : Hid (Gate.val (stepG x hz) = .agg #[.string x.id, .int .i64 x.shut, .int .i64 x.opn, .int .i64 x.hold, .bool (decide (x.shut ≤ hz)), .int .i64 x.calm]) := by show _ = _; unfold stepG Gate.val; rw [if_pos hs]
      rw [h1] at hv
      clear hx
      go_enter Tryd.func40, Tryd.ntmps40
      go_wp2
      exact bodyPost_ret (v := Gate.val (stepG x hz)) (by rw [hv.out]; simp [results, Tryd.results40, go_sem]) rfl ⟨rfl, (by repeat (first | exact Ext.refl _ | refine Ext.lift ?_ _ | refine Ext.alloc ?_ _))⟩
  · have hb' : x.hold ≤ 48 := by omega
    by_cases h1 : x.opn ≤ hz
    · have hv : Hid (Gate.val (stepG x hz) = .agg #[.string x.id, .int .i64 x.shut, .int .i64 x.opn, .int .i64 x.hold, .bool true, .int .i64 0]) := by show _ = _; unfold stepG Gate.val; rw [if_neg (by rw [hs]; decide), if_pos h1]; simp [hs]
      clear hx
      go_enter Tryd.func40, Tryd.ntmps40
      go_wp2
      exact bodyPost_ret (v := Gate.val (stepG x hz)) (by rw [hv.out]; simp [results, Tryd.results40, go_sem]) rfl ⟨rfl, (by repeat (first | exact Ext.refl _ | refine Ext.lift ?_ _ | refine Ext.alloc ?_ _))⟩
    · by_cases h2 : x.hold ≤ x.calm + 1
      · have hv : Hid (Gate.val (stepG x hz) = .agg #[.string x.id, .int .i64 x.shut, .int .i64 x.opn, .int .i64 x.hold, .bool false, .int .i64 0]) := by show _ = _; unfold stepG Gate.val; rw [if_neg (by rw [hs]; decide), if_neg h1, if_pos h2]
        have h3 : (x.calm + 1 == x.hold) = true := by rw [beq_iff_eq]; omega
        clear hx h2
        go_enter Tryd.func40, Tryd.ntmps40
        go_wp2
        exact bodyPost_ret (v := Gate.val (stepG x hz)) (by rw [hv.out]; simp [results, Tryd.results40, go_sem]) rfl ⟨rfl, (by repeat (first | exact Ext.refl _ | refine Ext.lift ?_ _ | refine Ext.alloc ?_ _))⟩
      · have hv : Hid (Gate.val (stepG x hz) = .agg #[.string x.id, .int .i64 x.shut, .int .i64 x.opn, .int .i64 x.hold, .bool true, .int .i64 (x.calm + 1)]) := by show _ = _; unfold stepG Gate.val; rw [if_neg (by rw [hs]; decide), if_neg h1, if_neg h2]; simp [hs]
        have h3 : (x.calm + 1 == x.hold) = false := by rw [beq_eq_false_iff_ne]; omega
        clear hx
        go_enter Tryd.func40, Tryd.ntmps40
        go_wp2
        exact bodyPost_ret (v := Gate.val (stepG x hz)) (by rw [hv.out]; simp [results, Tryd.results40, go_sem]) rfl ⟨rfl, (by repeat (first | exact Ext.refl _ | refine Ext.lift ?_ _ | refine Ext.alloc ?_ _))⟩
theorem Gate_step (x : Gate) (hz : Int) (w : World) (hx : gateB x = true) :
    Gives Tryd.prog 40 #[.agg #[.string x.id, .int .i64 x.shut, .int .i64 x.opn, .int .i64 x.hold, .bool x.shuts, .int .i64 x.calm], .int .i64 hz] w (.agg #[.string (stepG x hz).id, .int .i64 (stepG x hz).shut, .int .i64 (stepG x hz).opn, .int .i64 (stepG x hz).hold, .bool (stepG x hz).shuts, .int .i64 (stepG x hz).calm]) := Gate_step' x hz w hx
end Go.Proofs.YtfiiaegfikocoaaDoor

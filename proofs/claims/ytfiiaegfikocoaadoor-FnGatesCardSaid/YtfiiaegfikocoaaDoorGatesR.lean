/- The program's functions on one gate and hours: RunGate, ShutHours, FirstShut, HoursToOpen, StepGate (for FnGates). -/
import Derived.Test.YtfiiaegfikocoaaDoorHoldR
import Derived.Test.YtfiiaegfikocoaaDoorGatesP
namespace Go.Proofs.YtfiiaegfikocoaaDoor
open Go.RowKit
set_option maxRecDepth 100000 in
set_option maxHeartbeats 2000000 in
theorem implHoursToOpen_any (x : Gate) (w : World) (hx : gateB x = true) :
    Gives Tryd.prog 17 #[.agg #[.string x.id, .int .i64 x.shut, .int .i64 x.opn, .int .i64 x.hold, .bool x.shuts, .int .i64 x.calm]] w (.tuple #[.int .i64 (leftG x), .int .i64 0]) := by
  unfold Gives
  obtain ⟨b0, -, -, b3, b4, -⟩ := gateB_bd hx
  have HV := Lib.hid fun (W : World) => Gate_valid x W (by omega)
  rw [hx] at HV
  have hl : Hid (leftG x = if x.shuts = true then x.hold - x.calm else 0) := rfl
  clear hx
  go_enter Tryd.func17, Tryd.ntmps17
  go_wp2_with fail
  refine (HV.out _).mono ?_
  rintro e w' ⟨rfl, y, rfl⟩
  cases hs : x.shuts
  all_goals
    rw [hs] at hl
    go_wp2_with fail
    go_ret2
    exact ⟨by rw [hl.out]; rfl, (by repeat (first | exact Ext.refl _ | refine Ext.lift ?_ _ | refine Ext.alloc ?_ _))⟩
set_option maxRecDepth 100000 in
set_option maxHeartbeats 2000000 in
theorem implRunGate_any (x : Gate) (a : Option Addr) (cap : Nat) (hz : List Int) (w : World) (hx : gateB x = true) (H : IntAt w a hz) (hn : hz.length ≤ 64) (hall : allIn hz 0 1000 = true) :
    Calls Tryd.prog 13 #[.agg #[.string x.id, .int .i64 x.shut, .int .i64 x.opn, .int .i64 x.hold, .bool x.shuts, .int .i64 x.calm], .slice a hz.length cap] w fun e w' => ∃ g, e = .returned (.tuple #[.slice (some ⟨g, 0, none⟩) hz.length hz.length, .int .i64 0]) ∧ BoolAt w' (some ⟨g, 0, none⟩) (bools x hz hz.length) ∧ Ext w w' := by
  have HC := Lib.hid fun (W : World) (he : Ext w W) => Gate_code x a cap hz 0 W hx (RowsAt.ext H he) hn hall (by decide) (by decide)
  have HR := Lib.hid fun (W : World) (he : Ext w W) => Gate_run x a cap hz W hx (RowsAt.ext H he) (by omega)
  clear H hx hall
  go_enter Tryd.func13, Tryd.ntmps13
  go_wp2_with fail
  refine (HC.out _ (by repeat (first | exact Ext.refl _ | refine Ext.lift ?_ _ | refine Ext.alloc ?_ _))).mono ?_
  rintro e w' ⟨rfl, y, rfl⟩
  go_wp2_with fail
  refine (HR.out _ (by repeat (first | exact Ext.refl _ | refine Ext.lift ?_ _ | refine Ext.alloc ?_ _))).mono ?_
  rintro e w2 ⟨g, rfl, hB, y2, rfl⟩
  have hB := Lib.hid hB
  go_wp2_with fail
  go_ret2
  exact ⟨g, rfl, hB.out, (by repeat (first | exact Ext.refl _ | refine Ext.lift ?_ _ | refine Ext.alloc ?_ _))⟩
set_option maxRecDepth 100000 in
set_option maxHeartbeats 2000000 in
theorem implShutHours_any (x : Gate) (a : Option Addr) (cap : Nat) (hz : List Int) (w : World) (hx : gateB x = true) (H : IntAt w a hz) (hn : hz.length ≤ 64) (hall : allIn hz 0 1000 = true) :
    Gives Tryd.prog 14 #[.agg #[.string x.id, .int .i64 x.shut, .int .i64 x.opn, .int .i64 x.hold, .bool x.shuts, .int .i64 x.calm], .slice a hz.length cap] w (.tuple #[.int .i64 (hoursG x hz hz.length), .int .i64 (timesG x hz hz.length), .int .i64 0]) := by
  unfold Gives
  have HC := Lib.hid fun (W : World) (he : Ext w W) => Gate_code x a cap hz 0 W hx (RowsAt.ext H he) hn hall (by decide) (by decide)
  have HR := Lib.hid fun (W : World) (he : Ext w W) => Gate_shutHours x a cap hz W hx (RowsAt.ext H he) (by omega)
  clear H hx hall
  go_enter Tryd.func14, Tryd.ntmps14
  go_wp2_with fail
  refine (HC.out _ (by repeat (first | exact Ext.refl _ | refine Ext.lift ?_ _ | refine Ext.alloc ?_ _))).mono ?_
  rintro e w' ⟨rfl, y, rfl⟩
  go_wp2_with fail
  refine (HR.out _ (by repeat (first | exact Ext.refl _ | refine Ext.lift ?_ _ | refine Ext.alloc ?_ _))).mono ?_
  rintro e w2 ⟨rfl, y2, rfl⟩
  go_wp2_with fail
  go_ret3
  exact ⟨rfl, (by repeat (first | exact Ext.refl _ | refine Ext.lift ?_ _ | refine Ext.alloc ?_ _))⟩
set_option maxHeartbeats 2000000 in
theorem IndexTrue_any (g : Nat) (x : Gate) (hz : List Int) (w : World) (H : BoolAt w (some ⟨g, 0, none⟩) (bools x hz hz.length)) (hn : hz.length ≤ 1048576) :
    Calls Tryd.prog 37 #[.slice (some ⟨g, 0, none⟩) hz.length hz.length, .bool true] w fun e w' => e = .returned (.int .i64 (earlyG x hz hz.length)) ∧ w' = w := by
  have hb := bools_len x hz hz.length
  have HH : Hid (∀ k, k < hz.length → g < w.heap.size ∧ w.cell? ⟨g, k, none⟩ = some (.bool (gAt x hz (k + 1)).shuts)) := fun k hk => by
    have := BoolAt.at H k (by rw [hb]; exact hk)
    rwa [Nat.zero_add, bools_at x hz hk] at this
  clear H hb
  go_enter Tryd.func37, Tryd.ntmps37
  go_wp2
  go_loop [8] (fun i => ∃ k : Nat, k ≤ hz.length ∧ i = .int .i64 k ∧ Hid (∀ j, j < k → (gAt x hz (j + 1)).shuts = false)) (fun i => hz.length - (intOf i).toNat)
  case atStart => exact ⟨0, Nat.zero_le _, rfl, fun _ h => absurd h (Nat.not_lt_zero _)⟩
  case round =>
    obtain ⟨k, hk, rfl, hall⟩ := hrel
    by_cases hlt : k < hz.length
    · obtain ⟨hb, c0⟩ := HH.out k hlt
      cases h1 : (gAt x hz (k + 1)).shuts
      · rw [h1] at c0
        have hne : Hid (∀ j, j < k + 1 → (gAt x hz (j + 1)).shuts = false) := upto_succ hall.out h1
        clear h1
        go_wp2
        go_round
        case rel => exact ⟨k + 1, by omega, by go_num, hne.out⟩
        case measure => simp [intOf]; omega
      · have hv : Hid (earlyG x hz hz.length = k) := by
          have := early_at hall.out h1 (hz.length - (k + 1))
          rwa [show k + 1 + (hz.length - (k + 1)) = hz.length by omega] at this
        rw [h1] at c0
        clear h1
        go_wp2
        go_ret
        exact ⟨by rw [hv.out]; rfl, rfl⟩
    · obtain rfl : k = hz.length := by omega
      have hv : Hid (earlyG x hz hz.length = -1) := early_none hall.out
      go_wp2
      go_ret
      exact ⟨by rw [hv.out]; rfl, rfl⟩
theorem orNotFound2_any (n : Int) (ok : Bool) (w : World) : Calls Tryd.prog 38 #[.int .i64 n, .bool ok] w fun e w' => e = .returned (.tuple #[.int .i64 (if ok = true then n else 0), .int .i64 (if ok = true then 0 else 3)]) ∧ w' = w := by
  cases ok
  all_goals
    go_enter Tryd.func38, Tryd.ntmps38
    go_wp2
    go_ret2
    exact ⟨rfl, rfl⟩
set_option maxRecDepth 100000 in
set_option maxHeartbeats 2000000 in
theorem implFirstShut_any (x : Gate) (a : Option Addr) (cap : Nat) (hz : List Int) (w : World) (hx : gateB x = true) (H : IntAt w a hz) (hn : hz.length ≤ 64) (hall : allIn hz 0 1000 = true) :
    Gives Tryd.prog 15 #[.agg #[.string x.id, .int .i64 x.shut, .int .i64 x.opn, .int .i64 x.hold, .bool x.shuts, .int .i64 x.calm], .slice a hz.length cap] w (.tuple #[.int .i64 (if 0 ≤ earlyG x hz hz.length then earlyG x hz hz.length else 0), .int .i64 (if 0 ≤ earlyG x hz hz.length then 0 else 3)]) := by
  unfold Gives
  have HC := Lib.hid fun (W : World) (he : Ext w W) => Gate_code x a cap hz 0 W hx (RowsAt.ext H he) hn hall (by decide) (by decide)
  have HR := Lib.hid fun (W : World) (he : Ext w W) => Gate_run x a cap hz W hx (RowsAt.ext H he) (by omega)
  have HI := Lib.hid fun (g : Nat) (W : World) (hB : BoolAt W (some ⟨g, 0, none⟩) (bools x hz hz.length)) => IndexTrue_any g x hz W hB (by omega)
  have hb := early_bd x hz hz.length
  clear H hx hall
  obtain ⟨E, hE⟩ : ∃ E, E = earlyG x hz hz.length := ⟨_, rfl⟩
  rw [← hE] at hb HI ⊢
  clear hE
  go_enter Tryd.func15, Tryd.ntmps15
  go_wp2_with fail
  refine (HC.out _ (by repeat (first | exact Ext.refl _ | refine Ext.lift ?_ _ | refine Ext.alloc ?_ _))).mono ?_
  rintro e w' ⟨rfl, y, rfl⟩
  go_wp2_with fail
  refine (HR.out _ (by repeat (first | exact Ext.refl _ | refine Ext.lift ?_ _ | refine Ext.alloc ?_ _))).mono ?_
  rintro e w2 ⟨g, rfl, hB, y2, rfl⟩
  have HI2 := Lib.hid (HI.out g _ hB)
  clear hB HI
  go_wp2_with fail
  refine HI2.out.mono ?_
  rintro e w3 ⟨rfl, hw3⟩
  subst hw3
  clear HI2
  by_cases h0 : 0 ≤ E
  · have hv : Hid ((if 0 ≤ E then E else 0) = E ∧ (if 0 ≤ E then (0 : Int) else 3) = 0) := ⟨if_pos h0, if_pos h0⟩
    go_wp2_with fail
    refine (orNotFound2_any _ _ _).mono ?_
    rintro e w4 ⟨rfl, hw4⟩
    subst hw4
    go_wp2_with fail
    go_ret2
    exact ⟨by first | rfl | (rw [hv.out.1, hv.out.2]; rfl), (by repeat (first | exact Ext.refl _ | refine Ext.lift ?_ _ | refine Ext.alloc ?_ _))⟩
  · have hv : Hid ((if 0 ≤ E then E else 0) = 0 ∧ (if 0 ≤ E then (0 : Int) else 3) = 3) := ⟨if_neg h0, if_neg h0⟩
    go_wp2_with fail
    refine (orNotFound2_any _ _ _).mono ?_
    rintro e w4 ⟨rfl, hw4⟩
    subst hw4
    go_wp2_with fail
    go_ret2
    exact ⟨by first | rfl | (rw [hv.out.1, hv.out.2]; rfl), (by repeat (first | exact Ext.refl _ | refine Ext.lift ?_ _ | refine Ext.alloc ?_ _))⟩
end Go.Proofs.YtfiiaegfikocoaaDoor

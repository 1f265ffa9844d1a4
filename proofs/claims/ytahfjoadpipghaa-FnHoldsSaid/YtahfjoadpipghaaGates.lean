/- Chapter 21: lists of gates, and a gate an hour later. What the program's and the reference's functions hand back. -/
import Derived.Test.YtahfjoadpipghaaGate
import Derived.Test.YtahfjoadpipghaaValid
import Derived.Test.YtahfjoadpipghaaOut
namespace Go.Proofs.Ytahfjoadpipghaa
open Go.RowKit
theorem Gate.Small.sz {x : Gate} (h : x.Small) : x.id.size ≤ 2000000 := by unfold Gate.Small at h; omega
def gateOrd (x y : Gate) : Bool := sLt x.id y.id
/-- The list is valid. -/
def gateList (l : List Gate) : Bool := vAll gateB gateOrd 8 l
set_option maxRecDepth 100000 in
set_option maxHeartbeats 2000000 in
theorem ValidGates_any (a : Option Addr) (cap : Nat) (l : List Gate) (w : World) (H : GateAt w a l) (hsz : ∀ k, k < l.length → (nth l k).Small) (hlen : l.length ≤ 1048576) :
    Gives Try.prog 75 #[.slice a l.length cap] w (.bool (gateList l)) := by
  unfold Gives
  by_cases hl8 : 8 < l.length
  · have hv : Hid (false = gateList l) := vAll_len hl8
    go_enter Try.func75, Try.ntmps75
    go_wp2
    go_ret
    exact ⟨ret_bool hv.out, Ext.refl _⟩
  go_enter Try.func75, Try.ntmps75
  go_wp2_with fail
  go_loopw [10] (fun i wr => ∃ k : Nat, k ≤ l.length ∧ i = .int .i64 k ∧ Hid (∀ j, j < k → vOk gateB gateOrd l j = true) ∧ Ext w wr) (fun i _ => l.length - (intOf i).toNat)
  case atStart => exact ⟨0, Nat.zero_le _, rfl, upto_zero, Ext.refl w⟩
  case round =>
    obtain ⟨k, hk, rfl, hall, he⟩ := hrel
    by_cases hlt : k < l.length
    · obtain ⟨b, off, rfl⟩ := H.base hlt
      obtain ⟨hb, c0, c1, c2, c3, c4, c5⟩ := Gate.at (H.ext he) k hlt
      have hz := (hsz k hlt).sz
      cases h1 : gateB (nth l k)
      · have hv : Hid (false = gateList l) := vAll_bad hlt (vOk_false1 h1)
        clear hsz H
        go_wp2_with fail
        refine region_quiet (by kernel_rfl) (by kernel_rfl) ?_
        repeat (any_goals (first | go_big_quiet_step ((exact Gives.quiet (Gate_valid (nth l k) _ hz))) | quiet_step ((exact Gives.quiet (Gate_valid (nth l k) _ hz)))))
        refine wpQuiet_nil ?_
        intro _ hw'
        obtain ⟨y, hw''⟩ := hw'
        subst hw''
        go_wp2
        go_ret
        exact ⟨ret_bool hv.out, (he.alloc _).lift y⟩
      · rcases Nat.eq_zero_or_pos k with hk0 | hk0
        · have hv : Hid (vOk gateB gateOrd l k = true) := vOk_true0 h1 hk0
          have hd : decide (0 < k) = false := decide_eq_false (by omega)
          clear hsz H hk0
          go_wp2_with fail
          refine region_quiet (by kernel_rfl) (by kernel_rfl) ?_
          repeat (any_goals (first | go_big_quiet_step ((exact Gives.quiet (Gate_valid (nth l k) _ hz))) | quiet_step ((exact Gives.quiet (Gate_valid (nth l k) _ hz)))))
          refine wpQuiet_nil ?_
          intro _ hw'
          obtain ⟨y, hw''⟩ := hw'
          subst hw''
          go_wp2
          go_roundw
          case rel => exact ⟨k + 1, by omega, by go_num, upto_succ hall.out hv.out, (he.alloc _).lift y⟩
          case measure => simp [intOf]; omega
        · obtain ⟨-, p0, -, -, -, -, -⟩ := Gate.at (H.ext he) (k - 1) (by omega)
          have hd : decide (0 < k) = true := decide_eq_true hk0
          cases h2 : sLt (nth l (k - 1)).id (nth l k).id
          all_goals
            first
              | have hv : Hid (vOk gateB gateOrd l k = true) := vOk_true1 h1 h2
              | have hv : Hid (false = gateList l) := vAll_bad hlt (vOk_false2 hk0 h2)
            clear hsz H
            go_wp2_with fail
            refine region_quiet (by kernel_rfl) (by kernel_rfl) ?_
            repeat (any_goals (first | go_big_quiet_step ((exact Gives.quiet (Gate_valid (nth l k) _ hz))) | quiet_step ((exact Gives.quiet (Gate_valid (nth l k) _ hz)))))
            refine wpQuiet_nil ?_
            intro _ hw'
            obtain ⟨y, hw''⟩ := hw'
            subst hw''
            go_wp2
            first
              | (go_ret; exact ⟨ret_bool hv.out, (he.alloc _).lift y⟩)
              | (go_roundw
                 case rel => exact ⟨k + 1, by omega, by go_num, upto_succ hall.out hv.out, (he.alloc _).lift y⟩
                 case measure => simp [intOf]; omega)
    · have hv : Hid (gateList l = decide (l.length ≤ 8)) := vAll_end fun j hj => hall.out j (by omega)
      have hl8' : decide (l.length ≤ 8) = true := decide_eq_true (by omega)
      clear hsz H
      go_wp2
      go_ret
      exact ⟨ret_bool (by rw [hv.out, hl8']), he⟩
/-- A gate an hour later. -/
def stepG (x : Gate) (hz : Int) : Gate :=
  if x.shuts = false then { x with shuts := decide (x.shut ≤ hz) }
  else if x.opn ≤ hz then { x with calm := 0 }
  else if x.hold ≤ x.calm + 1 then { x with shuts := false, calm := 0 }
  else { x with calm := x.calm + 1 }
set_option maxRecDepth 100000 in
set_option maxHeartbeats 2000000 in
theorem Gate_step' (x : Gate) (hz : Int) (w : World) (hx : gateB x = true) :
    Gives Try.prog 78 #[.agg #[.string x.id, .int .i64 x.shut, .int .i64 x.opn, .int .i64 x.hold, .bool x.shuts, .int .i64 x.calm], .int .i64 hz] w (Gate.val (stepG x hz)) := by
  unfold Gives
  have hb := gateB_bd hx
  obtain ⟨-, -, -, b1, b2, -⟩ := hb
  cases hs : x.shuts
  · cases h1 : decide (x.shut ≤ hz)
    all_goals
      have hv : Hid (Gate.val (stepG x hz) = .agg #[.string x.id, .int .i64 x.shut, .int .i64 x.opn, .int .i64 x.hold, .bool (decide (x.shut ≤ hz)), .int .i64 x.calm]) := by show _ = _; unfold stepG Gate.val; rw [if_pos hs]
      rw [h1] at hv
      clear hx
      go_enter Try.func78, Try.ntmps78
      go_wp2
      exact bodyPost_ret (v := Gate.val (stepG x hz)) (by rw [hv.out]; simp [results, Try.results78, go_sem]) rfl ⟨rfl, (by repeat (first | exact Ext.refl _ | refine Ext.lift ?_ _ | refine Ext.alloc ?_ _))⟩
  · have hb' : x.hold ≤ 48 := by omega
    by_cases h1 : x.opn ≤ hz
    · have hv : Hid (Gate.val (stepG x hz) = .agg #[.string x.id, .int .i64 x.shut, .int .i64 x.opn, .int .i64 x.hold, .bool true, .int .i64 0]) := by show _ = _; unfold stepG Gate.val; rw [if_neg (by rw [hs]; decide), if_pos h1]; simp [hs]
      clear hx
      go_enter Try.func78, Try.ntmps78
      go_wp2
      exact bodyPost_ret (v := Gate.val (stepG x hz)) (by rw [hv.out]; simp [results, Try.results78, go_sem]) rfl ⟨rfl, (by repeat (first | exact Ext.refl _ | refine Ext.lift ?_ _ | refine Ext.alloc ?_ _))⟩
    · by_cases h2 : x.hold ≤ x.calm + 1
      · have hv : Hid (Gate.val (stepG x hz) = .agg #[.string x.id, .int .i64 x.shut, .int .i64 x.opn, .int .i64 x.hold, .bool false, .int .i64 0]) := by show _ = _; unfold stepG Gate.val; rw [if_neg (by rw [hs]; decide), if_neg h1, if_pos h2]
        have h3 : (x.calm + 1 == x.hold) = true := by rw [beq_iff_eq]; omega
        clear hx h2
        go_enter Try.func78, Try.ntmps78
        go_wp2
        exact bodyPost_ret (v := Gate.val (stepG x hz)) (by rw [hv.out]; simp [results, Try.results78, go_sem]) rfl ⟨rfl, (by repeat (first | exact Ext.refl _ | refine Ext.lift ?_ _ | refine Ext.alloc ?_ _))⟩
      · have hv : Hid (Gate.val (stepG x hz) = .agg #[.string x.id, .int .i64 x.shut, .int .i64 x.opn, .int .i64 x.hold, .bool true, .int .i64 (x.calm + 1)]) := by show _ = _; unfold stepG Gate.val; rw [if_neg (by rw [hs]; decide), if_neg h1, if_neg h2]; simp [hs]
        have h3 : (x.calm + 1 == x.hold) = false := by rw [beq_eq_false_iff_ne]; omega
        clear hx
        go_enter Try.func78, Try.ntmps78
        go_wp2
        exact bodyPost_ret (v := Gate.val (stepG x hz)) (by rw [hv.out]; simp [results, Try.results78, go_sem]) rfl ⟨rfl, (by repeat (first | exact Ext.refl _ | refine Ext.lift ?_ _ | refine Ext.alloc ?_ _))⟩
theorem Gate_step (x : Gate) (hz : Int) (w : World) (hx : gateB x = true) :
    Gives Try.prog 78 #[.agg #[.string x.id, .int .i64 x.shut, .int .i64 x.opn, .int .i64 x.hold, .bool x.shuts, .int .i64 x.calm], .int .i64 hz] w (.agg #[.string (stepG x hz).id, .int .i64 (stepG x hz).shut, .int .i64 (stepG x hz).opn, .int .i64 (stepG x hz).hold, .bool (stepG x hz).shuts, .int .i64 (stepG x hz).calm]) := Gate_step' x hz w hx
set_option maxRecDepth 100000 in
set_option maxHeartbeats 2000000 in
theorem l21Step_any' (x : Gate) (hz : Int) (w : World) (hx : gateB x = true) :
    Gives Try.prog 81 #[.agg #[.string x.id, .int .i64 x.shut, .int .i64 x.opn, .int .i64 x.hold, .bool x.shuts, .int .i64 x.calm], .int .i64 hz] w (Gate.val (stepG x hz)) := by
  unfold Gives
  have hb := gateB_bd hx
  obtain ⟨-, -, -, b1, b2, -⟩ := hb
  cases hs : x.shuts
  · cases h1 : decide (x.shut ≤ hz)
    all_goals
      have hv : Hid (Gate.val (stepG x hz) = .agg #[.string x.id, .int .i64 x.shut, .int .i64 x.opn, .int .i64 x.hold, .bool (decide (x.shut ≤ hz)), .int .i64 x.calm]) := by show _ = _; unfold stepG Gate.val; rw [if_pos hs]
      rw [h1] at hv
      clear hx
      go_enter Try.func81, Try.ntmps81
      go_wp2
      exact bodyPost_ret (v := Gate.val (stepG x hz)) (by rw [hv.out]; simp [results, Try.results81, go_sem]) rfl ⟨rfl, (by repeat (first | exact Ext.refl _ | refine Ext.lift ?_ _ | refine Ext.alloc ?_ _))⟩
  · have hb' : x.hold ≤ 48 := by omega
    by_cases h1 : x.opn ≤ hz
    · have hv : Hid (Gate.val (stepG x hz) = .agg #[.string x.id, .int .i64 x.shut, .int .i64 x.opn, .int .i64 x.hold, .bool true, .int .i64 0]) := by show _ = _; unfold stepG Gate.val; rw [if_neg (by rw [hs]; decide), if_pos h1]; simp [hs]
      clear hx
      go_enter Try.func81, Try.ntmps81
      go_wp2
      exact bodyPost_ret (v := Gate.val (stepG x hz)) (by rw [hv.out]; simp [results, Try.results81, go_sem]) rfl ⟨rfl, (by repeat (first | exact Ext.refl _ | refine Ext.lift ?_ _ | refine Ext.alloc ?_ _))⟩
    · by_cases h2 : x.hold ≤ x.calm + 1
      · have hv : Hid (Gate.val (stepG x hz) = .agg #[.string x.id, .int .i64 x.shut, .int .i64 x.opn, .int .i64 x.hold, .bool false, .int .i64 0]) := by show _ = _; unfold stepG Gate.val; rw [if_neg (by rw [hs]; decide), if_neg h1, if_pos h2]
        clear hx
        go_enter Try.func81, Try.ntmps81
        go_wp2_with fail
        first
          | exact bodyPost_ret (v := Gate.val (stepG x hz)) (by rw [hv.out]; simp [results, Try.results81, go_sem]) rfl ⟨rfl, (by repeat (first | exact Ext.refl _ | refine Ext.lift ?_ _ | refine Ext.alloc ?_ _))⟩
          | (refine region_quiet (by kernel_rfl) (by kernel_rfl) ?_
             repeat (any_goals (first | go_big_quiet_step (fail) | quiet_step (fail)))
             refine wpQuiet_nil ?_
             intro _ hw'
             obtain ⟨y, hw''⟩ := hw'
             subst hw''
             go_wp2
             exact bodyPost_ret (v := Gate.val (stepG x hz)) (by rw [hv.out]; simp [results, Try.results81, go_sem]) rfl ⟨rfl, (by repeat (first | exact Ext.refl _ | refine Ext.lift ?_ _ | refine Ext.alloc ?_ _))⟩)
      · have hv : Hid (Gate.val (stepG x hz) = .agg #[.string x.id, .int .i64 x.shut, .int .i64 x.opn, .int .i64 x.hold, .bool true, .int .i64 (x.calm + 1)]) := by show _ = _; unfold stepG Gate.val; rw [if_neg (by rw [hs]; decide), if_neg h1, if_neg h2]; simp [hs]
        clear hx
        go_enter Try.func81, Try.ntmps81
        go_wp2_with fail
        first
          | exact bodyPost_ret (v := Gate.val (stepG x hz)) (by rw [hv.out]; simp [results, Try.results81, go_sem]) rfl ⟨rfl, (by repeat (first | exact Ext.refl _ | refine Ext.lift ?_ _ | refine Ext.alloc ?_ _))⟩
          | (refine region_quiet (by kernel_rfl) (by kernel_rfl) ?_
             repeat (any_goals (first | go_big_quiet_step (fail) | quiet_step (fail)))
             refine wpQuiet_nil ?_
             intro _ hw'
             obtain ⟨y, hw''⟩ := hw'
             subst hw''
             go_wp2
             exact bodyPost_ret (v := Gate.val (stepG x hz)) (by rw [hv.out]; simp [results, Try.results81, go_sem]) rfl ⟨rfl, (by repeat (first | exact Ext.refl _ | refine Ext.lift ?_ _ | refine Ext.alloc ?_ _))⟩)
theorem l21Step_any (x : Gate) (hz : Int) (w : World) (hx : gateB x = true) :
    Gives Try.prog 81 #[.agg #[.string x.id, .int .i64 x.shut, .int .i64 x.opn, .int .i64 x.hold, .bool x.shuts, .int .i64 x.calm], .int .i64 hz] w (.agg #[.string (stepG x hz).id, .int .i64 (stepG x hz).shut, .int .i64 (stepG x hz).opn, .int .i64 (stepG x hz).hold, .bool (stepG x hz).shuts, .int .i64 (stepG x hz).calm]) := l21Step_any' x hz w hx
end Go.Proofs.Ytahfjoadpipghaa

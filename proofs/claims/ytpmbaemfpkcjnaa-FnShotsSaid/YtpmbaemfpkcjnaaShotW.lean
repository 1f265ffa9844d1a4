/- Chapter 22: whether an order is a plan, its gain, its last end: what the functions hand back where the order is a plan. -/
import Derived.Test.YtpmbaemfpkcjnaaSlack
import Derived.Test.YtpmbaemfpkcjnaaGain
import Derived.Test.YtpmbaemfpkcjnaaShotP
namespace Go.Proofs.Ytpmbaemfpkcjnaa
open Go.RowKit
set_option maxRecDepth 100000 in
set_option maxHeartbeats 4000000 in
theorem implIsShotPlan_any (a : Option Addr) (cap : Nat) (l : List Shot) (a2 : Option Addr) (cap2 : Nat) (ord : List Int) (c : Int) (w : World) (H : ShotAt w a l) (hsz : ∀ k, k < l.length → (nth l k).Small) (hn : l.length ≤ 1048576) (H2 : IntAt w a2 ord) (hlen : ord.length ≤ 1048576) (hcap : ord.length ≤ cap2) :
    Gives Try.prog 7 #[.slice a l.length cap, .slice a2 ord.length cap2, .int .i64 c] w (.bool (planC l ord c == 0)) := by
  unfold Gives
  have HP := Lib.hid (planWorks_any a cap l a2 cap2 ord c w H hsz hn H2 hlen hcap)
  clear H H2 hsz
  go_enter Try.func7, Try.ntmps7
  go_wp2_with fail
  refine HP.out.mono ?_
  rintro e w2 ⟨a', cap', rfl, -, -, -, E⟩
  have T := Lib.hid E
  clear E
  go_wp2_with fail
  go_ret
  exact ⟨rfl, T.out⟩
set_option maxRecDepth 100000 in
set_option maxHeartbeats 4000000 in
theorem specIsShotPlan_any (a : Option Addr) (cap : Nat) (l : List Shot) (a2 : Option Addr) (cap2 : Nat) (ord : List Int) (c : Int) (w : World) (H : ShotAt w a l) (hsz : ∀ k, k < l.length → (nth l k).Small) (hn : l.length ≤ 1048576) (H2 : IntAt w a2 ord) (hlen : ord.length ≤ 1048576) (hcap : ord.length ≤ cap2) :
    Gives Try.prog 12 #[.slice a l.length cap, .slice a2 ord.length cap2, .int .i64 c] w (.bool (planC l ord c == 0)) := by
  unfold Gives
  have HP := Lib.hid (l22Plan_any a cap l a2 cap2 ord c w H hsz hn H2 hlen hcap)
  clear H H2 hsz
  go_enter Try.func12, Try.ntmps12
  go_wp2_with fail
  refine HP.out.mono ?_
  rintro e w2 ⟨a', cap', rfl, -, -, -, E⟩
  have T := Lib.hid E
  clear E
  go_wp2_with fail
  go_ret
  exact ⟨rfl, T.out⟩
set_option maxRecDepth 100000 in
set_option maxHeartbeats 4000000 in
theorem implShotGain_plan (a : Option Addr) (cap : Nat) (l : List Shot) (a2 : Option Addr) (cap2 : Nat) (ord : List Int) (w : World) (H : ShotAt w a l) (hsz : ∀ k, k < l.length → (nth l k).Small) (hn : l.length ≤ 1048576) (H2 : IntAt w a2 ord) (hlen : ord.length ≤ 1048576) (hcap : ord.length ≤ cap2) (h1 : shotList l = true) (h2 : orderB l.length ord = true) :
    Gives Try.prog 8 #[.slice a l.length cap, .slice a2 ord.length cap2] w (.tuple #[.int .i64 (gainS l ord), .int .i64 0]) := by
  unfold Gives
  have HA := Lib.hid H
  have HI := Lib.hid H2
  have HZ := Lib.hid hsz
  clear H H2 hsz
  have HV := Lib.hid fun (w' : World) (he : Ext w w') => ValidShots_any a cap l w' (HA.out.ext he) HZ.out hn
  have HO := Lib.hid fun (w' : World) (he : Ext w w') => orderOk_any a l.length cap a2 cap2 ord w' (HI.out.ext he) (by omega) (by omega) hcap
  have HG := Lib.hid fun (w' : World) (he : Ext w w') => gainOf_any a cap l a2 cap2 ord w' (HA.out.ext he) (HI.out.ext he) ⟨vAll_one h1, orderB_in h2⟩ hlen
  rw [h1] at HV
  rw [h2] at HO
  clear h1 h2
  go_enter Try.func8, Try.ntmps8
  go_wp2_with fail
  refine (HV.out _ (by repeat (first | exact Ext.refl _ | refine Ext.lift ?_ _ | refine Ext.alloc ?_ _))).mono ?_
  rintro e w' ⟨rfl, y, rfl⟩
  go_wp2_with fail
  refine (HO.out _ (by repeat (first | exact Ext.refl _ | refine Ext.lift ?_ _ | refine Ext.alloc ?_ _))).mono ?_
  rintro e w' ⟨rfl, z, rfl⟩
  go_wp2_with fail
  refine (HG.out _ (by repeat (first | exact Ext.refl _ | refine Ext.lift ?_ _ | refine Ext.alloc ?_ _))).mono ?_
  rintro e w' ⟨rfl, rfl⟩
  go_wp2_with fail
  go_ret2
  exact ⟨rfl, (by repeat (first | exact Ext.refl _ | refine Ext.lift ?_ _ | refine Ext.alloc ?_ _))⟩
set_option maxRecDepth 100000 in
set_option maxHeartbeats 4000000 in
theorem implLastEnd_plan (a : Option Addr) (cap : Nat) (l : List Shot) (a2 : Option Addr) (cap2 : Nat) (ord : List Int) (c : Int) (w : World) (H : ShotAt w a l) (hsz : ∀ k, k < l.length → (nth l k).Small) (hn : l.length ≤ 1048576) (H2 : IntAt w a2 ord) (hlen : ord.length ≤ 1048576) (hcap : ord.length ≤ cap2) (h0 : planC l ord c = 0) :
    Gives Try.prog 9 #[.slice a l.length cap, .slice a2 ord.length cap2, .int .i64 c] w (.tuple #[.int .i64 (lastTo (planV l ord c) ord.length), .int .i64 0]) := by
  unfold Gives
  have HP := Lib.hid (planWorks_any a cap l a2 cap2 ord c w H hsz hn H2 hlen hcap)
  clear H H2 hsz
  have hpl := Lib.hid (planC_ok h0).2.1
  rw [h0] at HP
  clear h0
  go_enter Try.func9, Try.ntmps9
  go_wp2_with fail
  refine HP.out.mono ?_
  rintro e W ⟨a', cap', rfl, -, -, R, E⟩
  have R0 := Lib.hid R
  have E0 := Lib.hid E
  clear R E HP
  rw [hpl.out]
  obtain ⟨WS, hWS⟩ : ∃ WS, WS = planV l ord c := ⟨_, rfl⟩
  rw [← hWS] at R0 hpl
  replace hWS := Lib.hid hWS
  go_wp2_with fail
  go_loopw [10, 25] (fun s i wr => ∃ k : Nat, k ≤ ord.length ∧ i = .int .i64 k ∧ s = .int .i64 (lastTo WS k) ∧ Ext W wr) (fun _ i _ => ord.length - (intOf i).toNat)
  case atStart => exact ⟨0, Nat.zero_le _, rfl, rfl, Ext.refl W⟩
  case round =>
    obtain ⟨k, hk, rfl, rfl, he⟩ := hrel
    by_cases hlt : k < ord.length
    · have hlt' : k < WS.length := by rw [hpl.out]; exact hlt
      obtain ⟨b3, off3, rfl⟩ := R0.out.base hlt'
      obtain ⟨hb3, w0, w1⟩ := Work.at (R0.out.ext he) k hlt'
      have hst : Hid (lastTo WS (k + 1) = max (lastTo WS k) (nth WS k).fin) := rfl
      clear hlt'
      rcases Int.lt_or_le (lastTo WS k) (nth WS k).fin with hm1 | hm1
      · have hst2 : Hid (lastTo WS (k + 1) = (nth WS k).fin) := by show _ = _; rw [hst.out]; omega
        go_wp2_with fail
        go_roundw
        case rel => exact ⟨k + 1, by omega, by go_num, by rw [hst2.out]; try (congr 1; split <;> omega), (by repeat (first | exact he | refine Ext.lift ?_ _ | refine Ext.alloc ?_ _))⟩
        case measure => simp [intOf]; omega
      · have hst2 : Hid (lastTo WS (k + 1) = lastTo WS k) := by show _ = _; rw [hst.out]; omega
        go_wp2_with fail
        go_roundw
        case rel => exact ⟨k + 1, by omega, by go_num, by rw [hst2.out]; try (congr 1; split <;> omega), (by repeat (first | exact he | refine Ext.lift ?_ _ | refine Ext.alloc ?_ _))⟩
        case measure => simp [intOf]; omega
    · obtain rfl : k = ord.length := by omega
      go_wp2_with fail
      go_ret2
      exact ⟨by rw [← hWS.out]; rfl, E0.out.trans he⟩
theorem b10Long_any (a : Option Addr) (n cap : Nat) (w : World) (hn : n ≤ 9223372036854775807) : Calls Try.prog 4 #[.slice a n cap] w fun e w' => ∃ b, e = .returned (.bool b) ∧ (b = false → n ≤ 1048576) ∧ w' = w := by
  go_enter Try.func4, Try.ntmps4
  go_wp2_with fail
  go_ret
  exact ⟨_, rfl, fun h => by simp at h; omega, rfl⟩
end Go.Proofs.Ytpmbaemfpkcjnaa

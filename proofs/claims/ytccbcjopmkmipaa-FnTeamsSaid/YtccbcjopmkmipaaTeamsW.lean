/- Areas that are drawn, and TeamsWorth of both sides at teams that are valid. -/
import Derived.Test.YtccbcjopmkmipaaDrawL
import Derived.Test.YtccbcjopmkmipaaBestTeam
namespace Go.Proofs.Ytccbcjopmkmipaa
open Go.RowKit
set_option maxRecDepth 100000 in
set_option maxHeartbeats 2000000 in
theorem R8Areas_any (w : World) (a : Option Addr) (cap : Nat) (code : List Int) (H : ByteAt w a code) (hr : ∀ k, k < code.length → 0 ≤ nth code k ∧ nth code k ≤ 255) (hf : code.length ≤ 1048576) :
    Calls Try.prog 5 #[.slice a code.length cap] w fun e w' => ∃ (o : Option Addr) (oc : Nat) (l : List Area), e = .returned (.slice o l.length oc) ∧ l.length ≤ oc ∧ Drawn l 5 ∧ AreaAt w' o l ∧ Ext w w' := by
  have HF := Lib.hid (l00From_any w a cap code H hr hf)
  clear H hr
  go_enter Try.func5, Try.ntmps5
  go_wp2_with fail
  refine HF.out.mono ?_
  rintro e w1 ⟨sb, rfl, hsb, S1, E1⟩
  have S1 := Lib.hid S1
  have E1 := Lib.hid E1
  go_wp2_with fail
  refine (l25Draw_any w1 sb a cap code 0 S1.out (by omega)).mono ?_
  rintro e w2 ⟨o, oc, l, rfl, hoc, HD, HA, HM⟩
  have HD := Lib.hid HD
  have HA := Lib.hid HA
  have E2 := Lib.hid (HM.ext w hsb E1.out)
  clear HM
  go_wp2_with fail
  go_ret
  exact ⟨o, oc, l, rfl, hoc, HD.out, HA.out, E2.out⟩
theorem TeamsOk.all {l : List Area} {ts : List Int} (h : TeamsOk l ts) : allIn ts 0 3 = true := allIn_iff.2 fun k hk => by
  have := h.team k hk; rw [inB_iff]; omega
set_option maxRecDepth 100000 in
set_option maxHeartbeats 2000000 in
theorem implTeamsWorth_any (a : Option Addr) (cap : Nat) (l : List Area) (a2 : Option Addr) (cap2 : Nat) (ts : List Int) (s : Int) (w : World) (H : AreaAt w a l) (H2 : IntAt w a2 ts) (hv : validAreas l = true) (hsz : AreaSz l) (hok : TeamsOk l ts) (hs : 0 ≤ s) (hs2 : s ≤ 1000) :
    Gives Try.prog 9 #[.slice a l.length cap, .slice a2 ts.length cap2, .int .i64 s] w (.tuple #[.int .i64 (tW l ts s ts.length), .int .i64 0]) := by
  unfold Gives
  have hl8 := (validAreas_all hv).1
  have hlen := hok.len
  have HV := Lib.hid fun (W : World) (he : Ext w W) => ValidAreas_any a cap l W (H.ext he) hsz (by omega)
  have HA := Lib.hid fun (W : World) (he : Ext w W) => allWithin_any a2 cap2 ts 0 3 W (H2.ext he) (by omega)
  have HT := Lib.hid fun (W : World) (he : Ext w W) => teamsWorth_any a cap l a2 cap2 ts s W (H.ext he) (H2.ext he) hok hs hs2 hl8
  rw [hv] at HV
  rw [hok.all] at HA
  have hin : inB s 0 1000 = true := inB_iff.2 ⟨hs, hs2⟩
  have hne : ((ts.length : Int) != (l.length : Int)) = false := by rw [hlen]; simp
  obtain ⟨V, hV⟩ : ∃ V, V = tW l ts s ts.length := ⟨_, rfl⟩
  rw [← hV] at HT ⊢
  clear H H2 hv hsz hok hV hlen
  go_enter Try.func9, Try.ntmps9
  go_wp2_with (first | (go_at_call 18; refine (HT.out _ (by repeat (first | exact Ext.refl _ | refine Ext.lift ?_ _ | refine Ext.alloc ?_ _))).mono ?_; rintro e w' ⟨rfl, y3, rfl⟩) | (go_at_call 24; refine (HA.out _ (by repeat (first | exact Ext.refl _ | refine Ext.lift ?_ _ | refine Ext.alloc ?_ _))).mono ?_; rintro e w' ⟨rfl, y2, rfl⟩) | (go_at_call 13; refine (HV.out _ (by repeat (first | exact Ext.refl _ | refine Ext.lift ?_ _ | refine Ext.alloc ?_ _))).mono ?_; rintro e w' ⟨rfl, y1, rfl⟩) | (go_at_call 15; refine (lateOk_any _ _).mono ?_; rintro e w' ⟨rfl, rfl⟩; rw [hin]))
  go_ret2
  exact ⟨rfl, (by repeat (first | exact Ext.refl _ | refine Ext.lift ?_ _ | refine Ext.alloc ?_ _))⟩
set_option maxRecDepth 100000 in
set_option maxHeartbeats 2000000 in
theorem specTeamsWorth_any (a : Option Addr) (cap : Nat) (l : List Area) (a2 : Option Addr) (cap2 : Nat) (ts : List Int) (s : Int) (w : World) (H : AreaAt w a l) (H2 : IntAt w a2 ts) (hv : validAreas l = true) (hsz : AreaSz l) (hok : TeamsOk l ts) (hs : 0 ≤ s) (hs2 : s ≤ 1000) :
    Gives Try.prog 8 #[.slice a l.length cap, .slice a2 ts.length cap2, .int .i64 s] w (.tuple #[.int .i64 (tW l ts s ts.length), .int .i64 0]) := by
  unfold Gives
  have hl8 := (validAreas_all hv).1
  have hlen := hok.len
  have HV := Lib.hid fun (W : World) (he : Ext w W) => l25Ok_any a cap l W (H.ext he) hsz (by omega)
  have HT := Lib.hid fun (W : World) (he : Ext w W) => l25Teams_any a cap l a2 cap2 ts s W (H.ext he) (H2.ext he) hok hs hs2 hl8
  have HO := Lib.hid hok.team
  have HI := Lib.hid H2
  rw [hv] at HV
  have hin : inB s 0 1000 = true := inB_iff.2 ⟨hs, hs2⟩
  have hne : ((ts.length : Int) != (l.length : Int)) = false := by rw [hlen]; simp
  have ht8 : ts.length ≤ 8 := by omega
  obtain ⟨V, hV⟩ : ∃ V, V = tW l ts s ts.length := ⟨_, rfl⟩
  rw [← hV] at HT ⊢
  clear H H2 hv hsz hok hV hlen
  go_enter Try.func8, Try.ntmps8
  go_wp2_with (first | (go_at_call 20; refine (HV.out _ (by repeat (first | exact Ext.refl _ | refine Ext.lift ?_ _ | refine Ext.alloc ?_ _))).mono ?_; rintro e w' ⟨rfl, y1, rfl⟩) | (go_at_call 21; refine (l25Late_any _ _).mono ?_; rintro e w' ⟨rfl, rfl⟩; rw [hin]))
  go_loopw [8] (fun i wr => ∃ k : Nat, k ≤ ts.length ∧ i = .int .i64 k ∧ Ext w wr) (fun i _ => ts.length - (intOf i).toNat)
  case atStart => exact ⟨0, Nat.zero_le _, rfl, (by repeat (first | exact Ext.refl _ | refine Ext.lift ?_ _ | refine Ext.alloc ?_ _))⟩
  case round =>
    obtain ⟨k, hk, rfl, he⟩ := hrel
    by_cases hlt : k < ts.length
    · obtain ⟨b, o, rfl⟩ := HI.out.base hlt
      obtain ⟨hb, c0⟩ := IntAt.at (HI.out.ext he) k hlt
      have hk4 := HO.out k hlt
      have hin3 : inB (nth ts k) 0 3 = true := inB_iff.2 ⟨hk4.1, by omega⟩
      go_wp2_with (go_at_call 22; refine (l00In_any _ _ _ _).mono ?_; rintro e w' ⟨rfl, rfl⟩; rw [hin3])
      go_roundw
      case rel => exact ⟨k + 1, by omega, by go_num, (by repeat (first | exact he | refine Ext.lift ?_ _ | refine Ext.alloc ?_ _))⟩
      case measure => simp [intOf]; omega
    · obtain rfl : k = ts.length := by omega
      go_wp2_with (go_at_call 23; refine (HT.out _ (by repeat (first | exact he | refine Ext.lift ?_ _ | refine Ext.alloc ?_ _))).mono ?_; rintro e w' ⟨rfl, y3, rfl⟩)
      go_ret2
      exact ⟨rfl, (by repeat (first | exact he | refine Ext.lift ?_ _ | refine Ext.alloc ?_ _))⟩
end Go.Proofs.Ytccbcjopmkmipaa

/- Chapter 25: MinutesOf, FoundBy, SurvivalAt and the others at orders that are valid; a draw of a byte as a value. -/
import Derived.Test.YtccbcjopmkmipaaDoorTeamsW
import Derived.Test.YtccbcjopmkmipaaDoorOptO
import Derived.Test.YtccbcjopmkmipaaDoorDelay
namespace Go.Proofs.YtccbcjopmkmipaaDoor
open Go.RowKit
theorem sums_bd {l : List Area} (h : ∀ k, k < l.length → areaB (nth l k) = true) : ∀ {k : Nat}, k ≤ l.length → (0 ≤ sumM l k ∧ sumM l k ≤ 600 * k) ∧ (0 ≤ sumC l k ∧ sumC l k ≤ 1000 * k)
  | 0, _ => by simp [sumM, sumC]
  | k + 1, hk => by
    have := sums_bd h (k := k) (by omega)
    have := areaB_parts (h k (by omega))
    simp only [sumM, sumC]; omega
theorem found_bd {l : List Area} {o : List Int} (h : WorthOk l o) (s m : Int) : ∀ {k : Nat}, k ≤ o.length → 0 ≤ foundAt l o s m k ∧ foundAt l o s m k ≤ 1000 * k
  | 0, _ => by simp [foundAt]
  | k + 1, hk => by
    have := found_bd h s m (k := k) (by omega)
    have := areaB_parts (h.pick (k := k) (by omega))
    simp only [foundAt]; split <;> omega
set_option maxRecDepth 100000 in
set_option maxHeartbeats 4000000 in
theorem implMinutesOf_any (a : Option Addr) (cap : Nat) (l : List Area) (w : World) (H : AreaAt w a l) (hv : validAreas l = true) (hsz : AreaSz l) :
    Gives Tryd.prog 8 #[.slice a l.length cap] w (.tuple #[.int .i64 (sumM l l.length), .int .i64 (sumC l l.length), .int .i64 0]) := by
  unfold Gives
  have hl8 := (validAreas_all hv).1
  have HA := Lib.hid H
  have HO : Hid (∀ k, k < l.length → areaB (nth l k) = true) := fun k hk => okAt_area ((validAreas_all hv).2.1 k hk)
  have HV := Lib.hid (ValidAreas_any a cap l w H hsz (by omega))
  rw [hv] at HV
  clear H hv hsz
  go_enter Tryd.func8, Tryd.ntmps8
  go_wp2_with (go_at_call 18; refine HV.out.mono ?_; rintro e w' ⟨rfl, y, rfl⟩)
  clear HV
  go_loopw [5, 6, 14] (fun m c i wr => ∃ k : Nat, k ≤ l.length ∧ i = .int .i64 k ∧ m = .int .i64 (sumM l k) ∧ c = .int .i64 (sumC l k) ∧ Ext w wr) (fun _ _ i _ => l.length - (intOf i).toNat)
  case atStart => exact ⟨0, Nat.zero_le _, rfl, rfl, rfl, (by repeat (first | exact Ext.refl _ | refine Ext.lift ?_ _ | refine Ext.alloc ?_ _))⟩
  case round =>
    obtain ⟨k, hk, rfl, rfl, rfl, he⟩ := hrel
    obtain ⟨⟨m0, m1⟩, c0, c1⟩ := sums_bd HO.out hk
    by_cases hlt : k < l.length
    · obtain ⟨b, off, rfl⟩ := HA.out.base hlt
      obtain ⟨hb, d0, d1, d2⟩ := Area.at (HA.out.ext he) k hlt
      obtain ⟨-, e0, e1, e2, e3⟩ := areaB_parts (HO.out k hlt)
      have hE := Lib.hid he
      clear he
      go_wp2_with fail
      refine region_quiet (by kernel_rfl) (by kernel_rfl) ?_
      repeat (any_goals (first | go_big_quiet_step ((fail)) | quiet_step ((fail))))
      refine wpQuiet_nil ?_
      intro _ hw'
      obtain ⟨y, hw''⟩ := hw'
      subst hw''
      go_wp2_with fail
      go_roundw
      case rel => exact ⟨k + 1, by omega, by go_num, rfl, rfl, (by repeat (first | exact hE.out | refine Ext.lift ?_ _ | refine Ext.alloc ?_ _))⟩
      case measure => simp [intOf]; omega
    · obtain rfl : k = l.length := by omega
      go_wp2_with fail
      go_ret3
      exact ⟨rfl, he⟩
set_option maxRecDepth 100000 in
theorem implSurvivalAt_any (m : Int) (w : World) (h0 : 0 ≤ m) (h1 : m ≤ 1000) :
    Gives Tryd.prog 13 #[.int .i64 m] w (.tuple #[.int .i64 (surv m), .int .i64 0]) := by
  unfold Gives
  have hin : inB m 0 1000 = true := inB_iff.2 ⟨h0, h1⟩
  go_enter Tryd.func13, Tryd.ntmps13
  go_wp2_with (first | (go_at_call 27; refine (survivalAt_any m _ h0 (by omega)).mono ?_; rintro e w' ⟨rfl, y1, rfl⟩) | (go_at_call 19; refine (lateOk_any _ _).mono ?_; rintro e w' ⟨rfl, rfl⟩; rw [hin]))
  go_ret2
  exact ⟨rfl, (by repeat (first | exact Ext.refl _ | refine Ext.lift ?_ _ | refine Ext.alloc ?_ _))⟩
set_option maxRecDepth 100000 in
set_option maxHeartbeats 4000000 in
theorem implFoundBy_any (a : Option Addr) (cap : Nat) (l : List Area) (a2 : Option Addr) (cap2 : Nat) (ord : List Int) (s m : Int) (w : World) (H : AreaAt w a l) (hsz : AreaSz l) (H2 : IntAt w a2 ord) (hv : validAreas l = true) (ho : orderB l.length ord = true) (hl : ord.length = l.length) (hcap : l.length ≤ cap2)
    (hs : 0 ≤ s) (hs2 : s ≤ 1000) (hm : 0 ≤ m) (hm2 : m ≤ 1000) :
    Gives Tryd.prog 12 #[.slice a l.length cap, .slice a2 ord.length cap2, .int .i64 s, .int .i64 m] w (.tuple #[.int .i64 (foundAt l ord s m ord.length), .int .i64 0]) := by
  unfold Gives
  have hl8 := (validAreas_all hv).1
  have hE : Hid (Ext w (w.alloc (.cells #[.int .i64 s, .int .i64 m] 2))) := (Ext.refl w).alloc _
  have HC := Lib.hid (areasCode_any a cap l a2 cap2 ord (some ⟨w.heap.size, 0, none⟩) 2 [s, m] _ (H.ext hE.out) hsz (H2.ext hE.out) (intAt_two w s m) (by omega) (by omega) (by omega) (by simp))
  rw [allIn_two, inB_iff.2 ⟨hs, hs2⟩, inB_iff.2 ⟨hm, hm2⟩, Bool.and_true, order_ask hv rfl ho] at HC
  have HO := Lib.hid (InMany.worth hv (orderB_in ho))
  have HA := Lib.hid H
  have HI := Lib.hid H2
  have ho8 : ord.length ≤ 8 := by omega
  clear H H2 hv ho hl hsz
  go_enter Tryd.func12, Tryd.ntmps12
  go_wp2_with fail
  refine HC.out.mono ?_
  rintro e w' ⟨rfl, y, rfl⟩
  clear HC
  go_wp2_with fail
  go_loopw [2, 11, 25] (fun st fo i wr => ∃ k : Nat, k ≤ ord.length ∧ i = .int .i64 k ∧ st = .int .i64 (endAt l ord s k) ∧ fo = .int .i64 (foundAt l ord s m k) ∧ Ext w wr) (fun _ _ i _ => ord.length - (intOf i).toNat)
  case atStart => exact ⟨0, Nat.zero_le _, rfl, rfl, rfl, (by repeat (first | exact Ext.refl _ | refine Ext.lift ?_ _ | refine Ext.alloc ?_ _))⟩
  case round =>
    obtain ⟨k, hk, rfl, rfl, rfl, he⟩ := hrel
    obtain ⟨e0, e1⟩ := HO.out.end_bd s (k := k) hk
    obtain ⟨g0, g1⟩ := found_bd HO.out s m (k := k) hk
    by_cases hlt : k < ord.length
    · obtain ⟨b2, off2, rfl⟩ := HI.out.base hlt
      obtain ⟨hb2, d0⟩ := IntAt.at (HI.out.ext he) k hlt
      obtain ⟨i0, i1⟩ := HO.out.ord k hlt
      obtain ⟨q, hq⟩ := Int.eq_ofNat_of_zero_le i0
      have hql : q < l.length := by omega
      obtain ⟨b, off, rfl⟩ := HA.out.base hql
      obtain ⟨hb, c0, c1, c2⟩ := Area.at (HA.out.ext he) q hql
      have hp : Hid (pickA l ord k = nth l q) := by show _ = _; unfold pickA; rw [hq]; rfl
      obtain ⟨-, t0, t1, m0, m1⟩ := areaB_parts (HO.out.area q hql)
      have hEn : Hid (endAt l ord s (k + 1) = endAt l ord s k + (nth l q).minutes) := by show _ = _; rw [← hp.out]; rfl
      rw [hq] at d0
      have hX := Lib.hid he
      by_cases hle : endAt l ord s k + (nth l q).minutes ≤ m
      · have hF : Hid (foundAt l ord s m (k + 1) = foundAt l ord s m k + (nth l q).chance) := by show _ = _; simp only [foundAt]; rw [hEn.out, if_pos hle, hp.out]
        clear i0 i1 hq he
        go_wp2_with fail
        go_roundw
        case rel => exact ⟨k + 1, by omega, by go_num, by rw [hEn.out], by rw [hF.out], (by repeat (first | exact hX.out | refine Ext.lift ?_ _ | refine Ext.alloc ?_ _))⟩
        case measure => simp [intOf]; omega
      · have hF : Hid (foundAt l ord s m (k + 1) = foundAt l ord s m k) := by show _ = _; simp only [foundAt]; rw [hEn.out, if_neg hle]; omega
        clear i0 i1 hq he
        go_wp2_with fail
        go_roundw
        case rel => exact ⟨k + 1, by omega, by go_num, by rw [hEn.out], by rw [hF.out], (by repeat (first | exact hX.out | refine Ext.lift ?_ _ | refine Ext.alloc ?_ _))⟩
        case measure => simp [intOf]; omega
    · obtain rfl : k = ord.length := by omega
      go_wp2_with fail
      go_ret2
      exact ⟨rfl, he⟩
/-- An order of all areas: what the law needs to know. -/
structure AllOrd (l : List Area) (o : List Int) : Prop where
  valid : validAreas l = true
  order : orderB l.length o = true
  len : o.length = l.length
theorem implWorthOf_all (a : Option Addr) (cap : Nat) (l : List Area) (a2 : Option Addr) (cap2 : Nat) (o : List Int) (s : Int) (w : World) (H : AreaAt w a l) (hsz : AreaSz l) (H2 : IntAt w a2 o) (h : AllOrd l o) (hcap : l.length ≤ cap2) (hs : 0 ≤ s) (hs2 : s ≤ 1000) :
    Gives Tryd.prog 10 #[.slice a l.length cap, .slice a2 l.length cap2, .int .i64 s] w (.tuple #[.int .i64 (worthAt l o s l.length), .int .i64 0]) := by
  have h8 := (validAreas_all h.valid).1
  have e := order_ask h.valid (inB_iff.2 ⟨hs, hs2⟩) h.order
  have := implWorthOf_any a cap l a2 cap2 o s w H hsz H2 (by omega) (by rw [h.len]; omega) (by rw [h.len]; exact hcap)
  unfold worthV at this
  rwa [if_pos e, e, h.len] at this
theorem specWorthOf_all (a : Option Addr) (cap : Nat) (l : List Area) (a2 : Option Addr) (cap2 : Nat) (o : List Int) (s : Int) (w : World) (H : AreaAt w a l) (hsz : AreaSz l) (H2 : IntAt w a2 o) (h : AllOrd l o) (hcap : l.length ≤ cap2) (hs : 0 ≤ s) (hs2 : s ≤ 1000) :
    Gives Tryd.prog 9 #[.slice a l.length cap, .slice a2 l.length cap2, .int .i64 s] w (.tuple #[.int .i64 (worthAt l o s l.length), .int .i64 0]) := by
  have h8 := (validAreas_all h.valid).1
  have e := order_ask h.valid (inB_iff.2 ⟨hs, hs2⟩) h.order
  have := specWorthOf_any a cap l a2 cap2 o s w H hsz H2 (by omega) (by rw [h.len]; omega) (by rw [h.len]; exact hcap)
  unfold worthV at this
  rwa [if_pos e, e, h.len] at this
theorem implDelayCost_all (a : Option Addr) (cap : Nat) (l : List Area) (a2 : Option Addr) (cap2 : Nat) (o : List Int) (s d : Int) (w : World) (H : AreaAt w a l) (hsz : AreaSz l) (H2 : IntAt w a2 o) (h : AllOrd l o) (hcap : l.length ≤ cap2) (hs : 0 ≤ s) (hs2 : s ≤ 1000) (hd : 0 ≤ d) (hd2 : d ≤ 1000) :
    Gives Tryd.prog 11 #[.slice a l.length cap, .slice a2 l.length cap2, .int .i64 s, .int .i64 d] w (.tuple #[.int .i64 (worthAt l o s l.length - worthAt l o (s + d) l.length), .int .i64 0]) := by
  have h8 := (validAreas_all h.valid).1
  have hb : (inB s 0 1000 && inB d 0 1000) = true := by rw [inB_iff.2 ⟨hs, hs2⟩, inB_iff.2 ⟨hd, hd2⟩]; rfl
  have e := order_ask h.valid hb h.order
  have := implDelayCost_any a cap l a2 cap2 o s d w H hsz H2 (by omega) (by rw [h.len]; omega) (by rw [h.len]; exact hcap)
  unfold delayV at this
  rwa [if_pos e, e, h.len] at this
theorem implFoundBy_all (a : Option Addr) (cap : Nat) (l : List Area) (a2 : Option Addr) (cap2 : Nat) (o : List Int) (s m : Int) (w : World) (H : AreaAt w a l) (hsz : AreaSz l) (H2 : IntAt w a2 o) (h : AllOrd l o) (hcap : l.length ≤ cap2) (hs : 0 ≤ s) (hs2 : s ≤ 1000) (hm : 0 ≤ m) (hm2 : m ≤ 1000) :
    Gives Tryd.prog 12 #[.slice a l.length cap, .slice a2 l.length cap2, .int .i64 s, .int .i64 m] w (.tuple #[.int .i64 (foundAt l o s m o.length), .int .i64 0]) := by
  have := implFoundBy_any a cap l a2 cap2 o s m w H hsz H2 h.valid h.order h.len hcap hs hs2 hm hm2
  rwa [show (Value.slice a2 o.length cap2) = .slice a2 l.length cap2 by rw [h.len]] at this
set_option maxRecDepth 100000 in
set_option maxHeartbeats 2000000 in
theorem r8At_det (a : Option Addr) (cap : Nat) (code : List Int) (hr : ∀ k, k < code.length → 0 ≤ nth code k ∧ nth code k ≤ 255) (k : Nat) (m : Int) (hm : m ≤ 65536) :
    ∃ r : Int, 0 ≤ r ∧ (1 ≤ m → r < m) ∧ ∀ w, ByteAt w a code → Calls Tryd.prog 6 #[.slice a code.length cap, .int .i64 k, .int .i64 m] w fun e w' => e = .returned (.int .i64 r) ∧ Ext w w' := by
  have HR := Lib.hid hr
  clear hr
  rcases Int.lt_or_le 1 m with h1 | h1
  case inr =>
    refine ⟨0, Int.le_refl _, fun h => by omega, fun w H => ?_⟩
    clear H
    go_enter Tryd.func6, Tryd.ntmps6
    go_wp2_with fail
    go_ret
    exact ⟨rfl, Ext.refl _⟩
  rcases Nat.lt_or_ge k code.length with h2 | h2
  · obtain ⟨r0, r1⟩ := HR.out k h2
    refine ⟨nth code k % m, Int.emod_nonneg _ (by omega), fun _ => Int.emod_lt_of_pos _ (by omega), fun w H => ?_⟩
    have HB := Lib.hid H
    clear H
    obtain ⟨cb, co, rfl⟩ := HB.out.base h2
    obtain ⟨hcb, d0⟩ := ByteAt.at HB.out k h2
    have htm : Hid (Int.tmod (nth code k) m = nth code k % m) := Int.tmod_eq_emod_of_nonneg r0
    go_enter Tryd.func6, Tryd.ntmps6
    go_wp2_with fail
    go_ret
    exact ⟨by first | rfl | rw [htm.out], (by repeat (first | exact Ext.refl _ | refine Ext.lift ?_ _ | refine Ext.alloc ?_ _))⟩
  · refine ⟨0, Int.le_refl _, fun h => by omega, fun w H => ?_⟩
    clear H
    go_enter Tryd.func6, Tryd.ntmps6
    go_wp2_with fail
    go_ret
    exact ⟨rfl, Ext.refl _⟩
end Go.Proofs.YtccbcjopmkmipaaDoor

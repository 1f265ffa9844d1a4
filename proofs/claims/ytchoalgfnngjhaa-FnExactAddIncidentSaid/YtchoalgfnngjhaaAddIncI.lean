/- An incident more: what the program's AddIncident hands back. -/
import Derived.Test.YtchoalgfnngjhaaAddInc
import Derived.Deep.RegionWith
namespace Go.Proofs.Ytchoalgfnngjhaa
open Go.RowKit
set_option maxRecDepth 100000 in
set_option maxHeartbeats 8000000 in
theorem implAddIncident_any (w : World) (a : Option Addr) (cap : Nat) (l : List Incident) (H : IncidentAt w a l) (hsz : ∀ k, k < l.length → (nth l k).Small) (hn : l.length ≤ 1048576) (hcap : l.length ≤ cap) (x : Incident) (hx : x.Small) :
    Calls Try.prog 41 #[.slice a l.length cap, .agg #[.int .i64 x.day, .string x.place, .string x.cause, .int .i64 x.level, .int .i64 x.caught, .int .i64 x.buried]] w (OutS 71 6 Incident.cell w (addInc l x) [.int .i64 (addIncC l x)]) := by
  have _ := hcap
  have _ := hx
  have HA := Lib.hid H
  have HV := Lib.hid fun (w' : World) (he : Ext w w') => ValidIncidents_any a cap l w' (H.ext he) hsz hn
  have HO := Lib.hid fun (w' : World) => Incident_validS x w' hx
  have hne : Hid (addIncC l x ≠ 0 → addInc l x = []) := fun h => addV_no h
  have hyes : Hid (addIncC l x = 0 → addInc l x = l.take (lowB (incC x) l) ++ x :: l.drop (lowB (incC x) l)) := fun h => addV_yes h
  obtain ⟨C, hC⟩ : ∃ C, C = addIncC l x := ⟨_, rfl⟩
  obtain ⟨V, hV⟩ : ∃ V, V = addInc l x := ⟨_, rfl⟩
  rw [← hC, ← hV]
  have hCh := Lib.hid hC
  have hVh := Lib.hid hV
  clear H hsz hC hV
  cases h1 : incidentList l
  · have hc : Hid (C = 1) := hCh.out.trans (addC_1 h1)
    have hv : Hid (V = []) := hVh.out.trans (hne.out (by rw [← hCh.out, hc.out]; decide))
    rw [h1] at HV
    clear h1
    go_enter Try.func41, Try.ntmps41
    go_wp2_with (go_at_call 99; refine (HV.out _ (by repeat (first | exact Ext.refl _ | refine Ext.lift ?_ _ | refine Ext.alloc ?_ _))).mono ?_; rintro e w' ⟨rfl, y, rfl⟩)
    go_ret2
    rw [hc.out, hv.out]
    exact OutS.nil (T := 71) none 0 rfl (by repeat (first | exact Ext.refl _ | refine Ext.lift ?_ _ | refine Ext.alloc ?_ _))
  rw [h1] at HV
  have HB := Lib.hid fun (w' : World) (he : Ext w w') => BSIncident_any a cap l 101 x (incC x) w' (enters_of Try.func101 (by kernel_rfl) rfl) (HA.out.ext he) hn (fun k w'' hk he2 => compareIncidents_any (nth l k) x w'') (inc_mono h1 x)
  have HCl := Lib.hid fun (W : World) (he : Ext w W) => CloneIncident_any a cap l W (HA.out.ext he) hn
  have hS := Lib.hid h1
  clear h1
  have hkl : lowB (incC x) l ≤ l.length := posOf_le _ _
  obtain ⟨k, hk⟩ : ∃ k, k = lowB (incC x) l := ⟨_, rfl⟩
  have hkh := Lib.hid hk
  rw [← hk] at HB hkl
  clear hk
  obtain ⟨t, ht⟩ : ∃ t, t = hitB (incC x) l := ⟨_, rfl⟩
  have hth := Lib.hid ht
  rw [← ht] at HB
  clear ht
  cases h2 : incidentB x
  · have hc : Hid (C = 2) := hCh.out.trans (addC_2 hS.out h2)
    have hv : Hid (V = []) := hVh.out.trans (hne.out (by rw [← hCh.out, hc.out]; decide))
    rw [h2] at HO
    go_enter Try.func41, Try.ntmps41
    go_wp2_with (first | (go_at_call 99; refine (HV.out _ (by repeat (first | exact Ext.refl _ | refine Ext.lift ?_ _ | refine Ext.alloc ?_ _))).mono ?_; rintro e w' ⟨rfl, y, rfl⟩) | (go_at_call 100; refine (HB.out _ (by repeat (first | exact Ext.refl _ | refine Ext.lift ?_ _ | refine Ext.alloc ?_ _))).mono ?_; rintro e w' ⟨rfl, y, rfl⟩) | (go_at_call 102; refine (HO.out _).mono ?_; rintro e w' ⟨rfl, y, rfl⟩))
    go_ret2
    rw [hc.out, hv.out]
    exact OutS.nil (T := 71) none 0 rfl (by repeat (first | exact Ext.refl _ | refine Ext.lift ?_ _ | refine Ext.alloc ?_ _))
  rw [h2] at HO
  cases h3 : t
  · rw [h3] at HB hth
    by_cases h48 : l.length = 48
    · have hc : Hid (C = 5) := hCh.out.trans (addC_5 hS.out h2 hth.out.symm h48)
      have hv : Hid (V = []) := hVh.out.trans (hne.out (by rw [← hCh.out, hc.out]; decide))
      have h48' : ((l.length : Int) == 48) = true := by rw [h48]; rfl
      clear h48 h2
      go_enter Try.func41, Try.ntmps41
      go_wp2_with (first | (go_at_call 99; refine (HV.out _ (by repeat (first | exact Ext.refl _ | refine Ext.lift ?_ _ | refine Ext.alloc ?_ _))).mono ?_; rintro e w' ⟨rfl, y, rfl⟩) | (go_at_call 100; refine (HB.out _ (by repeat (first | exact Ext.refl _ | refine Ext.lift ?_ _ | refine Ext.alloc ?_ _))).mono ?_; rintro e w' ⟨rfl, y, rfl⟩) | (go_at_call 102; refine (HO.out _).mono ?_; rintro e w' ⟨rfl, y, rfl⟩))
      go_ret2
      rw [hc.out, hv.out]
      exact OutS.nil (T := 71) none 0 rfl (by repeat (first | exact Ext.refl _ | refine Ext.lift ?_ _ | refine Ext.alloc ?_ _))
    · have hc : Hid (C = 0) := hCh.out.trans (addC_0 hS.out h2 hth.out.symm h48)
      have hv := Lib.hid (hVh.out.trans (hyes.out (by rw [← hCh.out, hc.out])))
      have h48' : ((l.length : Int) == 48) = false := by rw [beq_eq_false_iff_ne]; omega
      rw [← hkh.out] at hv
      clear h48 h2 HA hne hyes hCh hVh hth hkh
      go_enter Try.func41, Try.ntmps41
      repeat (first | (go_at_call 99; refine (HV.out _ (by repeat (first | exact Ext.refl _ | refine Ext.lift ?_ _ | refine Ext.alloc ?_ _))).mono ?_; rintro e w' ⟨rfl, y, rfl⟩; try dsimp only) | (go_at_call 100; refine (HB.out _ (by repeat (first | exact Ext.refl _ | refine Ext.lift ?_ _ | refine Ext.alloc ?_ _))).mono ?_; rintro e w' ⟨rfl, y, rfl⟩; try dsimp only) | (go_at_call 102; refine (HO.out _).mono ?_; rintro e w' ⟨rfl, y, rfl⟩; try dsimp only) | go_values | go_skip | go_guarded | go_step | go_upon | go_back)
      clear HV HB HO
      go_region_with (first
        | (go_at_call 104; refine (HCl.out _ (by repeat (first | with_reducible exact Ext.refl _ | with_reducible refine Ext.lift ?_ _ | with_reducible refine Ext.alloc ?_ _ | with_reducible refine Ext.drew ?_ | with_reducible refine Ext.setCell ?_ (by first | (simp; done) | (simp; omega) | omega) _))).mono ?_; rintro e w1 ⟨cv, rfl, L, yc, rfl⟩; have LC := Lib.hid L; clear L)
        | (go_at_call 103; refine (InsertIncident_any _ l _ k _ _ x _ _ _ (LC.out.ext (by repeat (first | with_reducible exact Ext.refl _ | with_reducible refine Ext.lift ?_ _ | with_reducible refine Ext.alloc ?_ _ | with_reducible refine Ext.drew ?_ | with_reducible refine Ext.setCell ?_ (by first | (simp; done) | (simp; omega) | omega) _))) (by first | omega | (simp; done) | (simp; omega)) hkl hn (by (try simp only [drew_heap]); first | exact alloc_get _ _ _ (by first | omega | rfl | (simp; done) | (simp; omega)) | (rw [lift_block _ _ _ (by first | omega | (simp; done) | (simp; omega))]; (try simp only [drew_heap]); exact alloc_get _ _ _ (by first | omega | rfl | (simp; done) | (simp; omega)))) (fun j hj => by rcases (show j = 0 ∨ j = 1 ∨ j = 2 ∨ j = 3 ∨ j = 4 ∨ j = 5 by omega) with rfl | rfl | rfl | rfl | rfl | rfl <;> rfl) (fun e => by have h1 := ownsRow_lt LC.out _ e; have h2 := ownBlock_le LC.out _ e; first | omega | (simp at h1 <;> omega) | (simp at h2 <;> omega) | (simp at h1 h2 <;> omega))).mono ?_; rintro e w3 ⟨v3, rfl, L3, S3⟩; have L3h := Lib.hid L3; have S3h := Lib.hid (S3 w (by repeat (first | with_reducible exact Ext.refl _ | with_reducible refine Ext.lift ?_ _ | with_reducible refine Ext.alloc ?_ _ | with_reducible refine Ext.drew ?_ | with_reducible refine Ext.setCell ?_ (by first | (simp; done) | (simp; omega) | omega) _)) (by first | omega | (simp; done) | (simp; omega))); have Z3 : Hid _ := Lib.hid (ownBlock_le L3); clear L3 S3))
      all_goals
        obtain ⟨aa, cc, rfl, hcc, -, RR, OO⟩ := L3h.out.shape
        have OO2 := Lib.hid (OO.mono (base' := w.heap.size) (by first | omega | (simp; done) | (simp; omega)))
        clear OO Z3 LC HCl
        go_wp2_with fail
        go_ret2
        rw [hc.out, hv.out]
        exact ⟨aa, cc, rfl, hcc, OO2.out, RR, S3h.out⟩
  · rw [h3] at HB hth
    have hc : Hid (C = 4) := hCh.out.trans (addC_4 hS.out h2 hth.out.symm)
    have hv : Hid (V = []) := hVh.out.trans (hne.out (by rw [← hCh.out, hc.out]; decide))
    clear h2
    go_enter Try.func41, Try.ntmps41
    go_wp2_with (first | (go_at_call 99; refine (HV.out _ (by repeat (first | exact Ext.refl _ | refine Ext.lift ?_ _ | refine Ext.alloc ?_ _))).mono ?_; rintro e w' ⟨rfl, y, rfl⟩) | (go_at_call 100; refine (HB.out _ (by repeat (first | exact Ext.refl _ | refine Ext.lift ?_ _ | refine Ext.alloc ?_ _))).mono ?_; rintro e w' ⟨rfl, y, rfl⟩) | (go_at_call 102; refine (HO.out _).mono ?_; rintro e w' ⟨rfl, y, rfl⟩))
    go_ret2
    rw [hc.out, hv.out]
    exact OutS.nil (T := 71) none 0 rfl (by repeat (first | exact Ext.refl _ | refine Ext.lift ?_ _ | refine Ext.alloc ?_ _))
end Go.Proofs.Ytchoalgfnngjhaa

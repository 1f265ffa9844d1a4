/- A watch more: what the program's AddWatch hands back. -/
import Derived.Test.YtchoalgfnngjhaaAddWat
import Derived.Deep.RegionWith
namespace Go.Proofs.Ytchoalgfnngjhaa
open Go.RowKit
set_option maxRecDepth 100000 in
set_option maxHeartbeats 8000000 in
theorem implAddWatch_any (w : World) (a : Option Addr) (cap : Nat) (l : List Watch) (H : WatchAt w a l) (hsz : ∀ k, k < l.length → (nth l k).Small) (hn : l.length ≤ 1048576) (hcap : l.length ≤ cap) (x : Watch) (hx : x.Small) :
    Calls Try.prog 32 #[.slice a l.length cap, .agg #[.string x.person, .int .i64 x.start, .int .i64 x.hours, .bool x.call]] w (OutS 57 4 Watch.cell w (addWat l x) [.int .i64 (addWatC l x)]) := by
  have _ := hcap
  have HA := Lib.hid H
  have HV := Lib.hid fun (w' : World) (he : Ext w w') => ValidWatches_any a cap l w' (H.ext he) hsz hn
  have HO := Lib.hid fun (w' : World) => Watch_validS x w' hx
  obtain ⟨C, hC⟩ : ∃ C, C = addWatC l x := ⟨_, rfl⟩
  obtain ⟨VR, hVR⟩ : ∃ VR, VR = addWat l x := ⟨_, rfl⟩
  obtain ⟨V, hV⟩ : ∃ V, V = addWl l x := ⟨_, rfl⟩
  have hS2 : Hid (∀ j, j < V.length → (nth V j).Small) := by rw [hV]; exact addL_all (p := Watch.Small) hsz hx
  have hVl : V.length ≤ l.length + 1 := by rw [hV]; exact addWl_len l x
  have hv : Hid (V = l.take (lowB (watC x) l) ++ x :: l.drop (lowB (watC x) l)) := hV
  rw [← hC, ← hVR]
  have hCh := Lib.hid hC
  have hVh := Lib.hid hVR
  clear H hsz hC hVR
  cases h1 : watList l
  · have hc := Lib.hid (addW_1 (x := x) h1)
    rw [h1] at HV
    clear h1 hV
    go_enter Try.func32, Try.ntmps32
    go_wp2_with (go_at_call 88; refine (HV.out _ (by repeat (first | exact Ext.refl _ | refine Ext.lift ?_ _ | refine Ext.alloc ?_ _))).mono ?_; rintro e w' ⟨rfl, y, rfl⟩)
    go_ret2
    rw [hCh.out, hVh.out, hc.out.1, hc.out.2]
    exact OutS.nil (T := 57) none 0 rfl (by repeat (first | exact Ext.refl _ | refine Ext.lift ?_ _ | refine Ext.alloc ?_ _))
  rw [h1] at HV
  cases h2 : watchB x
  · have hc := Lib.hid (addW_2 h1 h2)
    rw [h2] at HO
    clear h1 hV h2
    go_enter Try.func32, Try.ntmps32
    go_wp2_with (first | (go_at_call 88; refine (HV.out _ (by repeat (first | exact Ext.refl _ | refine Ext.lift ?_ _ | refine Ext.alloc ?_ _))).mono ?_; rintro e w' ⟨rfl, y, rfl⟩) | (go_at_call 89; refine (HO.out _).mono ?_; rintro e w' ⟨rfl, y, rfl⟩))
    go_ret2
    rw [hCh.out, hVh.out, hc.out.1, hc.out.2]
    exact OutS.nil (T := 57) none 0 rfl (by repeat (first | exact Ext.refl _ | refine Ext.lift ?_ _ | refine Ext.alloc ?_ _))
  rw [h2] at HO
  by_cases h48 : l.length = 32
  · have hc := Lib.hid (addW_5 h1 h2 h48)
    have h48' : ((l.length : Int) == 32) = true := by rw [h48]; rfl
    clear h48 h1 hV h2
    go_enter Try.func32, Try.ntmps32
    go_wp2_with (first | (go_at_call 88; refine (HV.out _ (by repeat (first | exact Ext.refl _ | refine Ext.lift ?_ _ | refine Ext.alloc ?_ _))).mono ?_; rintro e w' ⟨rfl, y, rfl⟩) | (go_at_call 89; refine (HO.out _).mono ?_; rintro e w' ⟨rfl, y, rfl⟩))
    go_ret2
    rw [hCh.out, hVh.out, hc.out.1, hc.out.2]
    exact OutS.nil (T := 57) none 0 rfl (by repeat (first | exact Ext.refl _ | refine Ext.lift ?_ _ | refine Ext.alloc ?_ _))
  have hc6 : Hid (watList V = false → addWatC l x = 6 ∧ addWat l x = []) := fun h => addW_6 h1 h2 h48 (by rw [← hV]; exact h)
  have hc0 : Hid (watList V = true → addWatC l x = 0 ∧ addWat l x = V) := fun h => by rw [hV]; exact addW_0 h1 h2 h48 (by rw [← hV]; exact h)
  have h48' : ((l.length : Int) == 32) = false := by rw [beq_eq_false_iff_ne]; omega
  have hl32 : l.length ≤ 32 := vAll_len_le (show vAll watchB watOrd 32 l = true from h1)
  have HB := Lib.hid fun (w' : World) (he : Ext w w') => BSWatch_any a cap l 91 x (watC x) w' (enters_of Try.func91 (by kernel_rfl) rfl) (HA.out.ext he) hn (fun k w'' hk he2 => compareWatches_any (nth l k) x w'') (wat_mono h1 x)
  have HCl := Lib.hid fun (W : World) (he : Ext w W) => CloneWatch_any a cap l W (HA.out.ext he) hn
  have hkl : lowB (watC x) l ≤ l.length := posOf_le _ _
  obtain ⟨k, hk⟩ : ∃ k, k = lowB (watC x) l := ⟨_, rfl⟩
  rw [← hk] at HB hkl hv
  obtain ⟨t, ht⟩ : ∃ t, t = hitB (watC x) l := ⟨_, rfl⟩
  rw [← ht] at HB
  clear h1 h48 h2 HA hk ht hV
  go_enter Try.func32, Try.ntmps32
  repeat (first | ((go_at_call 88; refine (HV.out _ (by repeat (first | exact Ext.refl _ | refine Ext.lift ?_ _ | refine Ext.alloc ?_ _))).mono ?_; rintro e w' ⟨rfl, y, rfl⟩; try dsimp only)) | ((go_at_call 89; refine (HO.out _).mono ?_; rintro e w' ⟨rfl, y, rfl⟩; try dsimp only)) | ((go_at_call 90; refine (HB.out _ (by repeat (first | exact Ext.refl _ | refine Ext.lift ?_ _ | refine Ext.alloc ?_ _))).mono ?_; rintro e w' ⟨rfl, y, rfl⟩; try dsimp only)) | go_values | go_skip | go_guarded | go_step | go_upon | go_back)
  clear HV HB HO
  go_region_with (first
    | (go_at_call 93; refine (HCl.out _ (by repeat (first | with_reducible exact Ext.refl _ | with_reducible refine Ext.lift ?_ _ | with_reducible refine Ext.alloc ?_ _ | with_reducible refine Ext.drew ?_ | with_reducible refine Ext.setCell ?_ (by first | (simp; done) | (simp; omega) | omega) _))).mono ?_; rintro e w1 ⟨cv, rfl, L, yc, rfl⟩; have LC := Lib.hid L; clear L)
    | (go_at_call 92; refine (InsertWatch_any _ l _ k _ _ x _ _ _ (LC.out.ext (by repeat (first | with_reducible exact Ext.refl _ | with_reducible refine Ext.lift ?_ _ | with_reducible refine Ext.alloc ?_ _ | with_reducible refine Ext.drew ?_ | with_reducible refine Ext.setCell ?_ (by first | (simp; done) | (simp; omega) | omega) _))) (by first | omega | (simp; done) | (simp; omega)) hkl hn (by (try simp only [drew_heap]); first | exact alloc_get _ _ _ (by first | omega | rfl | (simp; done) | (simp; omega)) | (rw [lift_block _ _ _ (by first | omega | (simp; done) | (simp; omega))]; (try simp only [drew_heap]); exact alloc_get _ _ _ (by first | omega | rfl | (simp; done) | (simp; omega)))) (fun j hj => by rcases (show j = 0 ∨ j = 1 ∨ j = 2 ∨ j = 3 by omega) with rfl | rfl | rfl | rfl <;> rfl) (fun e => by have h1 := ownsRow_lt LC.out _ e; have h2 := ownBlock_le LC.out _ e; first | omega | (simp at h1 <;> omega) | (simp at h2 <;> omega) | (simp at h1 h2 <;> omega))).mono ?_; rintro e w3 ⟨v3, rfl, L3, S3⟩; have L3h := Lib.hid L3; have S3h := Lib.hid (S3 w (by repeat (first | with_reducible exact Ext.refl _ | with_reducible refine Ext.lift ?_ _ | with_reducible refine Ext.alloc ?_ _ | with_reducible refine Ext.drew ?_ | with_reducible refine Ext.setCell ?_ (by first | (simp; done) | (simp; omega) | omega) _)) (by first | omega | (simp; done) | (simp; omega))); clear L3 S3))
  all_goals
    rw [← hv.out] at L3h
    obtain ⟨aa, cc, rfl, hcc, -, RR, OO⟩ := L3h.out.shape
    have OO2 := Lib.hid (OO.mono (base' := w.heap.size) (by first | omega | (simp; done) | (simp; omega)))
    have HV2 := Lib.hid (ValidWatches_any aa cc V w3 RR hS2.out (by omega))
    have RRh := Lib.hid RR
    clear OO LC HCl RR L3h
    cases h6 : watList V
    · rw [h6] at HV2
      have hc := Lib.hid (hc6.out h6)
      go_wp2_with fail
      refine HV2.out.mono ?_
      rintro e w' ⟨rfl, y6, rfl⟩
      go_wp2_with fail
      go_ret2
      rw [hCh.out, hVh.out, hc.out.1, hc.out.2]
      exact OutS.nil (T := 57) none 0 rfl (S3h.out.lift _)
    · rw [h6] at HV2
      have hc := Lib.hid (hc0.out h6)
      go_wp2_with fail
      refine HV2.out.mono ?_
      rintro e w' ⟨rfl, y6, rfl⟩
      go_wp2_with fail
      go_ret2
      rw [hCh.out, hVh.out, hc.out.1, hc.out.2]
      exact ⟨aa, cc, rfl, hcc, OO2.out.ext ((Ext.refl _).lift _), RRh.out.ext ((Ext.refl _).lift _), S3h.out.lift _⟩
end Go.Proofs.Ytchoalgfnngjhaa

/- Chapter 22: AllShots of the program and of the reference. -/
import Derived.Test.YtpmbaemfpkcjnaaBest
import Derived.OwnWalk
namespace Go.Proofs.Ytpmbaemfpkcjnaa
open Go.RowKit
theorem askB_1 {l : List Shot} {c b : Int} (h1 : shotList l = false) : askB l c b = 1 := by unfold askB; rw [h1]; rfl
theorem askB_2 {l : List Shot} {c b : Int} (h1 : shotList l = true) (h2 : inB c 1 3 = false) : askB l c b = 2 := by unfold askB; rw [h1, h2]; rfl
theorem askB_3 {l : List Shot} {c b : Int} (h1 : shotList l = true) (h2 : inB c 1 3 = true) (h3 : inB b 1 20000 = false) : askB l c b = 2 := by unfold askB; rw [h1, h2, h3]; rfl
theorem askB_0 {l : List Shot} {c b : Int} (h1 : shotList l = true) (h2 : inB c 1 3 = true) (h3 : inB b 1 20000 = true) : askB l c b = 0 := by unfold askB; rw [h1, h2, h3]; rfl
theorem budgetValid_any (n : Int) (w : World) : Calls Try.prog 27 #[.int .i64 n] w fun e w' => e = .returned (.bool (inB n 1 20000)) ∧ w' = w := by
  go_enter Try.func27, Try.ntmps27
  go_wp2_with (go_at_call 42; refine (within_any _ _ _ _).mono ?_; rintro e w' ⟨rfl, rfl⟩)
  go_ret
  exact ⟨rfl, rfl⟩
set_option maxRecDepth 100000 in
set_option maxHeartbeats 4000000 in
theorem implAllShots_any (w : World) (a : Option Addr) (cap : Nat) (l : List Shot) (H : ShotAt w a l) (hsz : ∀ k, k < l.length → (nth l k).Small) (hn : l.length ≤ 1048576) (hcap : l.length ≤ cap) (c b : Int) :
    Calls Try.prog 15 #[.slice a l.length cap, .int .i64 c, .int .i64 b] w (OutS 2 1 (fun (x : Int) (_ : Nat) => Value.int .i64 x) w (allSV l c b) [.int .i64 (allSC l c b)]) := by
  have HA := Lib.hid H
  have HV := Lib.hid (ValidShots_any a cap l w H hsz hn)
  clear H hsz
  cases h1 : shotList l
  · have hv := Lib.hid (allS_no (l := l) (c := c) (b := b) (by rw [askB_1 h1]; decide))
    have hk := Lib.hid (askB_1 (c := c) (b := b) h1)
    rw [h1] at HV
    clear h1
    go_enter Try.func15, Try.ntmps15
    go_wp2_with fail
    refine HV.out.mono ?_
    rintro e w' ⟨rfl, y, rfl⟩
    go_wp2_with fail
    go_ret2
    rw [hv.out.1, hv.out.2, hk.out]
    exact OutS.nil none 0 rfl (by repeat (first | exact Ext.refl _ | refine Ext.lift ?_ _ | refine Ext.alloc ?_ _))
  · rw [h1] at HV
    cases h2 : inB c 1 3
    · have hv := Lib.hid (allS_no (l := l) (c := c) (b := b) (by rw [askB_2 h1 h2]; decide))
      have hk := Lib.hid (askB_2 (b := b) h1 h2)
      have HC : Hid (∀ w', Calls Try.prog 26 #[.int .i64 c] w' fun e w'' => e = .returned (.bool false) ∧ w'' = w') := fun w' => by have := crewsOk_any c w'; rw [h2] at this; exact this
      clear h1 h2
      go_enter Try.func15, Try.ntmps15
      go_wp2_with fail
      refine HV.out.mono ?_
      rintro e w' ⟨rfl, y, rfl⟩
      go_wp2_with (go_at_call 26; refine (HC.out _).mono ?_; rintro e w' ⟨rfl, rfl⟩)
      go_ret2
      rw [hv.out.1, hv.out.2, hk.out]
      exact OutS.nil none 0 rfl (by repeat (first | exact Ext.refl _ | refine Ext.lift ?_ _ | refine Ext.alloc ?_ _))
    · have HC : Hid (∀ w', Calls Try.prog 26 #[.int .i64 c] w' fun e w'' => e = .returned (.bool true) ∧ w'' = w') := fun w' => by have := crewsOk_any c w'; rw [h2] at this; exact this
      cases h3 : inB b 1 20000
      · have hv := Lib.hid (allS_no (l := l) (c := c) (b := b) (by rw [askB_3 h1 h2 h3]; decide))
        have hk := Lib.hid (askB_3 h1 h2 h3)
        have HB : Hid (∀ w', Calls Try.prog 27 #[.int .i64 b] w' fun e w'' => e = .returned (.bool false) ∧ w'' = w') := fun w' => by have := budgetValid_any b w'; rw [h3] at this; exact this
        clear h1 h2 h3
        go_enter Try.func15, Try.ntmps15
        go_wp2_with fail
        refine HV.out.mono ?_
        rintro e w' ⟨rfl, y, rfl⟩
        go_wp2_with (first | (go_at_call 26; refine (HC.out _).mono ?_; rintro e w' ⟨rfl, rfl⟩) | (go_at_call 27; refine (HB.out _).mono ?_; rintro e w' ⟨rfl, rfl⟩))
        go_ret2
        rw [hv.out.1, hv.out.2, hk.out]
        exact OutS.nil none 0 rfl (by repeat (first | exact Ext.refl _ | refine Ext.lift ?_ _ | refine Ext.alloc ?_ _))
      · have hv := Lib.hid (allS_ok (askB_0 h1 h2 h3))
        have HB : Hid (∀ w', Calls Try.prog 27 #[.int .i64 b] w' fun e w'' => e = .returned (.bool true) ∧ w'' = w') := fun w' => by have := budgetValid_any b w'; rw [h3] at this; exact this
        have hS := vAll_one h1
        have hl8 : l.length ≤ 8 := vAll_len_le h1
        have hc := inB_iff.1 h2
        have hb := inB_iff.1 h3
        obtain ⟨k, hk⟩ := Int.eq_ofNat_of_zero_le (show 0 ≤ c by omega)
        subst hk
        have HW := Lib.hid fun (w' : World) (he : Ext w w') => allShots_any a cap l k b w' (HA.out.ext he) hS hl8 hcap (by omega) (by omega) (by omega) (by omega)
        clear h1 h2 h3 hS
        go_enter Try.func15, Try.ntmps15
        go_wp2_with fail
        refine HV.out.mono ?_
        rintro e w' ⟨rfl, y, rfl⟩
        go_wp2_with (first | (go_at_call 26; refine (HC.out _).mono ?_; rintro e w' ⟨rfl, rfl⟩) | (go_at_call 27; refine (HB.out _).mono ?_; rintro e w' ⟨rfl, rfl⟩))
        refine (HW.out _ (by repeat (first | exact Ext.refl _ | refine Ext.lift ?_ _ | refine Ext.alloc ?_ _))).mono ?_
        rintro e w2 ⟨a', cap', rfl, hc', O, R, E⟩
        have T : Hid (Ext w w2) := Ext.trans (by repeat (first | exact Ext.refl _ | refine Ext.lift ?_ _ | refine Ext.alloc ?_ _)) E
        have O2 := Lib.hid (O.mono (show w.heap.size ≤ _ from Ext.size (a := w) (by repeat (first | exact Ext.refl _ | refine Ext.lift ?_ _ | refine Ext.alloc ?_ _))))
        have R2 := Lib.hid R
        clear O R E
        go_wp2_with fail
        go_ret2
        rw [hv.out.1, hv.out.2]
        exact OutS.mk (a := a') (cap := cap') rfl hc' O2.out R2.out T.out
end Go.Proofs.Ytpmbaemfpkcjnaa

/- Chapter 22: BestShots of the program and of the reference. -/
import Derived.Test.YtpmbaemfpkcjnaaBestAll
namespace Go.Proofs.Ytpmbaemfpkcjnaa
open Go.RowKit
def bestC (l : List Shot) (c b : Int) : Int := if askB l c b = 0 then (if (visI l c.toNat b false).left < 0 then 5 else 0) else askB l c b
def bestV (l : List Shot) (c b : Int) : List Int := if bestC l c b = 0 then (visI l c.toNat b false).best else []
def bestG (l : List Shot) (c b : Int) : Int := if bestC l c b = 0 then (visI l c.toNat b false).most else 0
theorem best_no {l : List Shot} {c b : Int} (h : askB l c b ≠ 0) : bestC l c b = askB l c b ∧ bestV l c b = [] ∧ bestG l c b = 0 := by
  have e : bestC l c b = askB l c b := if_neg h
  exact ⟨e, by unfold bestV; rw [if_neg (by rw [e]; exact h)], by unfold bestG; rw [if_neg (by rw [e]; exact h)]⟩
theorem best_5 {l : List Shot} {c b : Int} (h : askB l c b = 0) (h2 : (visI l c.toNat b false).left < 0) : bestC l c b = 5 ∧ bestV l c b = [] ∧ bestG l c b = 0 := by
  have e : bestC l c b = 5 := by unfold bestC; rw [if_pos h, if_pos h2]
  exact ⟨e, by unfold bestV; rw [if_neg (by rw [e]; decide)], by unfold bestG; rw [if_neg (by rw [e]; decide)]⟩
theorem best_0 {l : List Shot} {c b : Int} (h : askB l c b = 0) (h2 : ¬ (visI l c.toNat b false).left < 0) : bestC l c b = 0 ∧ bestV l c b = (visI l c.toNat b false).best ∧ bestG l c b = (visI l c.toNat b false).most := by
  have e : bestC l c b = 0 := by unfold bestC; rw [if_pos h, if_neg h2]
  exact ⟨e, by unfold bestV; rw [if_pos e], by unfold bestG; rw [if_pos e]⟩
set_option maxRecDepth 100000 in
set_option maxHeartbeats 4000000 in
theorem implBestShots_any (w : World) (a : Option Addr) (cap : Nat) (l : List Shot) (H : ShotAt w a l) (hsz : ∀ k, k < l.length → (nth l k).Small) (hn : l.length ≤ 1048576) (hcap : l.length ≤ cap) (c b : Int) :
    Calls Try.prog 11 #[.slice a l.length cap, .int .i64 c, .int .i64 b] w (OutS 2 1 (fun (x : Int) (_ : Nat) => Value.int .i64 x) w (bestV l c b) [.int .i64 (bestG l c b), .int .i64 (bestC l c b)]) := by
  have HA := Lib.hid H
  have HV := Lib.hid (ValidShots_any a cap l w H hsz hn)
  clear H hsz
  cases h1 : shotList l
  · have hv := Lib.hid (best_no (l := l) (c := c) (b := b) (by rw [askB_1 h1]; decide))
    have hk := Lib.hid (askB_1 (c := c) (b := b) h1)
    rw [h1] at HV
    clear h1
    go_enter Try.func11, Try.ntmps11
    go_wp2_with fail
    refine HV.out.mono ?_
    rintro e w' ⟨rfl, y, rfl⟩
    go_wp2_with fail
    go_ret3
    rw [hv.out.1, hv.out.2.1, hv.out.2.2, hk.out]
    exact OutS.nil none 0 rfl (by repeat (first | exact Ext.refl _ | refine Ext.lift ?_ _ | refine Ext.alloc ?_ _))
  · rw [h1] at HV
    cases h2 : inB c 1 3
    · have hv := Lib.hid (best_no (l := l) (c := c) (b := b) (by rw [askB_2 h1 h2]; decide))
      have hk := Lib.hid (askB_2 (b := b) h1 h2)
      have HC : Hid (∀ w', Calls Try.prog 26 #[.int .i64 c] w' fun e w'' => e = .returned (.bool false) ∧ w'' = w') := fun w' => by have := crewsOk_any c w'; rw [h2] at this; exact this
      clear h1 h2
      go_enter Try.func11, Try.ntmps11
      go_wp2_with fail
      refine HV.out.mono ?_
      rintro e w' ⟨rfl, y, rfl⟩
      go_wp2_with (go_at_call 26; refine (HC.out _).mono ?_; rintro e w' ⟨rfl, rfl⟩)
      go_ret3
      rw [hv.out.1, hv.out.2.1, hv.out.2.2, hk.out]
      exact OutS.nil none 0 rfl (by repeat (first | exact Ext.refl _ | refine Ext.lift ?_ _ | refine Ext.alloc ?_ _))
    · have HC : Hid (∀ w', Calls Try.prog 26 #[.int .i64 c] w' fun e w'' => e = .returned (.bool true) ∧ w'' = w') := fun w' => by have := crewsOk_any c w'; rw [h2] at this; exact this
      cases h3 : inB b 1 20000
      · have hv := Lib.hid (best_no (l := l) (c := c) (b := b) (by rw [askB_3 h1 h2 h3]; decide))
        have hk := Lib.hid (askB_3 h1 h2 h3)
        have HB : Hid (∀ w', Calls Try.prog 27 #[.int .i64 b] w' fun e w'' => e = .returned (.bool false) ∧ w'' = w') := fun w' => by have := budgetValid_any b w'; rw [h3] at this; exact this
        clear h1 h2 h3
        go_enter Try.func11, Try.ntmps11
        go_wp2_with fail
        refine HV.out.mono ?_
        rintro e w' ⟨rfl, y, rfl⟩
        go_wp2_with (first | (go_at_call 26; refine (HC.out _).mono ?_; rintro e w' ⟨rfl, rfl⟩) | (go_at_call 27; refine (HB.out _).mono ?_; rintro e w' ⟨rfl, rfl⟩))
        go_ret3
        rw [hv.out.1, hv.out.2.1, hv.out.2.2, hk.out]
        exact OutS.nil none 0 rfl (by repeat (first | exact Ext.refl _ | refine Ext.lift ?_ _ | refine Ext.alloc ?_ _))
      · have hk0 := Lib.hid (askB_0 h1 h2 h3)
        have HB : Hid (∀ w', Calls Try.prog 27 #[.int .i64 b] w' fun e w'' => e = .returned (.bool true) ∧ w'' = w') := fun w' => by have := budgetValid_any b w'; rw [h3] at this; exact this
        have hS := vAll_one h1
        have hl8 : l.length ≤ 8 := vAll_len_le h1
        have hc := inB_iff.1 h2
        have hb := inB_iff.1 h3
        obtain ⟨k, hk⟩ := Int.eq_ofNat_of_zero_le (show 0 ≤ c by omega)
        subst hk
        have HW := Lib.hid fun (w' : World) (he : Ext w w') => visit_new a cap l k b false w' (HA.out.ext he) hS hl8 hcap (by omega) (by omega) (by omega) (by omega)
        clear h1 h2 h3 hS
        go_enter Try.func11, Try.ntmps11
        go_wp2_with fail
        refine HV.out.mono ?_
        rintro e w' ⟨rfl, y, rfl⟩
        have E0 : Ext w (lift w y) := (by repeat (first | exact Ext.refl _ | refine Ext.lift ?_ _ | refine Ext.alloc ?_ _))
        generalize lift w y = w0 at *
        try dsimp only
        repeat (first | go_values | go_skip | go_guarded | go_step | go_upon | go_back)
        refine (HC.out _).mono ?_
        rintro e w' ⟨rfl, rfl⟩
        try dsimp only
        repeat (first | go_values | go_skip | go_guarded | go_step | go_upon | go_back)
        refine (HB.out _).mono ?_
        rintro e w' ⟨rfl, rfl⟩
        try dsimp only
        repeat (first | go_values | go_skip | go_guarded | go_step | go_upon | go_back)
        refine (HW.out _ E0).mono ?_
        rintro e w2 ⟨rfl, av, cv, ab, cb, hV⟩
        have V := Lib.hid hV
        have T : Hid (Ext w w2) := E0.trans V.out.srch.ext
        have hz := E0.size
        clear hV
        obtain ⟨hgl, c0, c1, c2, c3, c4, c5, c6, c7⟩ := V.out.cells
        rcases Int.lt_or_le (visI l k b false).left 0 with hl | hl
        · have hv := Lib.hid (best_5 hk0.out hl)
          go_wp2_with fail
          go_ret3
          rw [hv.out.1, hv.out.2.1, hv.out.2.2]
          exact OutS.nil none 0 rfl T.out
        · have hv := Lib.hid (best_0 hk0.out (Int.not_lt.2 hl))
          go_wp2_with fail
          refine region_quiet (by kernel_rfl) (by kernel_rfl) ?_
          repeat (any_goals (first | go_big_quiet_step (fail) | quiet_step (fail)))
          refine wpQuiet_nil ?_
          intro _ hw'
          obtain ⟨y, hw''⟩ := hw'
          subst hw''
          go_wp2_with fail
          go_ret3
          rw [hv.out.1, hv.out.2.1, hv.out.2.2]
          exact OutS.mk rfl V.out.capb ((V.out.srch.own.mono (by omega)).ext (by repeat (first | exact Ext.refl _ | refine Ext.lift ?_ _ | refine Ext.alloc ?_ _))) (V.out.srch.row.ext (by repeat (first | exact Ext.refl _ | refine Ext.lift ?_ _ | refine Ext.alloc ?_ _))) (T.out.lift _)
end Go.Proofs.Ytpmbaemfpkcjnaa

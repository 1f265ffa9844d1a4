/- Chapter 22: BestShots of the reference. -/
import Derived.Test.YtkfdkihfdjgbbaaBestShots
namespace Go.Proofs.Ytkfdkihfdjgbbaa
open Go.RowKit
set_option maxRecDepth 100000 in
set_option maxHeartbeats 4000000 in
theorem specBestShots_any (w : World) (a : Option Addr) (cap : Nat) (l : List Shot) (H : ShotAt w a l) (hsz : ∀ k, k < l.length → (nth l k).Small) (hn : l.length ≤ 1048576) (hcap : l.length ≤ cap) (c b : Int) :
    Calls Try.prog 22 #[.slice a l.length cap, .int .i64 c, .int .i64 b] w (OutR 1 (fun (x : Int) (_ : Nat) => Value.int .i64 x) w (bestV l c b) [.int .i64 (bestG l c b), .int .i64 (bestC l c b)]) := by
  have HA := Lib.hid H
  have HQ := Lib.hid fun (w' : World) (he : Ext w w') (a2 : Option Addr) => l22Ask_any a cap l a2 0 [] c w' (HA.out.ext he) hsz hn RowsAt.nil (by simp) (by simp)
  have hq := Lib.hid (askS_nil l c)
  clear H hsz
  cases h1 : shotList l
  · have hv := Lib.hid (best_no (l := l) (c := c) (b := b) (by rw [askB_1 h1]; decide))
    have hk := Lib.hid (askB_1 (c := c) (b := b) h1)
    have hq1 : askS l [] c = 1 := by rw [hq.out, h1]; rfl
    rw [hq1] at HQ
    clear h1 hq hq1
    go_enter Try.func22, Try.ntmps22
    go_wp2_with fail
    refine (HQ.out _ (by repeat (first | exact Ext.refl _ | refine Ext.lift ?_ _ | refine Ext.alloc ?_ _)) _).mono ?_
    rintro e w' ⟨rfl, y, rfl⟩
    go_wp2_with fail
    go_ret3
    rw [hv.out.1, hv.out.2.1, hv.out.2.2, hk.out]
    exact (OutS.nil (T := 2) none 0 rfl (by repeat (first | exact Ext.refl _ | refine Ext.lift ?_ _ | refine Ext.alloc ?_ _))).read
  · cases h2 : inB c 1 3
    · have hv := Lib.hid (best_no (l := l) (c := c) (b := b) (by rw [askB_2 h1 h2]; decide))
      have hk := Lib.hid (askB_2 (b := b) h1 h2)
      have hq1 : askS l [] c = 2 := by rw [hq.out, h1, h2]; rfl
      rw [hq1] at HQ
      clear h1 h2 hq hq1
      go_enter Try.func22, Try.ntmps22
      go_wp2_with fail
      refine (HQ.out _ (by repeat (first | exact Ext.refl _ | refine Ext.lift ?_ _ | refine Ext.alloc ?_ _)) _).mono ?_
      rintro e w' ⟨rfl, y, rfl⟩
      go_wp2_with fail
      go_ret3
      rw [hv.out.1, hv.out.2.1, hv.out.2.2, hk.out]
      exact (OutS.nil (T := 2) none 0 rfl (by repeat (first | exact Ext.refl _ | refine Ext.lift ?_ _ | refine Ext.alloc ?_ _))).read
    · have hq1 : askS l [] c = 0 := by rw [hq.out, h1, h2]; rfl
      rw [hq1] at HQ
      clear hq hq1
      cases h3 : inB b 1 20000
      · have hv := Lib.hid (best_no (l := l) (c := c) (b := b) (by rw [askB_3 h1 h2 h3]; decide))
        have hk := Lib.hid (askB_3 h1 h2 h3)
        have HB : Hid (∀ w', Calls Try.prog 47 #[.int .i64 b] w' fun e w'' => e = .returned (.bool false) ∧ w'' = w') := fun w' => by have := l22Budget_any b w'; rw [h3] at this; exact this
        clear h1 h2 h3
        go_enter Try.func22, Try.ntmps22
        go_wp2_with fail
        refine (HQ.out _ (by repeat (first | exact Ext.refl _ | refine Ext.lift ?_ _ | refine Ext.alloc ?_ _)) _).mono ?_
        rintro e w' ⟨rfl, y, rfl⟩
        go_wp2_with (go_at_call 47; refine (HB.out _).mono ?_; rintro e w' ⟨rfl, rfl⟩)
        go_ret3
        rw [hv.out.1, hv.out.2.1, hv.out.2.2, hk.out]
        exact (OutS.nil (T := 2) none 0 rfl (by repeat (first | exact Ext.refl _ | refine Ext.lift ?_ _ | refine Ext.alloc ?_ _))).read
      · have hk0 := Lib.hid (askB_0 h1 h2 h3)
        have HB : Hid (∀ w', Calls Try.prog 47 #[.int .i64 b] w' fun e w'' => e = .returned (.bool true) ∧ w'' = w') := fun w' => by have := l22Budget_any b w'; rw [h3] at this; exact this
        have hS := vAll_one h1
        have hl8 : l.length ≤ 8 := vAll_len_le h1
        have hc := inB_iff.1 h2
        have hb := inB_iff.1 h3
        obtain ⟨k, hk⟩ := Int.eq_ofNat_of_zero_le (show 0 ≤ c by omega)
        subst hk
        have HW := Lib.hid fun (w' : World) (he : Ext w w') => run_new a cap l k b false w' w' (HA.out.ext he) hS hl8 hcap (by omega) (by omega) (by omega) (by omega) (Ext.refl _)
        have hvis := Lib.hid (vis_best l k b)
        clear h1 h2 h3 hS
        go_enter Try.func22, Try.ntmps22
        go_wp2_with fail
        refine (HQ.out _ (by repeat (first | exact Ext.refl _ | refine Ext.lift ?_ _ | refine Ext.alloc ?_ _)) _).mono ?_
        rintro e w' ⟨rfl, y, rfl⟩
        have E0 : Ext w (lift (w.alloc (.cells #[] 2)) y) := (by repeat (first | exact Ext.refl _ | refine Ext.lift ?_ _ | refine Ext.alloc ?_ _))
        generalize lift (w.alloc (.cells #[] 2)) y = w0 at *
        try dsimp only
        repeat (first | go_values | go_skip | go_guarded | go_step | go_upon | go_back)
        refine (HB.out _).mono ?_
        rintro e w' ⟨rfl, rfl⟩
        try dsimp only
        repeat (first | go_values | go_skip | go_guarded | go_step | go_upon | go_back)
        refine (HW.out _ E0).mono ?_
        rintro e w2 ⟨rfl, av, cv, ab, cb, hV⟩
        have V := Lib.hid hV
        have T : Hid (Ext w w2) := E0.trans V.out.srch.ext
        have hz := E0.size
        clear hV
        obtain ⟨hgl, c0, c1, c2, c3, c4, c5, c6, c7, c8, c9⟩ := V.out.cells
        rcases Int.lt_or_le (visS l k b false).left 0 with hl | hl
        · have hv := Lib.hid (best_5 hk0.out (by show (visI l k b false).left < 0; rw [hvis.out]; exact hl))
          rw [decide_eq_true hl] at c8
          go_wp2_with fail
          go_ret3
          rw [hv.out.1, hv.out.2.1, hv.out.2.2]
          exact (OutS.nil (T := 2) none 0 rfl T.out).read
        · have hv := Lib.hid (best_0 hk0.out (by show ¬ (visI l k b false).left < 0; rw [hvis.out]; exact Int.not_lt.2 hl))
          rw [decide_eq_false (Int.not_lt.2 hl)] at c8
          go_wp2_with fail
          refine region_quiet (by kernel_rfl) (by kernel_rfl) ?_
          repeat (any_goals (first | go_big_quiet_step (fail) | quiet_step (fail)))
          refine wpQuiet_nil ?_
          intro _ hw'
          obtain ⟨y, hw''⟩ := hw'
          subst hw''
          go_wp2_with fail
          go_ret3
          rw [hv.out.1, hv.out.2.1, hv.out.2.2]
          show OutR _ _ _ (visI l k b false).best [.int .i64 (visI l k b false).most, _] _ _
          rw [hvis.out]
          exact ⟨ab, cb, rfl, V.out.capb, V.out.srch.row.ext (by repeat (first | exact Ext.refl _ | refine Ext.lift ?_ _ | refine Ext.alloc ?_ _)), T.out.lift _⟩
end Go.Proofs.Ytkfdkihfdjgbbaa

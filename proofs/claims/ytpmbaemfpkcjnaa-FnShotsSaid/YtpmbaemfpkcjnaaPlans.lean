/- Chapter 22: the ends of a plan of shots, its code. What the program's and the reference's functions hand back. -/
import Derived.Test.YtpmbaemfpkcjnaaShots
namespace Go.Proofs.Ytpmbaemfpkcjnaa
open Go.RowKit
theorem crewsOk_any (n : Int) (w : World) : Calls Try.prog 26 #[.int .i64 n] w fun e w' => e = .returned (.bool (inB n 1 3)) ∧ w' = w := by
  go_enter Try.func26, Try.ntmps26
  go_wp2_with (go_at_call 42; refine (within_any _ _ _ _).mono ?_; rintro e w' ⟨rfl, rfl⟩)
  go_ret
  exact ⟨rfl, rfl⟩
theorem l22Crews_any (n : Int) (w : World) : Calls Try.prog 68 #[.int .i64 n] w fun e w' => e = .returned (.bool (inB n 1 3)) ∧ w' = w := by
  go_enter Try.func68, Try.ntmps68
  go_wp2_with (go_at_call 78; refine (l00In_any _ _ _ _).mono ?_; rintro e w' ⟨rfl, rfl⟩)
  go_ret
  exact ⟨rfl, rfl⟩
theorem indexValid_any (a : Option Addr) (n cap : Nat) (i : Int) (w : World) (hn : n ≤ 1000000000000) :
    Calls Try.prog 37 #[.slice a n cap, .int .i64 i] w fun e w' => e = .returned (.bool (inB i 0 ((n : Int) - 1))) ∧ w' = w := by
  go_enter Try.func37, Try.ntmps37
  go_wp2_with (go_at_call 42; refine (within_any _ _ _ _).mono ?_; rintro e w' ⟨rfl, rfl⟩)
  go_ret
  exact ⟨rfl, rfl⟩
set_option maxHeartbeats 1000000 in
theorem orderOk_any (a : Option Addr) (n cap : Nat) (a2 : Option Addr) (cap2 : Nat) (ord : List Int) (w : World) (H2 : IntAt w a2 ord) (hn : n ≤ 1000000000000) (hlen : ord.length ≤ 1000000000000) (hcap : ord.length ≤ cap2) :
    Gives Try.prog 21 #[.slice a n cap, .slice a2 ord.length cap2] w (.bool (orderB n ord)) := by
  unfold Gives
  go_enter Try.func21, Try.ntmps21
  go_wp2_with fail
  go_loopw [9] (fun i wr => ∃ k : Nat, k ≤ ord.length ∧ i = .int .i64 k ∧ Hid (∀ j, j < k → ordAt n ord j = true) ∧ Ext w wr) (fun i _ => ord.length - (intOf i).toNat)
  case atStart => exact ⟨0, Nat.zero_le _, rfl, upto_zero, Ext.refl w⟩
  case round =>
    obtain ⟨k, hk, rfl, hall, he⟩ := hrel
    replace H2 := H2.ext he
    by_cases hlt : k < ord.length
    · obtain ⟨b, off, rfl⟩ := H2.base hlt
      obtain ⟨hb, c0⟩ := IntAt.at H2 k hlt
      have HT := Lib.hid (H2.take k)
      have hlk : Hid ((ord.take k).length = k) := by show _ = _; rw [List.length_take]; omega
      clear H2
      cases h3 : inB (nth ord k) 0 ((n : Int) - 1)
      · have hv : Hid (false = orderB n ord) := (allB_bad hlt (ordAt_false1 h3)).symm
        go_wp2_with (first | (go_at_call 37; refine (indexValid_any _ _ _ _ _ hn).mono ?_; rintro e w' ⟨rfl, rfl⟩; rw [h3]))
        go_ret
        exact ⟨ret_bool hv.out, he⟩
      · cases h4 : hasB (ord.take k) (nth ord k)
        all_goals
          have hv := Lib.hid (ordAt_eq h3 h4)
          have hx : Hid (ordAt n ord k = false → false = orderB n ord) := fun h => (allB_bad hlt h).symm
          have HH : Hid (Calls Try.prog 38 #[.slice (some ⟨b, off, none⟩) k cap2, .int .i64 (nth ord k)] wr fun e w' => e = .returned (.bool (hasB (ord.take k) (nth ord k))) ∧ w' = wr) := by
            have := Contains_any (some ⟨b, off, none⟩) cap2 (ord.take k) (nth ord k) wr HT.out (by rw [hlk.out]; omega)
            rwa [hlk.out] at this
          rw [h4] at HH
          go_wp2_with (first | (go_at_call 37; refine (indexValid_any _ _ _ _ _ hn).mono ?_; rintro e w' ⟨rfl, rfl⟩; rw [h3]) | (go_at_call 38; refine HH.out.mono ?_; rintro e w' ⟨rfl, rfl⟩))
          first
            | (go_ret; exact ⟨ret_bool (hx.out hv.out), he⟩)
            | (go_roundw
               case rel => exact ⟨k + 1, by omega, by go_num, upto_succ hall.out hv.out, he⟩
               case measure => simp [intOf]; omega)
    · have hv : Hid (true = orderB n ord) := (allB_end fun j hj => hall.out j (by omega)).symm
      clear H2
      go_wp2
      go_ret
      exact ⟨ret_bool hv.out, he⟩
set_option maxHeartbeats 1000000 in
theorem l22Order_any (a : Option Addr) (n cap : Nat) (a2 : Option Addr) (cap2 : Nat) (l : List Int) (w : World) (H : IntAt w a2 l) (hn : n ≤ 1000000000000) (hlen : l.length ≤ 1000000000000) (hcap : l.length ≤ cap2) :
    Gives Try.prog 67 #[.slice a n cap, .slice a2 l.length cap2] w (.bool (orderB n l)) := by
  unfold Gives
  go_enter Try.func67, Try.ntmps67
  go_wp2_with fail
  go_loopw [5] (fun i wr => ∃ k : Nat, k ≤ l.length ∧ i = .int .i64 k ∧ Hid (∀ j, j < k → ordAt n l j = true) ∧ Ext w wr) (fun i _ => l.length - (intOf i).toNat)
  case atStart => exact ⟨0, Nat.zero_le _, rfl, upto_zero, Ext.refl w⟩
  case round =>
    obtain ⟨k, hk, rfl, hall, he⟩ := hrel
    replace H := H.ext he
    by_cases hlt : k < l.length
    · obtain ⟨b, off, rfl⟩ := H.base hlt
      obtain ⟨hb, c0⟩ := IntAt.at H k hlt
      have HT := Lib.hid (H.take k)
      have hlk : Hid ((l.take k).length = k) := by show _ = _; rw [List.length_take]; omega
      clear H
      cases h1 : inB (nth l k) 0 ((n : Int) - 1)
      · have hv : Hid (false = orderB n l) := (allB_bad hlt (ordAt_false1 h1)).symm
        go_wp2_with fail
        refine region_quiet (by kernel_rfl) (by kernel_rfl) ?_
        repeat (any_goals (first | go_big_quiet_step ((exact Gives.quiet (Gives.same (l00In_any _ _ _ _)))) | quiet_step ((exact Gives.quiet (Gives.same (l00In_any _ _ _ _))))))
        refine wpQuiet_nil ?_
        intro _ hw'
        obtain ⟨y, hw''⟩ := hw'
        subst hw''
        go_wp2
        go_ret
        exact ⟨ret_bool hv.out, he.lift y⟩
      · cases h2 : hasB (l.take k) (nth l k)
        all_goals
          have hv := Lib.hid (ordAt_eq h1 h2)
          have hx : Hid (ordAt n l k = false → false = orderB n l) := fun h => (allB_bad hlt h).symm
          have HH : Hid (∀ x, Calls Try.prog 52 #[.slice (some ⟨b, off, none⟩) k cap2, .int .i64 (nth l k)] (lift wr x) fun e w' => e = .returned (.bool (hasB (l.take k) (nth l k))) ∧ w' = lift wr x) := fun x => by
            have := l00Has_any (some ⟨b, off, none⟩) cap2 (l.take k) (nth l k) (lift wr x) (HT.out.ext ((Ext.refl _).lift x)) (by rw [hlk.out]; omega)
            rwa [hlk.out] at this
          rw [h2] at HH
          go_wp2_with fail
          refine region_quiet (by kernel_rfl) (by kernel_rfl) ?_
          repeat (any_goals (first | go_big_quiet_step ((first | (go_at_call 78; exact Gives.quiet (Gives.same (l00In_any _ _ _ _))) | (go_at_call 52; exact Gives.quiet (Gives.same (HH.out _))))) | quiet_step ((first | (go_at_call 78; exact Gives.quiet (Gives.same (l00In_any _ _ _ _))) | (go_at_call 52; exact Gives.quiet (Gives.same (HH.out _)))))))
          refine wpQuiet_nil ?_
          intro _ hw'
          obtain ⟨y, hw''⟩ := hw'
          subst hw''
          go_wp2
          first
            | (go_ret; exact ⟨ret_bool (hx.out hv.out), he.lift y⟩)
            | (go_roundw
               case rel => exact ⟨k + 1, by omega, by go_num, upto_succ hall.out hv.out, he.lift y⟩
               case measure => simp [intOf]; omega)
    · have hv : Hid (true = orderB n l) := (allB_end fun j hj => hall.out j (by omega)).symm
      clear H
      go_wp2
      go_ret
      exact ⟨ret_bool hv.out, he⟩
/-- The code of shots, an order and crews. -/
def askS (l : List Shot) (ord : List Int) (c : Int) : Int := if shotList l = true then (if orderB l.length ord = true then (if inB c 1 3 = true then 0 else 2) else 7) else 1
/-- The code of a plan. -/
def planC (l : List Shot) (ord : List Int) (c : Int) : Int := if askS l ord c = 0 then (if worksB l ord c.toNat = true then 0 else 6) else askS l ord c
def planV (l : List Shot) (ord : List Int) (c : Int) : List Work := if planC l ord c = 0 then worksV l ord c.toNat else []
theorem askS_0 {l : List Shot} {ord : List Int} {c : Int} (h : askS l ord c = 0) : shotList l = true ∧ orderB l.length ord = true ∧ inB c 1 3 = true := by
  unfold askS at h
  split at h
  · split at h
    · split at h
      · exact ⟨by assumption, by assumption, by assumption⟩
      · cases h
    · cases h
  · cases h
theorem ShotsOk.of_ask {l : List Shot} {ord : List Int} {c : Int} (h : askS l ord c = 0) : ShotsOk l ord :=
  ⟨vAll_one (askS_0 h).1, orderB_in (askS_0 h).2.1⟩
theorem planC_no {l : List Shot} {ord : List Int} {c : Int} (h : askS l ord c ≠ 0) : planC l ord c = askS l ord c ∧ planV l ord c = [] := by
  have e : planC l ord c = askS l ord c := if_neg h
  exact ⟨e, by unfold planV; rw [if_neg (by rw [e]; exact h)]⟩
theorem planC_6 {l : List Shot} {ord : List Int} {c : Int} (h : askS l ord c = 0) (h2 : worksB l ord c.toNat = false) : planC l ord c = 6 ∧ planV l ord c = [] := by
  have e : planC l ord c = 6 := by unfold planC; rw [if_pos h, h2]; rfl
  exact ⟨e, by unfold planV; rw [if_neg (by rw [e]; decide)]⟩
theorem planC_0 {l : List Shot} {ord : List Int} {c : Int} (h : askS l ord c = 0) (h2 : worksB l ord c.toNat = true) : planC l ord c = 0 ∧ planV l ord c = worksV l ord c.toNat := by
  have e : planC l ord c = 0 := by unfold planC; rw [if_pos h, h2]; rfl
  exact ⟨e, by unfold planV; rw [if_pos e]⟩
set_option maxRecDepth 100000 in
set_option maxHeartbeats 4000000 in
theorem planWorks_any (a : Option Addr) (cap : Nat) (l : List Shot) (a2 : Option Addr) (cap2 : Nat) (ord : List Int) (c : Int) (w : World) (H : ShotAt w a l) (hsz : ∀ k, k < l.length → (nth l k).Small) (hn : l.length ≤ 1048576) (H2 : IntAt w a2 ord) (hlen : ord.length ≤ 1048576) (hcap : ord.length ≤ cap2) :
    Calls Try.prog 19 #[.slice a l.length cap, .slice a2 ord.length cap2, .int .i64 c] w (OutS 53 2 Work.cell w (planV l ord c) [.int .i64 (planC l ord c)]) := by
  have HA := Lib.hid H
  have HI := Lib.hid H2
  have HZ := Lib.hid hsz
  clear H H2 hsz
  have HV := Lib.hid fun (w' : World) (he : Ext w w') => ValidShots_any a cap l w' (HA.out.ext he) HZ.out hn
  have HO := Lib.hid fun (w' : World) (he : Ext w w') => orderOk_any a l.length cap a2 cap2 ord w' (HI.out.ext he) (by omega) (by omega) hcap
  rcases and3 (shotList l) (orderB l.length ord) with h1 | ⟨h1, h2⟩ | ⟨h1, h2⟩
  · have ha : askS l ord c = 1 := by unfold askS; rw [h1]; rfl
    have hv := Lib.hid (planC_no (l := l) (ord := ord) (c := c) (by rw [ha]; decide))
    have ha' := Lib.hid ha
    clear ha
    rw [h1] at HV
    rw [hv.out.1, hv.out.2, ha'.out]
    go_enter Try.func19, Try.ntmps19
    go_wp2_with fail
    refine (HV.out _ (by repeat (first | exact Ext.refl _ | refine Ext.lift ?_ _ | refine Ext.alloc ?_ _))).mono ?_
    rintro e w' ⟨rfl, y, rfl⟩
    go_wp2_with fail
    go_ret2
    exact OutS.nil none 0 rfl (by repeat (first | exact Ext.refl _ | refine Ext.lift ?_ _ | refine Ext.alloc ?_ _))
  · have ha : askS l ord c = 7 := by unfold askS; rw [h1, h2]; rfl
    have hv := Lib.hid (planC_no (l := l) (ord := ord) (c := c) (by rw [ha]; decide))
    have ha' := Lib.hid ha
    clear ha
    rw [h1] at HV
    rw [h2] at HO
    rw [hv.out.1, hv.out.2, ha'.out]
    go_enter Try.func19, Try.ntmps19
    go_wp2_with fail
    refine (HV.out _ (by repeat (first | exact Ext.refl _ | refine Ext.lift ?_ _ | refine Ext.alloc ?_ _))).mono ?_
    rintro e w' ⟨rfl, y, rfl⟩
    go_wp2_with fail
    refine (HO.out _ (by repeat (first | exact Ext.refl _ | refine Ext.lift ?_ _ | refine Ext.alloc ?_ _))).mono ?_
    rintro e w' ⟨rfl, z, rfl⟩
    go_wp2_with fail
    go_ret2
    exact OutS.nil none 0 rfl (by repeat (first | exact Ext.refl _ | refine Ext.lift ?_ _ | refine Ext.alloc ?_ _))
  · cases h3 : inB c 1 3
    · have ha : askS l ord c = 2 := by unfold askS; rw [h1, h2, h3]; rfl
      have hv := Lib.hid (planC_no (l := l) (ord := ord) (c := c) (by rw [ha]; decide))
      have ha' := Lib.hid ha
      clear ha
      rw [h1] at HV
      rw [h2] at HO
      rw [hv.out.1, hv.out.2, ha'.out]
      go_enter Try.func19, Try.ntmps19
      go_wp2_with fail
      refine (HV.out _ (by repeat (first | exact Ext.refl _ | refine Ext.lift ?_ _ | refine Ext.alloc ?_ _))).mono ?_
      rintro e w' ⟨rfl, y, rfl⟩
      go_wp2_with fail
      refine (HO.out _ (by repeat (first | exact Ext.refl _ | refine Ext.lift ?_ _ | refine Ext.alloc ?_ _))).mono ?_
      rintro e w' ⟨rfl, z, rfl⟩
      go_wp2_with (go_at_call 26; refine (crewsOk_any _ _).mono ?_; rintro e w' ⟨rfl, rfl⟩; rw [h3])
      go_ret2
      exact OutS.nil none 0 rfl (by repeat (first | exact Ext.refl _ | refine Ext.lift ?_ _ | refine Ext.alloc ?_ _))
    · have ha : askS l ord c = 0 := by unfold askS; rw [h1, h2, h3]; rfl
      obtain ⟨k, hk⟩ := Int.eq_ofNat_of_zero_le (show 0 ≤ c by have := inB_iff.1 h3; omega)
      subst hk
      have hc := inB_iff.1 h3
      have HW := Lib.hid fun (w' : World) (he : Ext w w') => worksOf_any a cap l a2 cap2 ord k w' (HA.out.ext he) (HI.out.ext he) (ShotsOk.of_ask ha) (by omega) (by omega) hlen
      rw [h1] at HV
      rw [h2] at HO
      cases h4 : worksB l ord k
      · have hv := Lib.hid (planC_6 ha h4)
        have hw0 : Hid (worksV l ord k = []) := by
          show _ = _; unfold worksB at h4; unfold worksV; cases h5 : planS l ord k ord.length with
          | none => rfl
          | some p => rw [h5] at h4; cases h4
        rw [hw0.out, h4] at HW
        rw [hv.out.1, hv.out.2]
        clear ha
        go_enter Try.func19, Try.ntmps19
        go_wp2_with fail
        refine (HV.out _ (by repeat (first | exact Ext.refl _ | refine Ext.lift ?_ _ | refine Ext.alloc ?_ _))).mono ?_
        rintro e w' ⟨rfl, y, rfl⟩
        go_wp2_with fail
        refine (HO.out _ (by repeat (first | exact Ext.refl _ | refine Ext.lift ?_ _ | refine Ext.alloc ?_ _))).mono ?_
        rintro e w' ⟨rfl, z, rfl⟩
        go_wp2_with (go_at_call 26; refine (Gives.same (crewsOk_any _ _)).mono ?_; rintro e w' ⟨rfl, z2, rfl⟩; rw [h3])
        refine (HW.out _ (by repeat (first | exact Ext.refl _ | refine Ext.lift ?_ _ | refine Ext.alloc ?_ _))).mono ?_
        rintro e w2 ⟨a', cap', rfl, -, -, -, E⟩
        have T : Hid (Ext w w2) := Ext.trans (by repeat (first | exact Ext.refl _ | refine Ext.lift ?_ _ | refine Ext.alloc ?_ _)) E
        clear E
        go_wp2_with fail
        go_ret2
        exact OutS.nil none 0 rfl T.out
      · have hv := Lib.hid (planC_0 ha h4)
        rw [h4] at HW
        rw [hv.out.1, hv.out.2]
        clear ha
        go_enter Try.func19, Try.ntmps19
        go_wp2_with fail
        refine (HV.out _ (by repeat (first | exact Ext.refl _ | refine Ext.lift ?_ _ | refine Ext.alloc ?_ _))).mono ?_
        rintro e w' ⟨rfl, y, rfl⟩
        go_wp2_with fail
        refine (HO.out _ (by repeat (first | exact Ext.refl _ | refine Ext.lift ?_ _ | refine Ext.alloc ?_ _))).mono ?_
        rintro e w' ⟨rfl, z, rfl⟩
        go_wp2_with (go_at_call 26; refine (Gives.same (crewsOk_any _ _)).mono ?_; rintro e w' ⟨rfl, z2, rfl⟩; rw [h3])
        refine (HW.out _ (by repeat (first | exact Ext.refl _ | refine Ext.lift ?_ _ | refine Ext.alloc ?_ _))).mono ?_
        rintro e w2 ⟨a', cap', rfl, hc', O, R, E⟩
        have T : Hid (Ext w w2) := Ext.trans (by repeat (first | exact Ext.refl _ | refine Ext.lift ?_ _ | refine Ext.alloc ?_ _)) E
        have O2 := Lib.hid (O.mono (show w.heap.size ≤ _ from Ext.size (a := w) (by repeat (first | exact Ext.refl _ | refine Ext.lift ?_ _ | refine Ext.alloc ?_ _))))
        have R2 := Lib.hid R
        clear O R E
        go_wp2_with fail
        go_ret2
        exact OutS.mk (a := a') (cap := cap') rfl hc' O2.out R2.out T.out
end Go.Proofs.Ytpmbaemfpkcjnaa

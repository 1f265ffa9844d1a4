/- A watch as text. What the program's and the reference's functions on one hand back. -/
import Derived.Test.YtanafhppifhfmaaDoorWatch
import Derived.Test.YtanafhppifhfmaaDoorWithId
namespace Go.Proofs.YtanafhppifhfmaaDoor
open Go.RowKit
def workS : ByteArray := ⟨#[32, 119, 111, 114, 107]⟩
def callS : ByteArray := ⟨#[32, 99, 97, 108, 108]⟩
theorem workS_size : workS.size = 5 := rfl
theorem callS_size : callS.size = 5 := rfl
def watchS (x : Watch) : ByteArray := if watchB x = true then withS x.person [x.start, x.hours] ++ (if x.call = true then callS else workS) else ⟨#[]⟩
set_option maxRecDepth 100000 in
set_option maxHeartbeats 2000000 in
theorem implWatchText (x : Watch) (w : World) (hs0 : x.person.size ≤ 2000000) (ht : Tab w) :
    Gives Tryd.prog 63 #[.agg #[.string x.person, .int .i64 x.start, .int .i64 x.hours, .bool x.call]] w (.string (watchS x)) := by
  unfold Gives
  have HT := Lib.hid ht
  clear ht
  cases h : watchB x
  · have hv : Hid ((⟨#[]⟩ : ByteArray) = watchS x) := by show _ = _; unfold watchS; rw [h]; rfl
    go_enter Tryd.func63, Tryd.ntmps63
    go_wp2_with (go_at_call 105; refine (Watch_valid x _ hs0).mono ?_; rintro e w' ⟨rfl, y, rfl⟩; rw [h])
    go_ret
    exact ⟨by rw [← hv.out]; rfl, (by repeat (first | exact Ext.refl _ | refine Ext.lift ?_ _ | refine Ext.alloc ?_ _))⟩
  · have hb := Lib.hid (watchB_bd h)
    have hw : ∀ k, k < [x.start, x.hours].length → -9223372036854775808 ≤ nth [x.start, x.hours] k ∧ nth [x.start, x.hours] k ≤ 9223372036854775807 := by
      intro k hk; simp at hk; have := hb.out; rcases (show k = 0 ∨ k = 1 by omega) with rfl | rfl <;> simp [nth] <;> omega
    have hl : (withS x.person [x.start, x.hours]).size ≤ 56 := by have e := withS_size (id := x.person) hw; rw [show [x.start, x.hours].length = 2 from rfl] at e; have := hb.out; omega
    have h3 : (⟨#[32, 99, 97, 108, 108]⟩ : ByteArray).size = 5 := rfl
    have h4 : (⟨#[32, 119, 111, 114, 107]⟩ : ByteArray).size = 5 := rfl
    clear hw
    cases hc : x.call
    all_goals
      have hv : Hid (withS x.person [x.start, x.hours] ++ (if x.call = true then callS else workS) = watchS x) := by show _ = _; unfold watchS; rw [if_pos h]
      have hva : Hid (Watch_valid x w hs0 = Watch_valid x w hs0) := rfl
      have HV := Lib.hid fun (w' : World) => Watch_valid x w' hs0
      rw [hc] at hv HV
      rw [h] at HV
      go_enter Tryd.func63, Tryd.ntmps63
      go_wp2_with fail
      refine (HV.out _).mono ?_
      rintro e w' ⟨rfl, y, rfl⟩
      go_wp2_with fail
      refine (withId_any _ _ 2 [x.start, x.hours] _ hs0 (intAt_new' _ _ _ _ (by intro k hk; simp at hk; rcases (show k = 0 ∨ k = 1 by omega) with rfl | rfl <;> rfl) (by simp only [lift_size, size_new]))
      (by intro k hk; simp at hk; rw [inB_iff]; have := hb.out; rcases (show k = 0 ∨ k = 1 by omega) with rfl | rfl <;> simp [nth] <;> omega) (by simp) (HT.out.ext (by repeat (first | exact Ext.refl _ | refine Ext.lift ?_ _ | refine Ext.alloc ?_ _)))).mono ?_
      rintro e w' ⟨rfl, z, rfl⟩
      go_wp2_with fail
      go_ret
      exact ⟨by rw [← hv.out]; rfl, (by repeat (first | exact Ext.refl _ | refine Ext.lift ?_ _ | refine Ext.alloc ?_ _))⟩
end Go.Proofs.YtanafhppifhfmaaDoor

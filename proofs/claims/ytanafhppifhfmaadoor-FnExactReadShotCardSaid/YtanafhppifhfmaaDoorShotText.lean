/- A shot as text. What the program's and the reference's functions on one hand back. -/
import Derived.Test.YtanafhppifhfmaaDoorShot
import Derived.Test.YtanafhppifhfmaaDoorWithId
namespace Go.Proofs.YtanafhppifhfmaaDoor
open Go.RowKit

def shotS (x : Shot) : ByteArray := if shotB x = true then withS x.id [x.frm, x.til, x.mins, x.gain] else ⟨#[]⟩
set_option maxRecDepth 100000 in
set_option maxHeartbeats 2000000 in
theorem implShotText (x : Shot) (w : World) (hs0 : x.id.size ≤ 2000000) (ht : Tab w) :
    Gives Tryd.prog 66 #[.agg #[.string x.id, .int .i64 x.frm, .int .i64 x.til, .int .i64 x.mins, .int .i64 x.gain]] w (.string (shotS x)) := by
  unfold Gives
  have HT := Lib.hid ht
  clear ht
  cases h : shotB x
  · have hv : Hid ((⟨#[]⟩ : ByteArray) = shotS x) := by show _ = _; unfold shotS; rw [h]; rfl
    go_enter Tryd.func66, Tryd.ntmps66
    go_wp2_with (go_at_call 107; refine (Shot_valid x _ hs0).mono ?_; rintro e w' ⟨rfl, y, rfl⟩; rw [h])
    go_ret
    exact ⟨by rw [← hv.out]; rfl, (by repeat (first | exact Ext.refl _ | refine Ext.lift ?_ _ | refine Ext.alloc ?_ _))⟩
  · have hv : Hid (withS x.id [x.frm, x.til, x.mins, x.gain] = shotS x) := by show _ = _; unfold shotS; rw [if_pos h]
    have hb := Lib.hid (shotB_bd h)
    go_enter Tryd.func66, Tryd.ntmps66
    go_wp2_with fail
    refine (Shot_valid x _ hs0).mono ?_
    rintro e w' ⟨rfl, y, rfl⟩
    rw [h]
    go_wp2_with fail
    refine (withId_any _ _ 4 [x.frm, x.til, x.mins, x.gain] _ hs0 (intAt_new' _ _ _ _ (by intro k hk; simp at hk; rcases (show k = 0 ∨ k = 1 ∨ k = 2 ∨ k = 3 by omega) with rfl | rfl | rfl | rfl <;> rfl) (by simp only [lift_size, size_new]))
      (by intro k hk; simp at hk; rw [inB_iff]; have := hb.out; rcases (show k = 0 ∨ k = 1 ∨ k = 2 ∨ k = 3 by omega) with rfl | rfl | rfl | rfl <;> simp [nth] <;> omega) (by simp) (HT.out.ext (by repeat (first | exact Ext.refl _ | refine Ext.lift ?_ _ | refine Ext.alloc ?_ _)))).mono ?_
    rintro e w' ⟨rfl, z, rfl⟩
    go_wp2_with fail
    go_ret
    exact ⟨by rw [← hv.out]; rfl, (by repeat (first | exact Ext.refl _ | refine Ext.lift ?_ _ | refine Ext.alloc ?_ _))⟩
end Go.Proofs.YtanafhppifhfmaaDoor

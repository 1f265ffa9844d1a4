/- A stand as text. What the program's and the reference's functions on one hand back. -/
import Derived.Test.YtanafhppifhfmaaDoorStand
import Derived.Test.YtanafhppifhfmaaDoorWithId
namespace Go.Proofs.YtanafhppifhfmaaDoor
open Go.RowKit

def standS (x : Stand) : ByteArray := if standB x = true then withS x.id [x.trees, x.height, x.cover, x.gap] else ⟨#[]⟩
set_option maxRecDepth 100000 in
set_option maxHeartbeats 2000000 in
theorem implStandText (x : Stand) (w : World) (hs0 : x.id.size ≤ 2000000) (ht : Tab w) :
    Gives Tryd.prog 68 #[.agg #[.string x.id, .int .i64 x.trees, .int .i64 x.height, .int .i64 x.cover, .int .i64 x.gap]] w (.string (standS x)) := by
  unfold Gives
  have HT := Lib.hid ht
  clear ht
  cases h : standB x
  · have hv : Hid ((⟨#[]⟩ : ByteArray) = standS x) := by show _ = _; unfold standS; rw [h]; rfl
    go_enter Tryd.func68, Tryd.ntmps68
    go_wp2_with (go_at_call 109; refine (Stand_valid x _ hs0).mono ?_; rintro e w' ⟨rfl, y, rfl⟩; rw [h])
    go_ret
    exact ⟨by rw [← hv.out]; rfl, (by repeat (first | exact Ext.refl _ | refine Ext.lift ?_ _ | refine Ext.alloc ?_ _))⟩
  · have hv : Hid (withS x.id [x.trees, x.height, x.cover, x.gap] = standS x) := by show _ = _; unfold standS; rw [if_pos h]
    have hb := Lib.hid (standB_bd h)
    go_enter Tryd.func68, Tryd.ntmps68
    go_wp2_with fail
    refine (Stand_valid x _ hs0).mono ?_
    rintro e w' ⟨rfl, y, rfl⟩
    rw [h]
    go_wp2_with fail
    refine (withId_any _ _ 4 [x.trees, x.height, x.cover, x.gap] _ hs0 (intAt_new' _ _ _ _ (by intro k hk; simp at hk; rcases (show k = 0 ∨ k = 1 ∨ k = 2 ∨ k = 3 by omega) with rfl | rfl | rfl | rfl <;> rfl) (by simp only [lift_size, size_new]))
      (by intro k hk; simp at hk; rw [inB_iff]; have := hb.out; rcases (show k = 0 ∨ k = 1 ∨ k = 2 ∨ k = 3 by omega) with rfl | rfl | rfl | rfl <;> simp [nth] <;> omega) (by simp) (HT.out.ext (by repeat (first | exact Ext.refl _ | refine Ext.lift ?_ _ | refine Ext.alloc ?_ _)))).mono ?_
    rintro e w' ⟨rfl, z, rfl⟩
    go_wp2_with fail
    go_ret
    exact ⟨by rw [← hv.out]; rfl, (by repeat (first | exact Ext.refl _ | refine Ext.lift ?_ _ | refine Ext.alloc ?_ _))⟩
end Go.Proofs.YtanafhppifhfmaaDoor

/- A group as text. What the program's and the reference's functions on one hand back. -/
import Derived.Test.YtanafhppifhfmaaDoorGroup
import Derived.Test.YtanafhppifhfmaaDoorWithId
namespace Go.Proofs.YtanafhppifhfmaaDoor
open Go.RowKit

def groupS (x : Group) : ByteArray := if groupB x = true then withS x.id [x.people, x.guides, x.beacons, x.shovels, x.probes, x.skill] else ⟨#[]⟩
set_option maxRecDepth 100000 in
set_option maxHeartbeats 2000000 in
theorem implGroupText (x : Group) (w : World) (hs0 : x.id.size ≤ 2000000) (ht : Tab w) :
    Gives Tryd.prog 72 #[.agg #[.string x.id, .int .i64 x.people, .int .i64 x.guides, .int .i64 x.beacons, .int .i64 x.shovels, .int .i64 x.probes, .int .i64 x.skill]] w (.string (groupS x)) := by
  unfold Gives
  have HT := Lib.hid ht
  clear ht
  cases h : groupB x
  · have hv : Hid ((⟨#[]⟩ : ByteArray) = groupS x) := by show _ = _; unfold groupS; rw [h]; rfl
    go_enter Tryd.func72, Tryd.ntmps72
    go_wp2_with (go_at_call 112; refine (Group_valid x _ hs0).mono ?_; rintro e w' ⟨rfl, y, rfl⟩; rw [h])
    go_ret
    exact ⟨by rw [← hv.out]; rfl, (by repeat (first | exact Ext.refl _ | refine Ext.lift ?_ _ | refine Ext.alloc ?_ _))⟩
  · have hv : Hid (withS x.id [x.people, x.guides, x.beacons, x.shovels, x.probes, x.skill] = groupS x) := by show _ = _; unfold groupS; rw [if_pos h]
    have hb := Lib.hid (groupB_bd h)
    go_enter Tryd.func72, Tryd.ntmps72
    go_wp2_with fail
    refine (Group_valid x _ hs0).mono ?_
    rintro e w' ⟨rfl, y, rfl⟩
    rw [h]
    go_wp2_with fail
    refine (withId_any _ _ 6 [x.people, x.guides, x.beacons, x.shovels, x.probes, x.skill] _ hs0 (intAt_new' _ _ _ _ (by intro k hk; simp at hk; rcases (show k = 0 ∨ k = 1 ∨ k = 2 ∨ k = 3 ∨ k = 4 ∨ k = 5 by omega) with rfl | rfl | rfl | rfl | rfl | rfl <;> rfl) (by simp only [lift_size, size_new]))
      (by intro k hk; simp at hk; rw [inB_iff]; have := hb.out; rcases (show k = 0 ∨ k = 1 ∨ k = 2 ∨ k = 3 ∨ k = 4 ∨ k = 5 by omega) with rfl | rfl | rfl | rfl | rfl | rfl <;> simp [nth] <;> omega) (by simp) (HT.out.ext (by repeat (first | exact Ext.refl _ | refine Ext.lift ?_ _ | refine Ext.alloc ?_ _)))).mono ?_
    rintro e w' ⟨rfl, z, rfl⟩
    go_wp2_with fail
    go_ret
    exact ⟨by rw [← hv.out]; rfl, (by repeat (first | exact Ext.refl _ | refine Ext.lift ?_ _ | refine Ext.alloc ?_ _))⟩
end Go.Proofs.YtanafhppifhfmaaDoor

/- A gate's text read back is the gate. Plain Lean (for FnGates). -/
import Derived.Test.YtfiiaegfikocoaaDoorRGate
namespace Go.Proofs.YtfiiaegfikocoaaDoor
open Go.RowKit
theorem gate_no32 {x : Gate} (h : gateB x = true) : (32 : UInt8) ∉ x.id.data.toList := by
  unfold gateB at h
  simp only [Bool.and_eq_true] at h
  exact name_no32 h.1.1.1.1.1
theorem gate_list {x : Gate} (h : gateB x = true) : listP (listT [x.shut, x.opn, x.hold]) = some [x.shut, x.opn, x.hold] := by
  obtain ⟨-, b1, b2, b3, b4, -⟩ := gateB_bd h
  refine listP_iff.2 ⟨rfl, by show 3 ≤ 64; omega, ?_⟩
  rw [List.all_eq_true]
  intro n hn
  rw [inT_iff]
  simp only [List.mem_cons, List.not_mem_nil, or_false] at hn
  rcases hn with rfl | rfl | rfl <;> omega
theorem mkB_of (s : ByteArray) : mkB s.data.toList = s := by unfold mkB; simp
theorem gate_cuts3 {x : Gate} (h : gateB x = true) (hs : x.shuts = false) : cutsB 32 (gateS x) = [x.id, listS [x.shut, x.opn, x.hold], ⟨#[111, 112, 101, 110]⟩] := by
  have e : (gateS x).data.toList = x.id.data.toList ++ 32 :: (listT [x.shut, x.opn, x.hold] ++ 32 :: [111, 112, 101, 110]) := by
    unfold gateS
    rw [if_pos h, if_neg (by rw [hs]; decide), ByteArray.data_append, Array.toList_append, withS_toList]
    simp [openS]
  unfold cutsB
  rw [e, cuts_hit _ (gate_no32 h), cuts_hit _ (listT_free _ 32 (by decide) (by decide) (by decide)), cuts_none (by decide), ← listS_toList]
  simp only [List.map_cons, List.map_nil, mkB_of]
  rfl
theorem gate_cuts4 {x : Gate} (h : gateB x = true) (hs : x.shuts = true) : cutsB 32 (gateS x) = [x.id, listS [x.shut, x.opn, x.hold], ⟨#[115, 104, 117, 116]⟩, decS x.calm] := by
  have e : (gateS x).data.toList = x.id.data.toList ++ 32 :: (listT [x.shut, x.opn, x.hold] ++ 32 :: ([115, 104, 117, 116] ++ 32 :: (decS x.calm).data.toList)) := by
    unfold gateS
    rw [if_pos h, if_pos hs, ByteArray.data_append, Array.toList_append, ByteArray.data_append, Array.toList_append, withS_toList]
    simp [shutS]
  unfold cutsB
  have hd : (32 : UInt8) ∉ (decS x.calm).data.toList := by
    rw [show (decS x.calm).data.toList = Lib.itoa x.calm from (decS_iff.1 rfl).symm]
    exact itoa_free _ 32 (by decide) (by decide)
  rw [e, cuts_hit _ (gate_no32 h), cuts_hit _ (listT_free _ 32 (by decide) (by decide) (by decide)), cuts_hit _ (by decide), cuts_none hd, ← listS_toList]
  simp only [List.map_cons, List.map_nil, mkB_of]
  rfl
/-- A gate's text, read. -/
theorem gate_back {x : Gate} (h : gateB x = true) : readGate (gateS x) = some x := by
  obtain ⟨-, b1, b2, b3, b4, b5⟩ := gateB_bd h
  have hl := gate_list h
  rw [← listS_toList] at hl
  obtain ⟨l1, l2⟩ := list_some hl
  have hn : numsOk (listS [x.shut, x.opn, x.hold]) 3 = true := by unfold numsOk; rw [l1, l2]; rfl
  cases hs : x.shuts
  · have hc := gate_cuts3 h hs
    have hg : gate3 (gateS x) = x := by
      unfold gate3 gateOf
      rw [hc]
      show (⟨x.id, nth (listV (listS [x.shut, x.opn, x.hold])) 0, nth (listV (listS [x.shut, x.opn, x.hold])) 1, nth (listV (listS [x.shut, x.opn, x.hold])) 2, false, 0⟩ : Gate) = x
      rw [l1]
      show (⟨x.id, x.shut, x.opn, x.hold, false, 0⟩ : Gate) = x
      rw [← hs, ← b5 hs]
    have := readGate_yes3 (s := gateS x) (by rw [hc]; rfl) (by rw [hc]; exact hn) (by rw [hc]; exact sEq_iff.2 rfl) (by rw [hg]; exact h)
    rw [hg] at this
    exact this
  · have hc := gate_cuts4 h hs
    have hm := num_some (s := decS x.calm) (n := x.calm) (by rw [show (decS x.calm).data.toList = Lib.itoa x.calm from (decS_iff.1 rfl).symm]; exact numP_itoa (by omega) (by omega))
    have hg : gate4 (gateS x) = x := by
      unfold gate4 gateOf
      rw [hc]
      show (⟨x.id, nth (listV (listS [x.shut, x.opn, x.hold])) 0, nth (listV (listS [x.shut, x.opn, x.hold])) 1, nth (listV (listS [x.shut, x.opn, x.hold])) 2, true, numV (decS x.calm)⟩ : Gate) = x
      rw [l1, hm.1]
      show (⟨x.id, x.shut, x.opn, x.hold, true, x.calm⟩ : Gate) = x
      rw [← hs]
    have := readGate_yes4 (s := gateS x) (by rw [hc]; rfl) (by rw [hc]; exact hn) (by rw [hc]; exact hm.2) (by rw [hc]; exact sEq_iff.2 rfl) (by rw [hg]; exact h)
    rw [hg] at this
    exact this
end Go.Proofs.YtfiiaegfikocoaaDoor

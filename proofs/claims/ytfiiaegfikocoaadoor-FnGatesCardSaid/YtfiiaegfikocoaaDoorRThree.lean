/- A text in three or four pieces, and what stands behind a name and a list. Plain Lean. -/
import Derived.Test.YtfiiaegfikocoaaDoorRWith
namespace Go.Proofs.YtfiiaegfikocoaaDoor
open Go.RowKit
theorem withS_toList (id : ByteArray) (L : List Int) : (withS id L).data.toList = id.data.toList ++ 32 :: listT L := by
  unfold withS
  rw [ByteArray.data_append, ByteArray.data_append, Array.toList_append, Array.toList_append, listS_toList]; simp
theorem three_toList {s : ByteArray} (h : (cutsB 32 s).length = 3) : s.data.toList = (nth (cutsB 32 s) 0).data.toList ++ 32 :: ((nth (cutsB 32 s) 1).data.toList ++ 32 :: (nth (cutsB 32 s) 2).data.toList) := by
  have e := join_cuts (c := 32) s.data.toList
  rw [← cutsB_map] at e
  obtain ⟨Q, hQ⟩ : ∃ Q, Q = cutsB 32 s := ⟨_, rfl⟩
  rw [← hQ] at h e ⊢
  match Q, h with
  | [x, y, z], _ =>
    rw [← e]
    show Lib.join [x.data.toList, y.data.toList, z.data.toList] [32] = _
    rw [join_cons2, join_cons2, Lib.join_one]; simp [nth]
theorem four_toList {s : ByteArray} (h : (cutsB 32 s).length = 4) : s.data.toList = (nth (cutsB 32 s) 0).data.toList ++ 32 :: ((nth (cutsB 32 s) 1).data.toList ++ 32 :: ((nth (cutsB 32 s) 2).data.toList ++ 32 :: (nth (cutsB 32 s) 3).data.toList)) := by
  have e := join_cuts (c := 32) s.data.toList
  rw [← cutsB_map] at e
  obtain ⟨Q, hQ⟩ : ∃ Q, Q = cutsB 32 s := ⟨_, rfl⟩
  rw [← hQ] at h e ⊢
  match Q, h with
  | [x, y, z, u], _ =>
    rw [← e]
    show Lib.join [x.data.toList, y.data.toList, z.data.toList, u.data.toList] [32] = _
    rw [join_cons2, join_cons2, join_cons2, Lib.join_one]; simp [nth]
/-- A name and a list with something behind are a text exactly if that is its rest. -/
theorem with_rest {s p u : ByteArray} {L : List Int} {r : List UInt8} (h : s.data.toList = p.data.toList ++ 32 :: (listT L ++ r)) : withS p L ++ u = s ↔ u.data.toList = r := by
  constructor
  · intro e
    have := congrArg (fun x : ByteArray => x.data.toList) e
    simp only [ByteArray.data_append, Array.toList_append] at this
    rw [withS_toList, h] at this
    simpa using this
  · intro e
    rw [← mk_toList s, ← mk_toList (withS p L ++ u)]
    congr 2
    rw [ByteArray.data_append, Array.toList_append, withS_toList, h, e]; simp
end Go.Proofs.YtfiiaegfikocoaaDoor

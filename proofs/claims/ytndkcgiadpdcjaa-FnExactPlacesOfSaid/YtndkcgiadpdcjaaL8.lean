/- Strings as lists of their bytes: plain Lean. -/
import Derived.Test.YtndkcgiadpdcjaaStrs
import Derived.Test.YtndkcgiadpdcjaaSrt
import Derived.Sort.OwnSorted
namespace Go.Proofs.Ytndkcgiadpdcjaa
open Go.RowKit
open Go.Proofs (encStr)
def L8 (l : List ByteArray) : List (List UInt8) := l.map fun x => x.data.toList
def mkS (x : List UInt8) : ByteArray := ⟨x.toArray⟩
theorem mkS_L (x : ByteArray) : mkS x.data.toList = x := by unfold mkS; simp
theorem L_mkS (x : List UInt8) : (mkS x).data.toList = x := by unfold mkS; simp
theorem L8_mk (l : List (List UInt8)) : L8 (l.map mkS) = l := by
  unfold L8; rw [List.map_map]
  have : ((fun x : ByteArray => x.data.toList) ∘ mkS) = id := funext L_mkS
  rw [this, List.map_id]
theorem mk_L8 (l : List ByteArray) : (L8 l).map mkS = l := by
  unfold L8; rw [List.map_map]
  have : (mkS ∘ fun x : ByteArray => x.data.toList) = id := funext mkS_L
  rw [this, List.map_id]
theorem L8_len (l : List ByteArray) : (L8 l).length = l.length := List.length_map ..
theorem flat_cellS (l : List ByteArray) : flat 1 cellS l = (L8 l).map encStr := by
  induction l with
  | nil => rfl
  | cons x l ih =>
    have : flat 1 cellS (x :: l) = (List.range 1).map (cellS x) ++ flat 1 cellS l := by simp [flat]
    rw [this, ih]
    show _ = encStr x.data.toList :: (L8 l).map encStr
    have e : encStr x.data.toList = .string x := by show Value.string (mkS x.data.toList) = _; rw [mkS_L]
    rw [e]; rfl
def le8 (x y : List UInt8) : Bool := decide (x ≤ y)
def lt8 (x y : List UInt8) : Bool := decide (x < y)
theorem slo_lt8 : SLO lt8 := ⟨fun a b h => by unfold lt8 at *; simp only [decide_eq_true_eq, decide_eq_false_iff_not] at *; exact List.lt_asymm h, fun a b c h k => by unfold lt8 at *; simp only [decide_eq_true_eq] at *; exact List.lt_trans h k, fun a b h k => by unfold lt8 at *; simp only [decide_eq_false_iff_not] at *; exact List.le_antisymm (List.not_lt.1 k) (List.not_lt.1 h)⟩
def sortS (l : List ByteArray) : List ByteArray := ((L8 l).mergeSort le8).map mkS
def compactS (l : List ByteArray) : List ByteArray := (Lib.compact (L8 l)).map mkS
theorem L8_sortS (l : List ByteArray) : L8 (sortS l) = (L8 l).mergeSort le8 := L8_mk _
theorem L8_compactS (l : List ByteArray) : L8 (compactS l) = Lib.compact (L8 l) := L8_mk _
theorem sortS_len (l : List ByteArray) : (sortS l).length = l.length := by unfold sortS; rw [List.length_map, List.length_mergeSort, L8_len]
theorem lt8_L (a b : ByteArray) : lt8 a.data.toList b.data.toList = sLt a b := by
  unfold lt8
  rw [Bool.eq_iff_iff, decide_eq_true_eq, sLt_iff, ByteArray.toList_eq, ByteArray.toList_eq]
end Go.Proofs.Ytndkcgiadpdcjaa

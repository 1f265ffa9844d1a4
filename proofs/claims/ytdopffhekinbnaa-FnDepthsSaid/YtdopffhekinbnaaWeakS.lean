/- WeakDepth of the reference. -/
import Derived.Test.YtdopffhekinbnaaWeakD
namespace Go.Proofs.Ytdopffhekinbnaa
open Go.RowKit
/-- How many of the weak tests among the first k are near a depth. -/
theorem weakTo_near_y {l : List Test} {k : Nat} {near d : Int} (h : classV (nth l k) ≤ 2) : nearN (weakTo l (k + 1)) near d = nearN (weakTo l k) near d + (if -near ≤ (nth l k).depth - d ∧ (nth l k).depth - d ≤ near then 1 else 0) := by rw [weakTo_y h, nearN_snoc]
theorem weakTo_near_n {l : List Test} {k : Nat} {near d : Int} (h : ¬ classV (nth l k) ≤ 2) : nearN (weakTo l (k + 1)) near d = nearN (weakTo l k) near d := by rw [weakTo_n h]
theorem top_y {N : Int → Nat} {l : List Test} {k : Nat} (h : classV (nth l k) ≤ 2) : topTo N (weakTo l (k + 1)) = if (topTo N (weakTo l k)).2 < N (nth l k).depth ∨ (N (nth l k).depth = (topTo N (weakTo l k)).2 ∧ (nth l k).depth < (topTo N (weakTo l k)).1) then ((nth l k).depth, N (nth l k).depth) else topTo N (weakTo l k) := by rw [weakTo_y h, topTo_snoc]
theorem top_n {N : Int → Nat} {l : List Test} {k : Nat} (h : ¬ classV (nth l k) ≤ 2) : topTo N (weakTo l (k + 1)) = topTo N (weakTo l k) := by rw [weakTo_n h]
end Go.Proofs.Ytdopffhekinbnaa

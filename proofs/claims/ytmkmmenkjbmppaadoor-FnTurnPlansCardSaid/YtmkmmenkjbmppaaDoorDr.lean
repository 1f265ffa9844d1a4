/- The state of a draw: the source, what else holds; a list that a call builds as a literal. -/
import Derived.Test.YtmkmmenkjbmppaaDoorDraw1
import Derived.Test.YtmkmmenkjbmppaaDoorAmongI
namespace Go.Proofs.YtmkmmenkjbmppaaDoor
open Go.RowKit
abbrev cellJ : Int → Nat → Value := fun (x : Int) (_ : Nat) => Value.int .i64 x
theorem five {j : Nat} (h : j < 5) : j = 0 ∨ j = 1 ∨ j = 2 ∨ j = 3 ∨ j = 4 := by omega
theorem rows_lit {α : Type} [Inhabited α] {cell : α → Nat → Value} {T : TypeId} (w : World) (cs : Array Value) (l : List α) (h : ∀ k, k < l.length → cs[k]? = some (cell (nth l k) 0)) {n : Nat} (hn : n = w.heap.size) : RowsAt 1 cell (w.alloc (.cells cs T)) (some ⟨n, 0, none⟩) l := fun k hk => by
  subst hn
  exact ⟨_, _, rfl, by rw [size_new]; omega, fun j hj => by
    obtain rfl : j = 0 := by omega
    simp only [Nat.mul_one, Nat.zero_add, Nat.add_zero]; rw [cell_new]; exact h k hk⟩
/-- The state of a draw that began in w: the source, what else holds. -/
structure Dr (w W : World) (sb : Nat) (a : Option Addr) (cap : Nat) (code : List Int) (n : Nat) : Prop where
  src : Src W sb a cap code n
  mv : Moved sb w W
  by0 : ByteAt w a code
  lt : sb < w.heap.size
section
variable {w W W' : World} {sb : Nat} {a : Option Addr} {cap : Nat} {code : List Int} {n : Nat}
theorem Dr.start (h : Src w sb a cap code n) : Dr w w sb a cap code n := ⟨h, Moved.refl _ _, h.bytes, h.lt⟩
theorem Dr.ext (h : Dr w W sb a cap code n) (he : Ext W W') : Dr w W' sb a cap code n := ⟨h.src.ext he, h.mv.more he, h.by0, h.lt⟩
theorem Dr.step {k : Nat} (h : Dr w W sb a cap code n) (hs : Src W' sb a cap code (n + k)) (hm : Moved sb W W') : Dr w W' sb a cap code (n + k) := ⟨hs, h.mv.trans hm, h.by0, h.lt⟩
theorem Dr.set {b o : Nat} (h : Dr w W sb a cap code n) (hb : w.heap.size ≤ b) (v : Value) : Dr w (W.setCell ⟨b, o, none⟩ v) sb a cap code n :=
  ⟨h.src.other h.by0 hb (by have := h.lt; omega) v, h.mv.fresh hb v, h.by0, h.lt⟩
theorem Dr.size (h : Dr w W sb a cap code n) : w.heap.size ≤ W.heap.size := h.mv.size
theorem Dr.grown {row : Option Nat} (h : Dr w W sb a cap code n) (hg : W.grownBy W' row) (hr : ∀ g, row = some g → w.heap.size ≤ g) : Dr w W' sb a cap code n :=
  ⟨h.src.grown hg hr h.lt h.by0 (Nat.le_refl _), h.mv.grown hg hr, h.by0, h.lt⟩
end
end Go.Proofs.YtmkmmenkjbmppaaDoor

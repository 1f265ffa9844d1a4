/- Lists of strings that a call builds, and the law's own helpers on them. No conditions. -/
import Derived.Test.YtmkmmenkjbmppaaDoorMark
import Derived.Test.YtmkmmenkjbmppaaDoorLst
namespace Go.Proofs.YtmkmmenkjbmppaaDoor
open Go.RowKit
abbrev cellS : ByteArray → Nat → Value := fun (x : ByteArray) (_ : Nat) => Value.string x
abbrev StrAt (w : World) (a : Option Addr) (l : List ByteArray) : Prop := RowsAt 1 cellS w a l
theorem oneStr : ∀ (x : ByteArray) (j : Nat), j < 1 → (cellS x j).oneCell' = true := fun _ _ _ => rfl
theorem StrAt.at {w : World} {b off : Nat} {l : List ByteArray} (h : StrAt w (some ⟨b, off, none⟩) l) (k : Nat) (hk : k < l.length) : b < w.heap.size ∧ w.cell? ⟨b, off + k, none⟩ = some (.string (nth l k)) :=
  let h' := RowsAt.at h k hk; ⟨h'.1, by have := h'.2 0 (by decide); rwa [Nat.mul_one] at this⟩
theorem rows_str {T : TypeId} (w : World) (x : ByteArray) {n : Nat} (hn : n = w.heap.size) : StrAt (w.alloc (.cells #[.string x] T)) (some ⟨n, 0, none⟩) [x] := by
  subst hn
  refine rows_new (n := 1) (cell := cellS) w #[.string x] x (fun j hj => ?_)
  obtain rfl : j = 0 := by omega
  rfl
theorem elStrs : El Tryd.prog 39 9 1 16 := El.mk' Tryd.underlying39 (by kernel_rfl) (by decide)
end Go.Proofs.YtmkmmenkjbmppaaDoor

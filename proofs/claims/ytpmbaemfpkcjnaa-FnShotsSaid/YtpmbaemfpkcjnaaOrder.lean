/- Orders: different indices of a list. -/
import Derived.Test.YtpmbaemfpkcjnaaLists
namespace Go.Proofs.Ytpmbaemfpkcjnaa
open Go.RowKit
def ordAt (n : Nat) (l : List Int) (k : Nat) : Bool := inB (nth l k) 0 ((n : Int) - 1) && !hasB (l.take k) (nth l k)
def orderB (n : Nat) (l : List Int) : Bool := allB l.length (ordAt n l)
theorem ordAt_false1 {n : Nat} {l : List Int} {k : Nat} (h : inB (nth l k) 0 ((n : Int) - 1) = false) : ordAt n l k = false := by unfold ordAt; rw [h]; rfl
theorem ordAt_eq {n : Nat} {l : List Int} {k : Nat} {b : Bool} (h : inB (nth l k) 0 ((n : Int) - 1) = true) (h' : hasB (l.take k) (nth l k) = b) : ordAt n l k = !b := by unfold ordAt; rw [h, h']; rfl
theorem orderB_in {n : Nat} {l : List Int} (h : orderB n l = true) : ∀ k, k < l.length → 0 ≤ nth l k ∧ nth l k < n := fun k hk => by
  have := allB_iff.1 h k hk
  unfold ordAt at this
  simp only [Bool.and_eq_true, inB_iff] at this
  omega
end Go.Proofs.Ytpmbaemfpkcjnaa

/- How a byte of a slice reads. No conditions. -/
import Derived.Test.YtpmbaemfpkcjnaaLift
namespace Go.Proofs.Ytpmbaemfpkcjnaa
open Go.ChangeShapes Go.WideShapes Go.ChangeAt Go.RowKit
theorem byte_el {H : Type} {enc : TypeId × Value → H} {W : World} {base : Nat} {spare : Nat → Bool} {held : Bool} {n : Nat} {cs : List Value} {x : DataW H × List MemPlace} (h : DataW.trod enc Try.prog W base spare held n 5 cs = some x) :
    ∃ y : UInt8, True ∧ ∀ j, j < 1 → cs[j]? = some ((fun (x : UInt8) (_ : Nat) => Value.int .u8 x.toNat) y j) := by
  obtain ⟨v, e, _, z⟩ := DataW.trod_int Try.underlying5 h
  subst e
  have hb : 0 ≤ v ∧ v ≤ 255 := by simpa [Lit.wf, IntKind.min, IntKind.max, IntKind.signed, IntKind.bits] using z
  refine ⟨UInt8.ofNat v.toNat, trivial, fun j hj => ?_⟩
  obtain rfl : j = 0 := by omega
  have e : ((UInt8.ofNat v.toNat).toNat : Int) = v := by
    rw [UInt8.toNat_ofNat']; omega
  show some (Value.int .u8 v) = some (Value.int .u8 ((UInt8.ofNat v.toNat).toNat : Int))
  rw [e]
end Go.Proofs.Ytpmbaemfpkcjnaa

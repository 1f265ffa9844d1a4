/- The law's own marks: what 'markText' writes, and marks in lists of numbers. -/
import Derived.Test.YtmkmmenkjbmppaaDoorBasics
import Derived.Test.YtmkmmenkjbmppaaDoorOut
namespace Go.Proofs.YtmkmmenkjbmppaaDoor
open Go.RowKit
/-- One digit ahead of a text, as the marks have it. -/
def digB (n : Nat) : UInt8 := UInt8.ofNat (48 + n % 10)
def markFin : Nat → Nat → ByteArray → ByteArray
  | 0, _, out => out
  | f + 1, n, out => if n = 0 then out else markFin f (n / 10) (⟨#[digB n]⟩ ++ out)
/-- The text for a number. -/
def markS (k : Int) : ByteArray := if k ≤ 0 then ⟨#[109, 48]⟩ else ⟨#[109]⟩ ++ markFin 20 k.toNat ⟨#[]⟩
end Go.Proofs.YtmkmmenkjbmppaaDoor

/- A name, a space and a list of numbers as text. -/
import Derived.Test.YtbcpgdidajapoaaDoorListText
import Derived.Test.YtbcpgdidajapoaaDoorAnd
import Derived.StillTailTactics
namespace Go.Proofs.YtbcpgdidajapoaaDoor
open Go.RowKit
def withS (id : ByteArray) (l : List Int) : ByteArray := id ++ ⟨#[32]⟩ ++ listS l
theorem listS_size {l : List Int} (h : ∀ k, k < l.length → -9223372036854775808 ≤ nth l k ∧ nth l k ≤ 9223372036854775807) : (listS l).size ≤ 22 * l.length + 1 := by
  unfold listS; split
  · show 1 ≤ _; omega
  · have := joinK_size h (Nat.le_refl _); omega
theorem withS_size {id : ByteArray} {l : List Int} (h : ∀ k, k < l.length → -9223372036854775808 ≤ nth l k ∧ nth l k ≤ 9223372036854775807) : (withS id l).size ≤ id.size + 22 * l.length + 2 := by
  unfold withS; rw [ByteArray.size_append, ByteArray.size_append]; have := listS_size h; have : (⟨#[32]⟩ : ByteArray).size = 1 := rfl; omega
end Go.Proofs.YtbcpgdidajapoaaDoor

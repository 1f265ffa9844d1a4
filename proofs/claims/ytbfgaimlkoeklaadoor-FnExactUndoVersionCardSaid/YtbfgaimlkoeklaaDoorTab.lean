/- The variables that the rows list: what the listing gives, and a start that meets it. -/
import Derived.Test.YtbfgaimlkoeklaaDoorCards
import Derived.Test.YtbfgaimlkoeklaaDoorTie
import Derived.Test.YtbfgaimlkoeklaaDoorDec
import Derived.Test.YtbfgaimlkoeklaaDoorLift
import Derived.Deep.DeepHandedRow
import Derived.Lib.LaidTab
namespace Go.Proofs.YtbfgaimlkoeklaaDoor
open Go.ChangeShapes Go.WideShapes Go.ChangeAt Go.RowKit
theorem gTab : Tryd.prog.globalNamed "internal/strconv.uint64pow10" = some 0 := by kernel_rfl
def laidList : List (String × DataW Unit) := [("math/bits.deBruijn32tab", Rows.laid_math_bits_deBruijn32tab), ("math/bits.deBruijn64tab", Rows.laid_math_bits_deBruijn64tab), ("internal/strconv.uint64pow10", Rows.laid_internal_strconv_uint64pow10)]
theorem gTabType : (Tryd.prog.globals[0]?).map (·.type) = some 134 := by kernel_rfl
theorem tab_of_laid {W : World} (h : laidMetH Tryd.prog laidList W) : Tab W := by
  have h2 := h.filter (fun x => x.1.length == 28)
  exact Lib.tabIs_of_head (rest := []) gTab gTabType Tryd.underlying134 Tryd.underlying100 (by kernel_rfl) (by kernel_rfl) h2
def datCells : DataW Unit → Array Value
  | .agg l => (l.map fun | .lit (.int k n) => Value.int k n | _ => .nilFunc).toArray
  | _ => #[]
def putCells (c : Array Value) : Obj → Obj
  | .cells _ t frozen => .cells c t frozen
  | o => o
/-- A world for the witness. -/
noncomputable def laidWorld (os : Os) : World :=
  { World.holding Tryd.prog os ⟨#[], #[], []⟩ with heap := (((World.holding Tryd.prog os ⟨#[], #[], []⟩).heap.modify 0 (putCells (datCells Rows.laid_internal_strconv_uint64pow10))).modify 1 (putCells (datCells Rows.laid_math_bits_deBruijn32tab))).modify 2 (putCells (datCells Rows.laid_math_bits_deBruijn64tab)) }
end Go.Proofs.YtbfgaimlkoeklaaDoor

/- Chapter 25: the reference's searches for the best order and the best teams. -/
import Derived.Test.YtccbcjopmkmipaaDoorLsI
import Derived.Test.YtccbcjopmkmipaaDoorWorth
import Derived.Laws.AppendOwnNone
namespace Go.Proofs.YtccbcjopmkmipaaDoor
open Go.RowKit
theorem Lst.nilcap {α : Type} {n T : Nat} {cell : α → Nat → Value} {w : World} {base : Nat} {m cap : Nat} {l : List α} (h : Lst T n cell w base (.slice none m cap) l) : m = 0 ∧ cap = 0 := by
  rcases h.2 with ⟨h1, -⟩ | ⟨g, c, cur, h1, -⟩
  · simp only [Value.slice.injEq, true_and] at h1; exact h1
  · simp at h1
end Go.Proofs.YtccbcjopmkmipaaDoor

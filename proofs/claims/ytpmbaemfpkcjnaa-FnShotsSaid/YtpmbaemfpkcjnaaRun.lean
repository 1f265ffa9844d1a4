/- Chapter 22: the reference's search through plans of shots. -/
import Derived.Test.YtpmbaemfpkcjnaaGain
import Derived.Laws.AppendOwnNone
namespace Go.Proofs.Ytpmbaemfpkcjnaa
open Go.RowKit
theorem Lst.nilcap {α : Type} {n T : Nat} {cell : α → Nat → Value} {w : World} {base : Nat} {m cap : Nat} {l : List α} (h : Lst T n cell w base (.slice none m cap) l) : m = 0 ∧ cap = 0 := by
  rcases h.2 with ⟨h1, -⟩ | ⟨g, c, cur, h1, -⟩
  · simp only [Value.slice.injEq, true_and] at h1; exact h1
  · simp at h1
def updS (l : List Shot) (all : Bool) (ord : List Int) (s : St) : St :=
  if (!all && decide (s.most < gainS l ord) || all && ord.length == l.length) = true then ⟨ord, gainS l ord, s.left, all⟩ else s
theorem updS_t {l : List Shot} {all : Bool} {ord : List Int} {s : St} (h : (!all && decide (s.most < gainS l ord) || all && ord.length == l.length) = true) : updS l all ord s = ⟨ord, gainS l ord, s.left, all⟩ := if_pos h
theorem updS_f {l : List Shot} {all : Bool} {ord : List Int} {s : St} (h : (!all && decide (s.most < gainS l ord) || all && ord.length == l.length) = false) : updS l all ord s = s := if_neg (by rw [h]; decide)
end Go.Proofs.Ytpmbaemfpkcjnaa

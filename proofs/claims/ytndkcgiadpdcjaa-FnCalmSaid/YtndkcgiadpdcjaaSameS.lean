/- Pairs of incidents at a place: what the reference hands back. -/
import Derived.Test.YtndkcgiadpdcjaaSameP
namespace Go.Proofs.Ytndkcgiadpdcjaa
open Go.RowKit
/-- A call that hands back a list of lists, and further values. -/
def OutII (w : World) (L : List (List Int)) (rest : List Value) (e : Ending) (w' : World) : Prop :=
  ∃ v vs gs, e = .returned (.tuple (v :: rest).toArray) ∧ BII w' w.heap.size v L vs gs ∧ Ext w w'
end Go.Proofs.Ytndkcgiadpdcjaa

/- The source of draws: one in so many; a text out of a few. -/
import Derived.Test.YtdopffhekinbnaaMoved
import Derived.Deep.RegionLaw
namespace Go.Proofs.Ytdopffhekinbnaa
open Go.RowKit
theorem step_callD {P : Program} {ops : Array Oper} {o : Oper} {a : Act} {w : World} {K : Act → World → Prop} {Q : Exit → Act → World → Prop} {X : Prop} (hgd : o.guard = none) (f : FuncId) (args : Array Value) (hrun : (execOp a.eval o).run P w = .ok (.enter f args) w)
    (hc : Calls P f args w fun e w' => ∃ v, e = .returned v ∧ K (a.put o.dst v) w') : if Region.wanted o (yielded ops a.tmps) = true then Oper.wp P o a w K Q else X := by
  have hw : Region.wanted o (yielded ops a.tmps) = true := by simp [Region.wanted, hgd]
  rw [if_pos hw]
  unfold Oper.wp
  rw [hrun]
  exact hc.mono fun e w' ⟨v, he, hk⟩ => by subst he; exact hk
end Go.Proofs.Ytdopffhekinbnaa

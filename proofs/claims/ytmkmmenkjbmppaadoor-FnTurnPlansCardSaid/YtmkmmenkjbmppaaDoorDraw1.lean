/- The source of draws: one in so many; a text out of a few. -/
import Derived.Test.YtmkmmenkjbmppaaDoorMoved
import Derived.Deep.RegionLaw
namespace Go.Proofs.YtmkmmenkjbmppaaDoor
open Go.RowKit
theorem step_callD {P : Program} {ops : Array Oper} {o : Oper} {a : Act} {w : World} {K : Act → World → Prop} {Q : Exit → Act → World → Prop} {X : Prop} (hgd : o.guard = none) (f : FuncId) (args : Array Value) (hrun : (execOp a.eval o).run P w = .ok (.enter f args) w)
    (hc : Calls P f args w fun e w' => ∃ v, e = .returned v ∧ K (a.put o.dst v) w') : if Region.wanted o (yielded ops a.tmps) = true then Oper.wp P o a w K Q else X := by
  have hw : Region.wanted o (yielded ops a.tmps) = true := by simp [Region.wanted, hgd]
  rw [if_pos hw]
  unfold Oper.wp
  rw [hrun]
  exact hc.mono fun e w' ⟨v, he, hk⟩ => by subst he; exact hk
set_option maxRecDepth 100000 in
theorem one_any (w : World) (sb : Nat) (a : Option Addr) (cap : Nat) (code : List Int) (n : Nat) (H : Src w sb a cap code n) (hn : n ≤ 900000000) (m : Int) (hm : m ≤ 65536) :
    Calls Tryd.prog 26 #[.pointer (some ⟨sb, 0, none⟩), .int .i64 m] w fun e w' => ∃ (b : Bool) (k : Nat), e = .returned (.bool b) ∧ k ≤ 2 ∧ Src w' sb a cap code (n + k) ∧ Moved sb w w' := by
  have HP := Lib.hid (pick_any w sb a cap code n H hn m hm)
  clear H
  go_enter Tryd.func26, Tryd.ntmps26
  go_wp2_with fail
  refine HP.out.mono ?_
  rintro e w' ⟨r, k, rfl, p0, p1, hk, S, M⟩
  have S := Lib.hid S
  have M := Lib.hid M
  clear HP p1
  go_wp2_with fail
  go_ret
  exact ⟨_, k, rfl, hk, S.out, M.out⟩
end Go.Proofs.YtmkmmenkjbmppaaDoor

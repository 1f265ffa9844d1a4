/- How a slice of areas reads. -/
import Derived.Test.YtcmgijidehlkjaaSearch
import Derived.Test.YtcmgijidehlkjaaLift
namespace Go.Proofs.Ytcmgijidehlkjaa
open Go.RowKit
open Go.ChangeShapes Go.WideShapes Go.ChangeAt
open Go.ChangeMaps (open_string shut_string)
set_option maxRecDepth 100000 in
theorem Area.el {H : Type} {enc : TypeId × Value → H} {W : World} {base : Nat} {spare : Nat → Bool} {held : Bool} {n : Nat} {cs : List Value} {x : DataW H × List MemPlace} (h : DataW.trod enc Try.prog W base spare held n 44 cs = some x) :
    ∃ y : Area, (y.Sz ∧ y.Wf) ∧ ∀ j, j < 3 → cs[j]? = some (y.cell j) := by
  obtain ⟨xs, m, _, rfl, hl, hx, hf⟩ := DataW.trod_struct Try.underlying44 h
  rw [show Try.prog.cellsOf 44 = 3 by kernel_rfl] at hl
  match cs, hl with
  | [c0, c1, c2], _ =>
  match xs, hx with
  | [y0, y1, y2], _ =>
  have kint : Try.prog.cellsOf 2 = 1 := by kernel_rfl
  have kstr : Try.prog.cellsOf 9 = 1 := by kernel_rfl
  have f0 : DataW.trod enc Try.prog W base spare held m 9 (List.take (Try.prog.cellsOf 9) (List.drop 0 [c0, c1, c2])) = some y0 := hf 0 _ rfl
  simp only [kstr, List.drop_zero, List.take_succ_cons, List.take_zero] at f0
  obtain ⟨v0, e0, _, z0⟩ := DataW.trod_string Try.underlying9 f0
  have f1 : DataW.trod enc Try.prog W base spare held m 2 (List.take (Try.prog.cellsOf 2) (List.drop 1 [c0, c1, c2])) = some y1 := hf 1 _ rfl
  simp only [kint, List.drop_zero, List.drop_succ_cons, List.take_succ_cons, List.take_zero] at f1
  obtain ⟨v1, e1, _, z1⟩ := DataW.trod_int Try.underlying2 f1
  have f2 : DataW.trod enc Try.prog W base spare held m 2 (List.take (Try.prog.cellsOf 2) (List.drop 2 [c0, c1, c2])) = some y2 := hf 2 _ rfl
  simp only [kint, List.drop_zero, List.drop_succ_cons, List.take_succ_cons, List.take_zero] at f2
  obtain ⟨v2, e2, _, z2⟩ := DataW.trod_int Try.underlying2 f2
  simp only [List.cons.injEq, and_true] at e0 e1 e2
  subst e0 e1 e2
  exact ⟨⟨v0, v1, v2⟩, ⟨(by have := z0; unfold maxLen at this; exact this), ⟨(wf_bd z1), (wf_bd z2)⟩⟩, fun j hj => by rcases (show j = 0 ∨ j = 1 ∨ j = 2 by omega) with rfl | rfl | rfl <;> rfl⟩
set_option maxRecDepth 100000 in
theorem Area.op {H : Type} {enc : TypeId × Value → H} {W : World} {r : Reach} {b0 base : Nat} {spare : Nat → Bool} {held : Bool} {v : Value} {d : DataW H} {p : List MemPlace} (hv : Value.okWide Try.prog W r b0 44 v) (h : DataW.Trod enc Try.prog W base spare held 44 v d p) :
    ∃ y : Area, v = y.val ∧ y.Sz ∧ y.Wf := by
  obtain ⟨cs, rfl, hsz⟩ := okWide_struct Try.underlying44 hv
  rw [show Try.prog.cellsOf 44 = 3 by kernel_rfl] at hsz
  obtain ⟨fuel, hf⟩ := h
  obtain ⟨y, hq, hc⟩ := Area.el hf
  exact ⟨y, by rw [agg_eq y.cell hsz hc]; rfl, hq⟩
end Go.Proofs.Ytcmgijidehlkjaa

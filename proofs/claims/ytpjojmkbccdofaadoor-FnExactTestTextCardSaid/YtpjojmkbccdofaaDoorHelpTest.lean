/- The law's own helpers on the type Test, and how one reads. -/
import Derived.Test.YtpjojmkbccdofaaDoorTest
import Derived.Test.YtpjojmkbccdofaaDoorMark
import Derived.Test.YtpjojmkbccdofaaDoorLift
namespace Go.Proofs.YtpjojmkbccdofaaDoor
open Go.RowKit
set_option maxRecDepth 100000 in
set_option maxHeartbeats 1000000 in
theorem toTest_any (x : Test) (w : World) :
    Gives Tryd.prog 33 #[.agg #[.int .i64 x.kind, .int .i64 x.score, .int .i64 x.quality, .int .i64 x.depth, .int .i64 x.hour]] w (.agg #[.int .i64 x.kind, .int .i64 x.score, .int .i64 x.quality, .int .i64 x.depth, .int .i64 x.hour]) := by
  unfold Gives
  go_enter Tryd.func33, Tryd.ntmps33
  go_wp2
  exact bodyPost_ret (v := .agg #[.int .i64 x.kind, .int .i64 x.score, .int .i64 x.quality, .int .i64 x.depth, .int .i64 x.hour]) (by simp [results, Tryd.results33, go_sem]) rfl ⟨rfl, (((Ext.refl _).alloc _).alloc _).alloc _⟩
open Go.ChangeShapes Go.WideShapes Go.ChangeAt
open Go.ChangeMaps (open_string shut_string)
set_option maxRecDepth 100000 in
theorem Test.el {H : Type} {enc : TypeId × Value → H} {W : World} {base : Nat} {spare : Nat → Bool} {held : Bool} {n : Nat} {cs : List Value} {x : DataW H × List MemPlace} (h : DataW.trod enc Tryd.prog W base spare held n 56 cs = some x) :
    ∃ y : Test, (y.Sz ∧ y.Wf) ∧ ∀ j, j < 5 → cs[j]? = some (y.cell j) := by
  obtain ⟨xs, m, _, rfl, hl, hx, hf⟩ := DataW.trod_struct Tryd.underlying56 h
  rw [show Tryd.prog.cellsOf 56 = 5 by kernel_rfl] at hl
  match cs, hl with
  | [c0, c1, c2, c3, c4], _ =>
  match xs, hx with
  | [y0, y1, y2, y3, y4], _ =>
  have kint : Tryd.prog.cellsOf 2 = 1 := by kernel_rfl
  have f0 : DataW.trod enc Tryd.prog W base spare held m 2 (List.take (Tryd.prog.cellsOf 2) (List.drop 0 [c0, c1, c2, c3, c4])) = some y0 := hf 0 _ rfl
  simp only [kint, List.drop_zero, List.take_succ_cons, List.take_zero] at f0
  obtain ⟨v0, e0, _, z0⟩ := DataW.trod_int Tryd.underlying2 f0
  have f1 : DataW.trod enc Tryd.prog W base spare held m 2 (List.take (Tryd.prog.cellsOf 2) (List.drop 1 [c0, c1, c2, c3, c4])) = some y1 := hf 1 _ rfl
  simp only [kint, List.drop_zero, List.drop_succ_cons, List.take_succ_cons, List.take_zero] at f1
  obtain ⟨v1, e1, _, z1⟩ := DataW.trod_int Tryd.underlying2 f1
  have f2 : DataW.trod enc Tryd.prog W base spare held m 2 (List.take (Tryd.prog.cellsOf 2) (List.drop 2 [c0, c1, c2, c3, c4])) = some y2 := hf 2 _ rfl
  simp only [kint, List.drop_zero, List.drop_succ_cons, List.take_succ_cons, List.take_zero] at f2
  obtain ⟨v2, e2, _, z2⟩ := DataW.trod_int Tryd.underlying2 f2
  have f3 : DataW.trod enc Tryd.prog W base spare held m 2 (List.take (Tryd.prog.cellsOf 2) (List.drop 3 [c0, c1, c2, c3, c4])) = some y3 := hf 3 _ rfl
  simp only [kint, List.drop_zero, List.drop_succ_cons, List.take_succ_cons, List.take_zero] at f3
  obtain ⟨v3, e3, _, z3⟩ := DataW.trod_int Tryd.underlying2 f3
  have f4 : DataW.trod enc Tryd.prog W base spare held m 2 (List.take (Tryd.prog.cellsOf 2) (List.drop 4 [c0, c1, c2, c3, c4])) = some y4 := hf 4 _ rfl
  simp only [kint, List.drop_zero, List.drop_succ_cons, List.take_succ_cons, List.take_zero] at f4
  obtain ⟨v4, e4, _, z4⟩ := DataW.trod_int Tryd.underlying2 f4
  simp only [List.cons.injEq, and_true] at e0 e1 e2 e3 e4
  subst e0 e1 e2 e3 e4
  exact ⟨⟨v0, v1, v2, v3, v4⟩, ⟨trivial, ⟨(wf_bd z0), (wf_bd z1), (wf_bd z2), (wf_bd z3), (wf_bd z4)⟩⟩, fun j hj => by rcases (show j = 0 ∨ j = 1 ∨ j = 2 ∨ j = 3 ∨ j = 4 by omega) with rfl | rfl | rfl | rfl | rfl <;> rfl⟩
set_option maxRecDepth 100000 in
theorem Test.op {H : Type} {enc : TypeId × Value → H} {W : World} {r : Reach} {b0 base : Nat} {spare : Nat → Bool} {held : Bool} {v : Value} {d : DataW H} {p : List MemPlace} (hv : Value.okWide Tryd.prog W r b0 56 v) (h : DataW.Trod enc Tryd.prog W base spare held 56 v d p) :
    ∃ y : Test, v = y.val ∧ y.Sz ∧ y.Wf := by
  obtain ⟨cs, rfl, hsz⟩ := okWide_struct Tryd.underlying56 hv
  rw [show Tryd.prog.cellsOf 56 = 5 by kernel_rfl] at hsz
  obtain ⟨fuel, hf⟩ := h
  obtain ⟨y, hq, hc⟩ := Test.el hf
  exact ⟨y, by rw [agg_eq y.cell hsz hc]; rfl, hq⟩
end Go.Proofs.YtpjojmkbccdofaaDoor

/- The law's own helpers on the type Incident, and how one reads. -/
import Derived.Test.YtpjojmkbccdofaaDoorIncident
import Derived.Test.YtpjojmkbccdofaaDoorMark
import Derived.Test.YtpjojmkbccdofaaDoorLift
namespace Go.Proofs.YtpjojmkbccdofaaDoor
open Go.RowKit
set_option maxRecDepth 100000 in
set_option maxHeartbeats 1000000 in
theorem szIncident_any (x : Incident) (left : Int) (w : World) (hs : x.Sz) (h0 : 0 ≤ left) (h1 : left ≤ 1000000000000) :
    Calls Tryd.prog 51 #[.agg #[.int .i64 x.day, .string x.place, .string x.cause, .int .i64 x.level, .int .i64 x.caught, .int .i64 x.buried], .int .i64 left] w fun e w' => ∃ r : Int, e = .returned (.int .i64 r) ∧ Ext w w' ∧ -1 ≤ r ∧ r ≤ left ∧ (0 ≤ r → ((x.place.size : Int) ≤ left) ∧ ((x.cause.size : Int) ≤ left)) := by
  unfold Incident.Sz at hs
  go_enter Tryd.func51, Tryd.ntmps51
  go_wp2
  all_goals
    go_ret
    exact ⟨_, rfl, (Ext.refl _).alloc _, by omega, by omega, fun h => by omega⟩
set_option maxRecDepth 100000 in
set_option maxHeartbeats 1000000 in
theorem toIncident_any (x : Incident) (w : World) :
    Gives Tryd.prog 53 #[.agg #[.int .i64 x.day, .string x.place, .string x.cause, .int .i64 x.level, .int .i64 x.caught, .int .i64 x.buried]] w (.agg #[.int .i64 x.day, .string x.place, .string x.cause, .int .i64 x.level, .int .i64 x.caught, .int .i64 x.buried]) := by
  unfold Gives
  go_enter Tryd.func53, Tryd.ntmps53
  go_wp2
  exact bodyPost_ret (v := .agg #[.int .i64 x.day, .string x.place, .string x.cause, .int .i64 x.level, .int .i64 x.caught, .int .i64 x.buried]) (by simp [results, Tryd.results53, go_sem]) rfl ⟨rfl, (((Ext.refl _).alloc _).alloc _).alloc _⟩
open Go.ChangeShapes Go.WideShapes Go.ChangeAt
open Go.ChangeMaps (open_string shut_string)
set_option maxRecDepth 100000 in
theorem Incident.el {H : Type} {enc : TypeId × Value → H} {W : World} {base : Nat} {spare : Nat → Bool} {held : Bool} {n : Nat} {cs : List Value} {x : DataW H × List MemPlace} (h : DataW.trod enc Tryd.prog W base spare held n 93 cs = some x) :
    ∃ y : Incident, (y.Sz ∧ y.Wf) ∧ ∀ j, j < 6 → cs[j]? = some (y.cell j) := by
  obtain ⟨xs, m, _, rfl, hl, hx, hf⟩ := DataW.trod_struct Tryd.underlying93 h
  rw [show Tryd.prog.cellsOf 93 = 6 by kernel_rfl] at hl
  match cs, hl with
  | [c0, c1, c2, c3, c4, c5], _ =>
  match xs, hx with
  | [y0, y1, y2, y3, y4, y5], _ =>
  have kint : Tryd.prog.cellsOf 2 = 1 := by kernel_rfl
  have kstr : Tryd.prog.cellsOf 9 = 1 := by kernel_rfl
  have f0 : DataW.trod enc Tryd.prog W base spare held m 2 (List.take (Tryd.prog.cellsOf 2) (List.drop 0 [c0, c1, c2, c3, c4, c5])) = some y0 := hf 0 _ rfl
  simp only [kint, List.drop_zero, List.take_succ_cons, List.take_zero] at f0
  obtain ⟨v0, e0, _, z0⟩ := DataW.trod_int Tryd.underlying2 f0
  have f1 : DataW.trod enc Tryd.prog W base spare held m 9 (List.take (Tryd.prog.cellsOf 9) (List.drop 1 [c0, c1, c2, c3, c4, c5])) = some y1 := hf 1 _ rfl
  simp only [kstr, List.drop_zero, List.drop_succ_cons, List.take_succ_cons, List.take_zero] at f1
  obtain ⟨v1, e1, _, z1⟩ := DataW.trod_string Tryd.underlying9 f1
  have f2 : DataW.trod enc Tryd.prog W base spare held m 9 (List.take (Tryd.prog.cellsOf 9) (List.drop 2 [c0, c1, c2, c3, c4, c5])) = some y2 := hf 2 _ rfl
  simp only [kstr, List.drop_zero, List.drop_succ_cons, List.take_succ_cons, List.take_zero] at f2
  obtain ⟨v2, e2, _, z2⟩ := DataW.trod_string Tryd.underlying9 f2
  have f3 : DataW.trod enc Tryd.prog W base spare held m 2 (List.take (Tryd.prog.cellsOf 2) (List.drop 3 [c0, c1, c2, c3, c4, c5])) = some y3 := hf 3 _ rfl
  simp only [kint, List.drop_zero, List.drop_succ_cons, List.take_succ_cons, List.take_zero] at f3
  obtain ⟨v3, e3, _, z3⟩ := DataW.trod_int Tryd.underlying2 f3
  have f4 : DataW.trod enc Tryd.prog W base spare held m 2 (List.take (Tryd.prog.cellsOf 2) (List.drop 4 [c0, c1, c2, c3, c4, c5])) = some y4 := hf 4 _ rfl
  simp only [kint, List.drop_zero, List.drop_succ_cons, List.take_succ_cons, List.take_zero] at f4
  obtain ⟨v4, e4, _, z4⟩ := DataW.trod_int Tryd.underlying2 f4
  have f5 : DataW.trod enc Tryd.prog W base spare held m 2 (List.take (Tryd.prog.cellsOf 2) (List.drop 5 [c0, c1, c2, c3, c4, c5])) = some y5 := hf 5 _ rfl
  simp only [kint, List.drop_zero, List.drop_succ_cons, List.take_succ_cons, List.take_zero] at f5
  obtain ⟨v5, e5, _, z5⟩ := DataW.trod_int Tryd.underlying2 f5
  simp only [List.cons.injEq, and_true] at e0 e1 e2 e3 e4 e5
  subst e0 e1 e2 e3 e4 e5
  exact ⟨⟨v0, v1, v2, v3, v4, v5⟩, ⟨⟨(by have := z1; unfold maxLen at this; exact this), (by have := z2; unfold maxLen at this; exact this)⟩, ⟨(wf_bd z0), (wf_bd z3), (wf_bd z4), (wf_bd z5)⟩⟩, fun j hj => by rcases (show j = 0 ∨ j = 1 ∨ j = 2 ∨ j = 3 ∨ j = 4 ∨ j = 5 by omega) with rfl | rfl | rfl | rfl | rfl | rfl <;> rfl⟩
set_option maxRecDepth 100000 in
theorem Incident.op {H : Type} {enc : TypeId × Value → H} {W : World} {r : Reach} {b0 base : Nat} {spare : Nat → Bool} {held : Bool} {v : Value} {d : DataW H} {p : List MemPlace} (hv : Value.okWide Tryd.prog W r b0 93 v) (h : DataW.Trod enc Tryd.prog W base spare held 93 v d p) :
    ∃ y : Incident, v = y.val ∧ y.Sz ∧ y.Wf := by
  obtain ⟨cs, rfl, hsz⟩ := okWide_struct Tryd.underlying93 hv
  rw [show Tryd.prog.cellsOf 93 = 6 by kernel_rfl] at hsz
  obtain ⟨fuel, hf⟩ := h
  obtain ⟨y, hq, hc⟩ := Incident.el hf
  exact ⟨y, by rw [agg_eq y.cell hsz hc]; rfl, hq⟩
end Go.Proofs.YtpjojmkbccdofaaDoor

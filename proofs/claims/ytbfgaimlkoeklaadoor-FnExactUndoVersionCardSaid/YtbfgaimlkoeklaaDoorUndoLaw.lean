/- The law FnExactUndoVersion: whatever the history and the number, the program's history with the state before a version is the reference's, in memory of its own. The row asks that Go's strconv's table reads as it is laid. -/
import Derived.Test.YtbfgaimlkoeklaaDoorUndo
import Derived.Test.YtbfgaimlkoeklaaDoorTab
import Derived.Test.YtbfgaimlkoeklaaDoorHelpInt
namespace Go.Proofs.YtbfgaimlkoeklaaDoor
open Go.RowKit
set_option maxRecDepth 100000 in
set_option maxHeartbeats 8000000 in
theorem undoVersion_law (w : World) (ht : Tab w) (a0 : Option Addr) (cap0 : Nat) (l0 : List Version) (H0 : RowsAt 4 Version.cell w a0 l0) (hz0 : ∀ k, k < l0.length → (nth l0 k).Sz ∧ (nth l0 k).In w) (hn0 : l0.length ≤ 9223372036854775807) (_ : l0.length ≤ cap0) (x1 : Int) (_ : -9223372036854775808 ≤ x1 ∧ x1 ≤ 9223372036854775807) :
    Gives Tryd.prog 3 #[.slice a0 l0.length cap0, .int .i64 x1] w (.bool true) := by
  unfold Gives
  have HT := Lib.hid ht
  clear ht
  have HH0 : Hid (VersAt w a0 l0) := ⟨H0, fun k hk => (hz0 k hk).2, fun k hk => (hz0 k hk).1.2.2.2⟩
  have HZ0 := Lib.hid fun k hk => (hz0 k hk).1
  clear H0 hz0
  go_enter Tryd.func3, Tryd.ntmps3
  go_wp2_with fail
  have T := Ext.refl w
  refine (szVersionS_any a0 cap0 l0 (1048576) _ (HH0.out.ext T).row (fun k hk => ⟨HZ0.out k hk, (HH0.out.ext T).inn k hk⟩) hn0 (by omega) (by omega)).mono ?_
  rintro e W1 ⟨r0, rfl, E, r0a, r0b, hr⟩
  have HR := Lib.hid hr
  clear hr
  replace T := T.trans E
  clear E
  by_cases hneg : r0 < 0
  · go_wp2_with fail
    go_ret
    exact ⟨rfl, T⟩
  obtain ⟨hl0, hs0⟩ := HR.out (by omega)
  have hS0 := Lib.hid hs0
  clear HR hs0
  go_wp2_with fail
  refine (toVersionS_any a0 cap0 l0 _ (HH0.out.ext T).row (HH0.out.ext T).inn (fun k hk => (hS0.out k hk).2.2.1) (by omega)).mono ?_
  rintro e W2 ⟨sg0, sl0, rfl, ss0, A, E⟩
  replace T := T.trans E
  have sn0 := Lib.hid (strips_length ss0)
  have snb0 : sl0.length ≤ 1048576 := by rw [sn0.out]; omega
  have sS0 := Lib.hid (small_same ss0 hS0.out A.at'.cap)
  have sA0 := Lib.hid A.at'
  replace ss0 := Lib.hid ss0
  clear A E
  go_wp2_with fail
  have C := Lib.hid (specUndoVersion_any _ _ sl0.length sl0 sA0.out sS0.out (by omega) x1)
  rw [ss0.out] at C
  refine C.out.mono ?_
  rintro e W3 ⟨sa, scap, sl, rfl, sst, sk, SR, E⟩
  clear sA0
  replace T := T.trans E
  clear E
  have SR0 := Lib.hid SR
  clear SR
  have U := Ext.refl W3
  clear C
  go_wp2_with fail
  have hG := Lib.hid (undoV_good (strips l0) x1)
  replace sst := Lib.hid sst
  have xbT0 := T.size
  have xbU0 := U.size
  refine (toVersionS_any a0 cap0 l0 _ (HH0.out.ext T).row (HH0.out.ext T).inn (fun k hk => (hS0.out k hk).2.2.1) (by omega)).mono ?_
  rintro e W4 ⟨xg0, xl0, rfl, xs0, A, E⟩
  have xhi0 := Nat.le_refl W4.heap.size
  have xt0 := Lib.hid A.own.top
  have xB0 := Lib.hid A.own
  replace T := T.trans E
  replace U := U.trans E
  have xn0 := Lib.hid (strips_length xs0)
  have xnb0 : xl0.length ≤ 1048576 := by rw [xn0.out]; omega
  have xS0 := Lib.hid (small_same xs0 hS0.out A.at'.cap)
  have xA0 := Lib.hid A.at'
  replace xs0 := Lib.hid xs0
  clear A E
  go_wp2_with fail
  have C := Lib.hid (implUndoVersion_any _ (HT.out.ext T) _ xl0.length xl0 xA0.out xS0.out (by omega) x1)
  rw [xs0.out] at C
  refine C.out.mono ?_
  rintro e W5 ⟨xa, xcap, xl, rfl, xst, xk, xO, E⟩
  have gT := T.size
  have gU := U.size
  have xhi0i := xhi0
  replace T := T.trans E
  replace U := U.trans E
  replace xB0 := Lib.hid (xB0.out.ext E)
  replace xA0 := Lib.hid (xA0.out.ext E)
  clear E
  have xOO := Lib.hid xO
  clear xO
  have xse := Lib.hid (xst.trans sst.out.symm)
  have xG := Lib.hid (good_at hG.out xst)
  have xG1 := xG.out.1
  have xG3 := xG.out.2.2
  clear xst
  clear C
  go_wp2_with fail
  refine (eqVersionS_same _ _ _ _ _ _ _ xse.out xOO.out.at' (SR0.out.ext U) (by omega) xG.out.2.1).mono ?_
  rintro e W6 ⟨rfl, E⟩
  replace T := T.trans E
  replace U := U.trans E
  replace xB0 := Lib.hid (xB0.out.ext E)
  replace xA0 := Lib.hid (xA0.out.ext E)
  replace xOO := Lib.hid (xOO.out.ext E)
  clear E
  go_wp2_with fail
  refine (toVersionS_any a0 cap0 l0 _ (HH0.out.ext T).row (HH0.out.ext T).inn (fun k hk => (hS0.out k hk).2.2.1) (by omega)).mono ?_
  rintro e W7 ⟨tg, tl, rfl, ts, A, E⟩
  replace T := T.trans E
  replace U := U.trans E
  replace xB0 := Lib.hid (xB0.out.ext E)
  replace xA0 := Lib.hid (xA0.out.ext E)
  replace xOO := Lib.hid (xOO.out.ext E)
  have AA := Lib.hid A.at'
  have tsh := Lib.hid (xs0.out.trans ts.symm)
  clear A E ts
  go_wp2_with fail
  refine (eqVersionS_same _ _ _ _ _ _ _ tsh.out xA0.out AA.out (by omega) (fun k hk => by have := (xS0.out k hk).2.2.1; omega)).mono ?_
  rintro e W8 ⟨rfl, E⟩
  clear AA xA0 tsh
  replace T := T.trans E
  replace U := U.trans E
  replace xB0 := Lib.hid (xB0.out.ext E)
  replace xOO := Lib.hid (xOO.out.ext E)
  clear E
  go_wp2_with fail
  have xo0 : offV xl0 xl0.length ≤ 10000000 := by rw [offV_sum, sumS_same xs0.out _ (Nat.le_refl _), xn0.out]; omega
  refine (markVersionS_any _ _ xl0 _ _ _ _ xB0.out xt0.out (by omega) (by omega) (by omega) (by omega)).mono ?_
  rintro e W9 ⟨rfl, M, -, -⟩
  clear xB0
  replace T := M.since T xbT0
  replace U := M.since U xbU0
  have xOOn := Lib.hid (xOO.out.mid M xhi0i)
  clear xOO
  have xOO := xOOn
  clear xOOn
  clear M
  go_wp2_with fail
  refine (eqVersionS_same _ _ _ _ _ _ _ xse.out xOO.out.at' (SR0.out.ext U) (by omega) xG.out.2.1).mono ?_
  rintro e W10 ⟨rfl, E⟩
  replace T := T.trans E
  replace U := U.trans E
  replace xOO := Lib.hid (xOO.out.ext E)
  clear E
  go_wp2_with fail
  refine (markVersionS_any _ _ xl _ _ _ _ xOO.out.own xOO.out.own.top (by omega) (by omega) (by omega) (by omega)).mono ?_
  rintro e W11 ⟨rfl, M, xO2, MK⟩
  replace T := M.since T gT
  replace U := M.since U gU
  have MM := Lib.hid MK
  have xO3 := Lib.hid xO2
  clear xOO M MK xO2
  go_wp2_with fail
  refine (heldVersionS_any _ _ _ _ _ _ xO3.out MM.out (by omega) (by omega) (by omega) (by omega)).mono ?_
  rintro e W12 ⟨rfl, E⟩
  replace T := T.trans E
  replace U := U.trans E
  replace MM := Lib.hid (MM.out.ext E)
  replace xO3 := Lib.hid (xO3.out.ext E)
  clear E
  go_wp2_with fail
  refine (toVersionS_any a0 cap0 l0 _ (HH0.out.ext T).row (HH0.out.ext T).inn (fun k hk => (hS0.out k hk).2.2.1) (by omega)).mono ?_
  rintro e W13 ⟨yg0, yl0, rfl, ys0, A, E⟩
  replace T := T.trans E
  replace U := U.trans E
  replace MM := Lib.hid (MM.out.ext E)
  replace xO3 := Lib.hid (xO3.out.ext E)
  have yn0 := Lib.hid (strips_length ys0)
  have ynb0 : yl0.length ≤ 1048576 := by rw [yn0.out]; omega
  have yS0 := Lib.hid (small_same ys0 hS0.out A.at'.cap)
  have yA0 := Lib.hid A.at'
  replace ys0 := Lib.hid ys0
  clear A E
  go_wp2_with fail
  have C := Lib.hid (implUndoVersion_any _ (HT.out.ext T) _ yl0.length yl0 yA0.out yS0.out (by omega) x1)
  rw [ys0.out] at C
  refine C.out.mono ?_
  rintro e W14 ⟨ya, ycap, yl, rfl, yst, yk, yO, E⟩
  replace T := T.trans E
  replace U := U.trans E
  replace MM := Lib.hid (MM.out.ext E)
  replace xO3 := Lib.hid (xO3.out.ext E)
  replace yA0 := Lib.hid (yA0.out.ext E)
  clear E
  have yOO := Lib.hid yO
  clear yO
  have yse := Lib.hid (yst.trans sst.out.symm)
  have yG := Lib.hid (good_at hG.out yst)
  have yG1 := yG.out.1
  have yG3 := yG.out.2.2
  clear yst
  clear C
  go_wp2_with fail
  refine (eqVersionS_same _ _ _ _ _ _ _ yse.out yOO.out.at' (SR0.out.ext U) (by omega) yG.out.2.1).mono ?_
  rintro e W15 ⟨rfl, E⟩
  replace T := T.trans E
  replace U := U.trans E
  replace MM := Lib.hid (MM.out.ext E)
  replace xO3 := Lib.hid (xO3.out.ext E)
  replace yA0 := Lib.hid (yA0.out.ext E)
  replace yOO := Lib.hid (yOO.out.ext E)
  clear E
  go_wp2_with fail
  refine (heldVersionS_any _ _ _ _ _ _ xO3.out MM.out (by omega) (by omega) (by omega) (by omega)).mono ?_
  rintro e W16 ⟨rfl, E⟩
  replace T := T.trans E
  replace U := U.trans E
  replace MM := Lib.hid (MM.out.ext E)
  replace xO3 := Lib.hid (xO3.out.ext E)
  replace yA0 := Lib.hid (yA0.out.ext E)
  replace yOO := Lib.hid (yOO.out.ext E)
  clear E
  go_wp2_with fail
  go_ret
  exact ⟨rfl, T⟩
open Go.ChangeShapes Go.WideShapes Go.ChangeAt
open Go.ChangeMaps (open_string shut_string)
namespace lawFnExactUndoVersion
set_option maxRecDepth 100000 in
theorem contract (H : Type) (enc : TypeId × Value → H) (W : World) (base : Nat) (args : Array Value) (ds gs : List (DataW H)) (before : List MemPlace)
    (hval : ∀ (j : Nat) t v, Tryd.f3.params[j]? = some t → args[j]? = some v → Value.okWide Tryd.prog W .any base t v)
    (hW : DataW.Whole enc Tryd.prog Tryd.f3.params.toList Rows.fnExactUndoVersionSpec.vars false W args.toList ds gs before) (hL : laidMetH Tryd.prog Rows.fnExactUndoVersionRow.laid W) :
    Calls Tryd.prog 3 args W fun e W' => ∃ v, e = .returned v ∧ Rows.fnExactUndoVersionSpec.post enc Tryd.prog Tryd.f3 false true false false W args v W' := by
  have ht : Tab W := tab_of_laid hL
  have hW' := hW
  obtain ⟨p, q, hA0, hV, rfl, hfz, hnd⟩ := hW
  have hA : DataW.TrodAll enc Tryd.prog W 0 (fun _ => true) true Tryd.f3.params.toList args.toList ds p := hA0
  rw [Tryd.params3] at hA hval
  obtain ⟨v0, vs0, d0, ds0, p0, q0, hargs, rfl, rfl, h0, r0⟩ := trodAll_cons hA
  obtain ⟨v1, vs1, d1, ds1, p1, q1, rfl, rfl, rfl, h1, r1⟩ := trodAll_cons r0
  obtain ⟨rfl, rfl, rfl⟩ := trodAll_nil r1
  obtain rfl : args = #[v0, v1] := by cases args; simp_all
  obtain ⟨rfl, rfl⟩ := trodVars_none hV
  have k0 := h0
  have lt0 : ∀ x ∈ p0, x.block < W.heap.size := by obtain ⟨m, hm⟩ := k0; exact DataW.trod_lt m _ _ _ hm
  obtain ⟨a0, len0, cap0, rfl⟩ := okWide_slice Tryd.underlying22 (hval 0 22 v0 rfl rfl)
  obtain ⟨fuel0, hf0⟩ := h0
  obtain ⟨b0, c0, l0, e0, hl0, hc0, H0, Q0⟩ := open_rows Version.cell (fun y => y.Sz ∧ y.In W) Tryd.underlying22 (by kernel_rfl : Tryd.prog.cellsOf 59 = 4) (by decide) (fun _ _ _ => Version.el) hf0
  simp only [Value.cells, List.cons.injEq, Value.slice.injEq, and_true] at e0
  obtain ⟨rfl, rfl, rfl⟩ := e0
  have k1 := h1
  have lt1 : ∀ x ∈ p1, x.block < W.heap.size := by obtain ⟨m, hm⟩ := k1; exact DataW.trod_lt m _ _ _ hm
  obtain ⟨x1, e1, _, _, w1⟩ := open_int Tryd.underlying2 (hval 1 2 v1 rfl rfl) h1
  subst e1
  clear hA0
  refine (undoVersion_law W ht a0 cap0 l0 H0 Q0 (by omega) hl0 x1 (wf_bd w1)).mono fun e W' ⟨he, bx⟩ => ?_
  have bel := bx.below
  subst he
  exact ⟨_, rfl, _, _, _, [], _, [], hW', trodAll_mk1 (shut_bool Tryd.underlying4 _), (trodAll_cons_mk (Below.trod laidOut (by kernel_rfl) (of_decide_eq_true (by kernel_rfl)) k0 bel lt0) (trodAll_cons_mk (Below.trod laidOut (by kernel_rfl) (of_decide_eq_true (by kernel_rfl)) k1 bel lt1) trodAll_mk0)), rfl, bel.frame _, fun h => by cases h⟩
theorem laid_met (os : Os) : laidMet Tryd.prog Rows.fnExactUndoVersionRow.laid ((laidWorld os).forCall (fun _ _ => 0) ⟨#[], #[.slice none 0 0, .int .i64 0], []⟩).memory :=
  laidMet_of_run' 8 (by kernel_rfl) (by kernel_rfl)
theorem reads (os : Os) {H : Type} (enc : TypeId × Value → H) : ∃ places, DataW.whole enc Tryd.prog ((laidWorld os).forCall (fun _ _ => 0) ⟨#[], #[.slice none 0 0, .int .i64 0], []⟩).memory Tryd.f3.params.toList Rows.fnExactUndoVersionSpec.vars false (#[.slice none 0 0, .int .i64 0] : Array Value).toList 8 = some ([.nil, .lit (.int .i64 0)], [], places) :=
  ⟨[], by kernel_rfl⟩
set_option maxRecDepth 100000 in
theorem lifted (os : Os) (started : os.Started) (H : Type) (enc : TypeId × Value → H) (F : Stop.Interp) :
    ReturnsInHanded {} Tryd.checked os 3 .any ((OpenSpec.ofChange Rows.fnExactUndoVersionSpec).preRow enc Tryd.prog Tryd.f3 Rows.fnExactUndoVersionRow.domain false Rows.fnExactUndoVersionRow.laid) (((OpenSpec.ofChange Rows.fnExactUndoVersionSpec).at F).post enc Tryd.prog Tryd.f3 false true false false) := by
  obtain ⟨places, hx⟩ := reads os enc
  refine returnsInHanded_of_row (C := Tryd.checked) (s := OpenSpec.ofChange Rows.fnExactUndoVersionSpec) own started (by kernel_rfl) Tryd.func3
    (witness_row_at (enc := enc) (C := Tryd.checked) false (laidWorld os) #[.slice none 0 0, .int .i64 0] rfl (by kernel_rfl) (by kernel_rfl) (by kernel_rfl)
      (OpenSpec.preRow_of_cond 8 hx (by kernel_rfl) (fun k hk => by cases hk) (by kernel_rfl) (laid_met os))) ?_
  intro W base args ds gs before hval hW _ _ _ hL _ _
  exact contract H enc W base args ds gs before hval hW hL
theorem said : Rows.FnExactUndoVersionSaid :=
  OpenClaim.holds_of_cond 3 Tryd.f3 rfl rfl rfl rfl rfl rfl rfl ⟨rfl, rfl, rfl, rfl, rfl⟩ rfl rfl rfl rfl rfl (by kernel_rfl) Tryd.func3 (by kernel_rfl)
    (of_decide_eq_true (by kernel_rfl)) (by unfold Func.isWrapper; first | (rw [if_pos (by decide +kernel)]; kernel_rfl) | (rw [if_neg (by decide +kernel)]; exact ⟨rfl, rfl⟩))
    (fun os started H enc _ F => by rw [OpenClaim.pre_eq_preRow]; exact lifted os started H enc F)
theorem plain (f : FuncId) (fn : Func) (hf : Tryd.pinned.checked.prog.funcNamed Rows.fnExactUndoVersionRow.func = some f) (hfn : Tryd.pinned.checked.prog.funcs[f]? = some fn) :
    false = Tryd.pinned.checked.prog.looks [] ∧ ∀ (j : Nat) t, fn.params[j]? = some t → Tryd.pinned.checked.prog.wantsStandIn t = false := by
  obtain rfl : f = 3 := Option.some.inj ((show Tryd.prog.funcNamed Rows.fnExactUndoVersionRow.func = some 3 by kernel_rfl).symm.trans hf) |>.symm
  obtain rfl : fn = Tryd.f3 := (Option.some.inj (Tryd.func3.symm.trans hfn)).symm
  refine ⟨by kernel_rfl, fun j t ht => ?_⟩
  rw [Tryd.params3] at ht
  have hm := Array.mem_of_getElem? ht
  have hm2 : t = 22 ∨ t = 2 := by simpa using hm
  rcases hm2 with rfl | rfl
  · exact (show Tryd.prog.wantsStandIn 22 = false by kernel_rfl)
  · exact (show Tryd.prog.wantsStandIn 2 = false by kernel_rfl)
/-- The given statement. -/
theorem card : Rows.FnExactUndoVersionCardSaid :=
  Claim7.holds_tied_plain_at .later [] _ _ _ _ said (fun _ h => by cases h) (by kernel_rfl) (fun _ h => by cases h) fnExactUndoVersion_row_tie rfl ⟨rfl, rfl⟩ (by kernel_rfl) rfl plain (by kernel_rfl)
end lawFnExactUndoVersion
end Go.Proofs.YtbfgaimlkoeklaaDoor

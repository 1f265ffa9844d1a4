/- The law FnExactAncestorsOf: whatever the history and the number, the program's ancestors are the reference's, in memory of their own. -/
import Derived.Test.YtbfgaimlkoeklaaAnc
import Derived.Test.YtbfgaimlkoeklaaVrsH
import Derived.Test.YtbfgaimlkoeklaaHelpInt
namespace Go.Proofs.Ytbfgaimlkoeklaa
open Go.RowKit
set_option maxRecDepth 100000 in
set_option maxHeartbeats 8000000 in
theorem ancestorsOf_law (w : World) (a0 : Option Addr) (cap0 : Nat) (l0 : List Version) (H0 : RowsAt 4 Version.cell w a0 l0) (hz0 : ∀ k, k < l0.length → (nth l0 k).Sz ∧ (nth l0 k).In w) (hn0 : l0.length ≤ 9223372036854775807) (_ : l0.length ≤ cap0) (x1 : Int) (_ : -9223372036854775808 ≤ x1 ∧ x1 ≤ 9223372036854775807) :
    Gives Try.prog 4 #[.slice a0 l0.length cap0, .int .i64 x1] w (.bool true) := by
  unfold Gives
  have HH0 : Hid (VersAt w a0 l0) := ⟨H0, fun k hk => (hz0 k hk).2, fun k hk => (hz0 k hk).1.2.2.2⟩
  have HZ0 := Lib.hid fun k hk => (hz0 k hk).1
  clear H0 hz0
  go_enter Try.func4, Try.ntmps4
  go_wp2_with fail
  have T := Ext.refl w
  refine (szVersionS_any a0 cap0 l0 (1048576) _ (HH0.out.ext T).row (fun k hk => ⟨HZ0.out k hk, (HH0.out.ext T).inn k hk⟩) hn0 (by omega) (by omega)).mono ?_
  rintro e W1 ⟨r0, rfl, E, r0a, r0b, hr⟩
  have HR := Lib.hid hr
  clear hr
  replace T := T.trans E
  clear E
  by_cases hneg : r0 < 0
  · go_wp2_with fail
    go_ret
    exact ⟨rfl, T⟩
  obtain ⟨hl0, hs0⟩ := HR.out (by omega)
  have hS0 := Lib.hid hs0
  clear HR hs0
  go_wp2_with fail
  refine (toVersionS_any a0 cap0 l0 _ (HH0.out.ext T).row (HH0.out.ext T).inn (fun k hk => (hS0.out k hk).2.2.1) (by omega)).mono ?_
  rintro e W2 ⟨sg0, sl0, rfl, ss0, A, E⟩
  replace T := T.trans E
  have sn0 := Lib.hid (strips_length ss0)
  have snb0 : sl0.length ≤ 1048576 := by rw [sn0.out]; omega
  have sS0 := Lib.hid (small_same ss0 hS0.out A.at'.cap)
  have sA0 := Lib.hid A.at'
  replace ss0 := Lib.hid ss0
  clear A E
  go_wp2_with fail
  have C := Lib.hid (specAncestorsOf_any _ _ sl0.length sl0 sA0.out sS0.out (by omega) x1)
  rw [ss0.out] at C
  refine C.out.mono ?_
  rintro e W3 ⟨sa, scap, rfl, sk, SR, E⟩
  clear sA0
  replace T := T.trans E
  clear E
  have SR0 := Lib.hid SR
  clear SR
  have U := Ext.refl W3
  clear C
  go_wp2_with fail
  have hlenR := ancV_len (strips l0) x1
  have xbT0 := T.size
  have xbU0 := U.size
  refine (toVersionS_any a0 cap0 l0 _ (HH0.out.ext T).row (HH0.out.ext T).inn (fun k hk => (hS0.out k hk).2.2.1) (by omega)).mono ?_
  rintro e W4 ⟨xg0, xl0, rfl, xs0, A, E⟩
  have xhi0 := Nat.le_refl W4.heap.size
  have xt0 := Lib.hid A.own.top
  have xB0 := Lib.hid A.own
  replace T := T.trans E
  replace U := U.trans E
  have xn0 := Lib.hid (strips_length xs0)
  have xnb0 : xl0.length ≤ 1048576 := by rw [xn0.out]; omega
  have xS0 := Lib.hid (small_same xs0 hS0.out A.at'.cap)
  have xA0 := Lib.hid A.at'
  replace xs0 := Lib.hid xs0
  clear A E
  go_wp2_with fail
  have C := Lib.hid (implAncestorsOf_any _ _ xl0.length xl0 xA0.out xS0.out (by omega) x1)
  rw [xs0.out] at C
  refine C.out.mono ?_
  rintro e W5 ⟨xa, xcap, rfl, xk, xO, xR, E⟩
  have gT := T.size
  have gU := U.size
  have xhi0i := xhi0
  replace T := T.trans E
  replace U := U.trans E
  replace xB0 := Lib.hid (xB0.out.ext E)
  replace xA0 := Lib.hid (xA0.out.ext E)
  clear E
  have xRR := Lib.hid xR
  clear xR
  have xOO := Lib.hid xO
  clear xO
  clear C
  go_wp2_with fail
  refine (eqInt64S_same _ _ _ _ _ _ xRR.out (SR0.out.ext U) (by omega)).mono ?_
  rintro e W6 ⟨rfl, E⟩
  replace T := T.trans E
  replace U := U.trans E
  replace xB0 := Lib.hid (xB0.out.ext E)
  replace xA0 := Lib.hid (xA0.out.ext E)
  replace xRR := Lib.hid (xRR.out.ext E)
  replace xOO := Lib.hid (xOO.out.ext E)
  clear E
  go_wp2_with fail
  refine (toVersionS_any a0 cap0 l0 _ (HH0.out.ext T).row (HH0.out.ext T).inn (fun k hk => (hS0.out k hk).2.2.1) (by omega)).mono ?_
  rintro e W7 ⟨tg, tl, rfl, ts, A, E⟩
  replace T := T.trans E
  replace U := U.trans E
  replace xB0 := Lib.hid (xB0.out.ext E)
  replace xA0 := Lib.hid (xA0.out.ext E)
  replace xRR := Lib.hid (xRR.out.ext E)
  replace xOO := Lib.hid (xOO.out.ext E)
  have AA := Lib.hid A.at'
  have tsh := Lib.hid (xs0.out.trans ts.symm)
  clear A E ts
  go_wp2_with fail
  refine (eqVersionS_same _ _ _ _ _ _ _ tsh.out xA0.out AA.out (by omega) (fun k hk => by have := (xS0.out k hk).2.2.1; omega)).mono ?_
  rintro e W8 ⟨rfl, E⟩
  clear AA xA0 tsh
  replace T := T.trans E
  replace U := U.trans E
  replace xB0 := Lib.hid (xB0.out.ext E)
  replace xRR := Lib.hid (xRR.out.ext E)
  replace xOO := Lib.hid (xOO.out.ext E)
  clear E
  go_wp2_with fail
  have xo0 : offV xl0 xl0.length ≤ 10000000 := by rw [offV_sum, sumS_same xs0.out _ (Nat.le_refl _), xn0.out]; omega
  refine (markVersionS_any _ _ xl0 _ _ _ _ xB0.out xt0.out (by omega) (by omega) (by omega) (by omega)).mono ?_
  rintro e W9 ⟨rfl, M, -, -⟩
  clear xB0
  replace T := M.since T xbT0
  replace U := M.since U xbU0
  have xRRn := Lib.hid (RowsAt.midO xRR.out xOO.out M xhi0i)
  replace xOO := Lib.hid (xOO.out.mid M xhi0i)
  clear xRR
  have xRR := xRRn
  clear xRRn
  clear M
  go_wp2_with fail
  refine (eqInt64S_same _ _ _ _ _ _ xRR.out (SR0.out.ext U) (by omega)).mono ?_
  rintro e W10 ⟨rfl, E⟩
  replace T := T.trans E
  replace U := U.trans E
  replace xRR := Lib.hid (xRR.out.ext E)
  replace xOO := Lib.hid (xOO.out.ext E)
  clear E
  go_wp2_with fail
  refine (markInt64SO_any _ _ _ _ _ _ xOO.out (by omega) (by omega) (by omega)).mono ?_
  rintro e W11 ⟨rfl, C, -, M⟩
  replace T := Ext.markedO T C xOO.out gT
  replace U := Ext.markedO U C xOO.out gU
  have MM := Lib.hid M
  clear xRR xOO C M
  go_wp2_with fail
  refine (heldInt64S_any _ _ _ _ _ MM.out (by omega) (by omega) (by omega)).mono ?_
  rintro e W12 ⟨rfl, E⟩
  replace T := T.trans E
  replace U := U.trans E
  replace MM := Lib.hid (MM.out.ext E)
  clear E
  go_wp2_with fail
  refine (toVersionS_any a0 cap0 l0 _ (HH0.out.ext T).row (HH0.out.ext T).inn (fun k hk => (hS0.out k hk).2.2.1) (by omega)).mono ?_
  rintro e W13 ⟨yg0, yl0, rfl, ys0, A, E⟩
  replace T := T.trans E
  replace U := U.trans E
  replace MM := Lib.hid (MM.out.ext E)
  have yn0 := Lib.hid (strips_length ys0)
  have ynb0 : yl0.length ≤ 1048576 := by rw [yn0.out]; omega
  have yS0 := Lib.hid (small_same ys0 hS0.out A.at'.cap)
  have yA0 := Lib.hid A.at'
  replace ys0 := Lib.hid ys0
  clear A E
  go_wp2_with fail
  have C := Lib.hid (implAncestorsOf_any _ _ yl0.length yl0 yA0.out yS0.out (by omega) x1)
  rw [ys0.out] at C
  refine C.out.mono ?_
  rintro e W14 ⟨ya, ycap, rfl, yk, yO, yR, E⟩
  replace T := T.trans E
  replace U := U.trans E
  replace MM := Lib.hid (MM.out.ext E)
  replace yA0 := Lib.hid (yA0.out.ext E)
  clear E
  have yRR := Lib.hid yR
  clear yR
  clear yO
  clear C
  go_wp2_with fail
  refine (eqInt64S_same _ _ _ _ _ _ yRR.out (SR0.out.ext U) (by omega)).mono ?_
  rintro e W15 ⟨rfl, E⟩
  replace T := T.trans E
  replace U := U.trans E
  replace MM := Lib.hid (MM.out.ext E)
  replace yA0 := Lib.hid (yA0.out.ext E)
  replace yRR := Lib.hid (yRR.out.ext E)
  clear E
  go_wp2_with fail
  refine (heldInt64S_any _ _ _ _ _ MM.out (by omega) (by omega) (by omega)).mono ?_
  rintro e W16 ⟨rfl, E⟩
  replace T := T.trans E
  replace U := U.trans E
  replace MM := Lib.hid (MM.out.ext E)
  replace yA0 := Lib.hid (yA0.out.ext E)
  replace yRR := Lib.hid (yRR.out.ext E)
  clear E
  go_wp2_with fail
  go_ret
  exact ⟨rfl, T⟩
open Go.ChangeShapes Go.WideShapes Go.ChangeAt
open Go.ChangeMaps (open_string shut_string)
namespace lawFnExactAncestorsOf
set_option maxRecDepth 100000 in
theorem lifted (os : Os) (started : os.Started) (H : Type) (enc : TypeId × Value → H) :
    ReturnsInHanded {} Try.checked os 4 .any (Rows.fnExactAncestorsOfSpec.pre6 enc Try.prog Try.f4 Rows.fnExactAncestorsOfRow.domain false) (Rows.fnExactAncestorsOfSpec.post enc Try.prog Try.f4 false true false false) := by
  refine returnsInHanded_of_change (C := Try.checked) own started (by kernel_rfl) Try.func4
    (ChangeSpec.witness6 (enc := enc) (C := Try.checked) false ⟨#[], #[.slice none 0 0, .int .i64 0], []⟩ 8 (by kernel_rfl) (by kernel_rfl) (by kernel_rfl) (by kernel_rfl)) ?_
  intro W base args ds gs before hval0 hW hcnd _
  have hval : ∀ (j : Nat) t v, Try.f4.params[j]? = some t → args[j]? = some v → Value.okWide Try.prog W .any base t v := hval0
  have hW' := hW
  obtain ⟨p, q, hA0, hV, rfl, hfz, hnd⟩ := hW
  have hA : DataW.TrodAll enc Try.prog W 0 (fun _ => true) true Try.f4.params.toList args.toList ds p := hA0
  rw [Try.params4] at hA hval
  obtain ⟨v0, vs0, d0, ds0, p0, q0, hargs, rfl, rfl, h0, r0⟩ := trodAll_cons hA
  obtain ⟨v1, vs1, d1, ds1, p1, q1, rfl, rfl, rfl, h1, r1⟩ := trodAll_cons r0
  obtain ⟨rfl, rfl, rfl⟩ := trodAll_nil r1
  obtain rfl : args = #[v0, v1] := by cases args; simp_all
  obtain ⟨rfl, rfl⟩ := trodVars_none hV
  have k0 := h0
  have lt0 : ∀ x ∈ p0, x.block < W.heap.size := by obtain ⟨m, hm⟩ := k0; exact DataW.trod_lt m _ _ _ hm
  obtain ⟨a0, len0, cap0, rfl⟩ := okWide_slice Try.underlying22 (hval 0 22 v0 rfl rfl)
  obtain ⟨fuel0, hf0⟩ := h0
  obtain ⟨b0, c0, l0, e0, hl0, hc0, H0, Q0⟩ := open_rows Version.cell (fun y => y.Sz ∧ y.In W) Try.underlying22 (by kernel_rfl : Try.prog.cellsOf 76 = 4) (by decide) (fun _ _ _ => Version.el) hf0
  simp only [Value.cells, List.cons.injEq, Value.slice.injEq, and_true] at e0
  obtain ⟨rfl, rfl, rfl⟩ := e0
  have k1 := h1
  have lt1 : ∀ x ∈ p1, x.block < W.heap.size := by obtain ⟨m, hm⟩ := k1; exact DataW.trod_lt m _ _ _ hm
  obtain ⟨x1, e1, _, _, w1⟩ := open_int Try.underlying2 (hval 1 2 v1 rfl rfl) h1
  subst e1
  clear hA0 hval0
  refine (ancestorsOf_law W a0 cap0 l0 H0 Q0 (by omega) hl0 x1 (wf_bd w1)).mono fun e W' ⟨he, bx⟩ => ?_
  have bel := bx.below
  subst he
  exact ⟨_, rfl, _, _, _, [], _, [], hW', trodAll_mk1 (shut_bool Try.underlying4 _), (trodAll_cons_mk (Below.trod laidOut (by kernel_rfl) (of_decide_eq_true (by kernel_rfl)) k0 bel lt0) (trodAll_cons_mk (Below.trod laidOut (by kernel_rfl) (of_decide_eq_true (by kernel_rfl)) k1 bel lt1) trodAll_mk0)), rfl, bel.frame _, fun h => by cases h⟩
theorem over : Rows.fnExactAncestorsOfRow.holds Try.pinned (OpenSpec.ofChange Rows.fnExactAncestorsOfSpec) :=
  OpenClaim.holds_of_wide 4 Try.f4 rfl rfl rfl rfl rfl rfl rfl ⟨rfl, rfl, rfl, rfl, rfl⟩ rfl rfl rfl rfl rfl (by kernel_rfl) Try.func4 (by kernel_rfl)
    (of_decide_eq_true (by kernel_rfl)) (by unfold Func.isWrapper; first | (rw [if_pos (by decide +kernel)]; kernel_rfl) | (rw [if_neg (by decide +kernel)]; exact ⟨rfl, rfl⟩))
    (fun os started H enc _ => lifted os started H enc)
/-- The given statement. -/
theorem proved : Rows.FnExactAncestorsOfSaid := over
end lawFnExactAncestorsOf
end Go.Proofs.Ytbfgaimlkoeklaa

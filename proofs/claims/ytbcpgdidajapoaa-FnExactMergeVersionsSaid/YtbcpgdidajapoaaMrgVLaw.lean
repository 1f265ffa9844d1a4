/- The law FnExactMergeVersions: whatever the history, the two numbers and the memo, the program's history with the merge of two versions is the reference's, in memory of its own. -/
import Derived.Test.YtbcpgdidajapoaaMrgV
import Derived.Test.YtbcpgdidajapoaaHelpInt
namespace Go.Proofs.Ytbcpgdidajapoaa
open Go.RowKit
set_option maxRecDepth 100000 in
set_option maxHeartbeats 8000000 in
theorem mergeVersions_law (w : World) (a0 : Option Addr) (cap0 : Nat) (l0 : List Version) (H0 : RowsAt 4 Version.cell w a0 l0) (hz0 : ∀ k, k < l0.length → (nth l0 k).Sz ∧ (nth l0 k).In w) (hn0 : l0.length ≤ 9223372036854775807) (_ : l0.length ≤ cap0) (x1 : Int) (_ : -9223372036854775808 ≤ x1 ∧ x1 ≤ 9223372036854775807) (x2 : Int) (_ : -9223372036854775808 ≤ x2 ∧ x2 ≤ 9223372036854775807) (x3 : ByteArray) (hx3 : x3.size ≤ 9223372036854775807) :
    Gives Try.prog 3 #[.slice a0 l0.length cap0, .int .i64 x1, .int .i64 x2, .string x3] w (.bool true) := by
  unfold Gives
  have HH0 : Hid (VersAt w a0 l0) := ⟨H0, fun k hk => (hz0 k hk).2, fun k hk => (hz0 k hk).1.2.2.2⟩
  have HZ0 := Lib.hid fun k hk => (hz0 k hk).1
  clear H0 hz0
  by_cases hbig3 : 1048576 < x3.size
  · go_enter Try.func3, Try.ntmps3
    go_wp2_with fail
    go_ret
    exact ⟨rfl, Ext.refl _⟩
  have hb3 : x3.size ≤ 1048576 := by omega
  clear hbig3
  go_enter Try.func3, Try.ntmps3
  go_wp2_with fail
  have T := Ext.refl w
  refine (szVersionS_any a0 cap0 l0 (1048576) _ (HH0.out.ext T).row (fun k hk => ⟨HZ0.out k hk, (HH0.out.ext T).inn k hk⟩) hn0 (by omega) (by omega)).mono ?_
  rintro e W1 ⟨r0, rfl, E, r0a, r0b, hr⟩
  have HR := Lib.hid hr
  clear hr
  replace T := T.trans E
  clear E
  by_cases hneg : r0 < 0
  · go_wp2_with fail
    go_ret
    exact ⟨rfl, T⟩
  obtain ⟨hl0, hs0⟩ := HR.out (by omega)
  have hS0 := Lib.hid hs0
  clear HR hs0
  go_wp2_with fail
  refine (toVersionS_any a0 cap0 l0 _ (HH0.out.ext T).row (HH0.out.ext T).inn (fun k hk => (hS0.out k hk).2.2.1) (by omega)).mono ?_
  rintro e W2 ⟨sg0, sl0, rfl, ss0, A, E⟩
  replace T := T.trans E
  have sn0 := Lib.hid (strips_length ss0)
  have snb0 : sl0.length ≤ 1048576 := by rw [sn0.out]; omega
  have sS0 := Lib.hid (small_same ss0 hS0.out A.at'.cap)
  have sA0 := Lib.hid A.at'
  replace ss0 := Lib.hid ss0
  clear A E
  go_wp2_with fail
  have C := Lib.hid (specMergeVersions_any _ _ sl0.length sl0 sA0.out sS0.out (by omega) x1 x2 x3 (by omega))
  rw [ss0.out] at C
  refine C.out.mono ?_
  rintro e W3 ⟨sa, scap, sl, rfl, sst, sk, SR, E⟩
  clear sA0
  replace T := T.trans E
  clear E
  have SR0 := Lib.hid SR
  clear SR
  have U := Ext.refl W3
  clear C
  go_wp2_with fail
  have hG := Lib.hid (mgV_good (strips l0) x1 x2 x3)
  replace sst := Lib.hid sst
  have xbT0 := T.size
  have xbU0 := U.size
  refine (toVersionS_any a0 cap0 l0 _ (HH0.out.ext T).row (HH0.out.ext T).inn (fun k hk => (hS0.out k hk).2.2.1) (by omega)).mono ?_
  rintro e W4 ⟨xg0, xl0, rfl, xs0, A, E⟩
  have xhi0 := Nat.le_refl W4.heap.size
  have xt0 := Lib.hid A.own.top
  have xB0 := Lib.hid A.own
  replace T := T.trans E
  replace U := U.trans E
  have xn0 := Lib.hid (strips_length xs0)
  have xnb0 : xl0.length ≤ 1048576 := by rw [xn0.out]; omega
  have xS0 := Lib.hid (small_same xs0 hS0.out A.at'.cap)
  have xA0 := Lib.hid A.at'
  replace xs0 := Lib.hid xs0
  clear A E
  go_wp2_with fail
  have C := Lib.hid (implMergeVersions_any _ _ xl0.length xl0 xA0.out xS0.out (by omega) x1 x2 x3 (by omega))
  rw [xs0.out] at C
  refine C.out.mono ?_
  rintro e W5 ⟨xa, xcap, xl, rfl, xst, xk, xO, E⟩
  have gT := T.size
  have gU := U.size
  have xhi0i := xhi0
  replace T := T.trans E
  replace U := U.trans E
  replace xB0 := Lib.hid (xB0.out.ext E)
  replace xA0 := Lib.hid (xA0.out.ext E)
  clear E
  have xOO := Lib.hid xO
  clear xO
  have xse := Lib.hid (xst.trans sst.out.symm)
  have xG := Lib.hid (good_at hG.out xst)
  have xG1 := xG.out.1
  have xG3 := xG.out.2.2
  clear xst
  clear C
  go_wp2_with fail
  refine (eqVersionS_same _ _ _ _ _ _ _ xse.out xOO.out.at' (SR0.out.ext U) (by omega) xG.out.2.1).mono ?_
  rintro e W6 ⟨rfl, E⟩
  replace T := T.trans E
  replace U := U.trans E
  replace xB0 := Lib.hid (xB0.out.ext E)
  replace xA0 := Lib.hid (xA0.out.ext E)
  replace xOO := Lib.hid (xOO.out.ext E)
  clear E
  go_wp2_with fail
  refine (toVersionS_any a0 cap0 l0 _ (HH0.out.ext T).row (HH0.out.ext T).inn (fun k hk => (hS0.out k hk).2.2.1) (by omega)).mono ?_
  rintro e W7 ⟨tg, tl, rfl, ts, A, E⟩
  replace T := T.trans E
  replace U := U.trans E
  replace xB0 := Lib.hid (xB0.out.ext E)
  replace xA0 := Lib.hid (xA0.out.ext E)
  replace xOO := Lib.hid (xOO.out.ext E)
  have AA := Lib.hid A.at'
  have tsh := Lib.hid (xs0.out.trans ts.symm)
  clear A E ts
  go_wp2_with fail
  refine (eqVersionS_same _ _ _ _ _ _ _ tsh.out xA0.out AA.out (by omega) (fun k hk => by have := (xS0.out k hk).2.2.1; omega)).mono ?_
  rintro e W8 ⟨rfl, E⟩
  clear AA xA0 tsh
  replace T := T.trans E
  replace U := U.trans E
  replace xB0 := Lib.hid (xB0.out.ext E)
  replace xOO := Lib.hid (xOO.out.ext E)
  clear E
  go_wp2_with fail
  have xo0 : offV xl0 xl0.length ≤ 10000000 := by rw [offV_sum, sumS_same xs0.out _ (Nat.le_refl _), xn0.out]; omega
  refine (markVersionS_any _ _ xl0 _ _ _ _ xB0.out xt0.out (by omega) (by omega) (by omega) (by omega)).mono ?_
  rintro e W9 ⟨rfl, M, -, -⟩
  clear xB0
  replace T := M.since T xbT0
  replace U := M.since U xbU0
  have xOOn := Lib.hid (xOO.out.mid M xhi0i)
  clear xOO
  have xOO := xOOn
  clear xOOn
  clear M
  go_wp2_with fail
  refine (eqVersionS_same _ _ _ _ _ _ _ xse.out xOO.out.at' (SR0.out.ext U) (by omega) xG.out.2.1).mono ?_
  rintro e W10 ⟨rfl, E⟩
  replace T := T.trans E
  replace U := U.trans E
  replace xOO := Lib.hid (xOO.out.ext E)
  clear E
  go_wp2_with fail
  refine (markVersionS_any _ _ xl _ _ _ _ xOO.out.own xOO.out.own.top (by omega) (by omega) (by omega) (by omega)).mono ?_
  rintro e W11 ⟨rfl, M, xO2, MK⟩
  replace T := M.since T gT
  replace U := M.since U gU
  have MM := Lib.hid MK
  have xO3 := Lib.hid xO2
  clear xOO M MK xO2
  go_wp2_with fail
  refine (heldVersionS_any _ _ _ _ _ _ xO3.out MM.out (by omega) (by omega) (by omega) (by omega)).mono ?_
  rintro e W12 ⟨rfl, E⟩
  replace T := T.trans E
  replace U := U.trans E
  replace MM := Lib.hid (MM.out.ext E)
  replace xO3 := Lib.hid (xO3.out.ext E)
  clear E
  go_wp2_with fail
  refine (toVersionS_any a0 cap0 l0 _ (HH0.out.ext T).row (HH0.out.ext T).inn (fun k hk => (hS0.out k hk).2.2.1) (by omega)).mono ?_
  rintro e W13 ⟨yg0, yl0, rfl, ys0, A, E⟩
  replace T := T.trans E
  replace U := U.trans E
  replace MM := Lib.hid (MM.out.ext E)
  replace xO3 := Lib.hid (xO3.out.ext E)
  have yn0 := Lib.hid (strips_length ys0)
  have ynb0 : yl0.length ≤ 1048576 := by rw [yn0.out]; omega
  have yS0 := Lib.hid (small_same ys0 hS0.out A.at'.cap)
  have yA0 := Lib.hid A.at'
  replace ys0 := Lib.hid ys0
  clear A E
  go_wp2_with fail
  have C := Lib.hid (implMergeVersions_any _ _ yl0.length yl0 yA0.out yS0.out (by omega) x1 x2 x3 (by omega))
  rw [ys0.out] at C
  refine C.out.mono ?_
  rintro e W14 ⟨ya, ycap, yl, rfl, yst, yk, yO, E⟩
  replace T := T.trans E
  replace U := U.trans E
  replace MM := Lib.hid (MM.out.ext E)
  replace xO3 := Lib.hid (xO3.out.ext E)
  replace yA0 := Lib.hid (yA0.out.ext E)
  clear E
  have yOO := Lib.hid yO
  clear yO
  have yse := Lib.hid (yst.trans sst.out.symm)
  have yG := Lib.hid (good_at hG.out yst)
  have yG1 := yG.out.1
  have yG3 := yG.out.2.2
  clear yst
  clear C
  go_wp2_with fail
  refine (eqVersionS_same _ _ _ _ _ _ _ yse.out yOO.out.at' (SR0.out.ext U) (by omega) yG.out.2.1).mono ?_
  rintro e W15 ⟨rfl, E⟩
  replace T := T.trans E
  replace U := U.trans E
  replace MM := Lib.hid (MM.out.ext E)
  replace xO3 := Lib.hid (xO3.out.ext E)
  replace yA0 := Lib.hid (yA0.out.ext E)
  replace yOO := Lib.hid (yOO.out.ext E)
  clear E
  go_wp2_with fail
  refine (heldVersionS_any _ _ _ _ _ _ xO3.out MM.out (by omega) (by omega) (by omega) (by omega)).mono ?_
  rintro e W16 ⟨rfl, E⟩
  replace T := T.trans E
  replace U := U.trans E
  replace MM := Lib.hid (MM.out.ext E)
  replace xO3 := Lib.hid (xO3.out.ext E)
  replace yA0 := Lib.hid (yA0.out.ext E)
  replace yOO := Lib.hid (yOO.out.ext E)
  clear E
  go_wp2_with fail
  go_ret
  exact ⟨rfl, T⟩
open Go.ChangeShapes Go.WideShapes Go.ChangeAt
open Go.ChangeMaps (open_string shut_string)
namespace lawFnExactMergeVersions
set_option maxRecDepth 100000 in
theorem lifted (os : Os) (started : os.Started) (H : Type) (enc : TypeId × Value → H) :
    ReturnsInHanded {} Try.checked os 3 .any (Rows.fnExactMergeVersionsSpec.pre6 enc Try.prog Try.f3 Rows.fnExactMergeVersionsRow.domain false) (Rows.fnExactMergeVersionsSpec.post enc Try.prog Try.f3 false true false false) := by
  refine returnsInHanded_of_change (C := Try.checked) own started (by kernel_rfl) Try.func3
    (ChangeSpec.witness6 (enc := enc) (C := Try.checked) false ⟨#[], #[.slice none 0 0, .int .i64 0, .int .i64 0, .string ⟨#[]⟩], []⟩ 8 (by kernel_rfl) (by kernel_rfl) (by kernel_rfl) (by kernel_rfl)) ?_
  intro W base args ds gs before hval0 hW hcnd _
  have hval : ∀ (j : Nat) t v, Try.f3.params[j]? = some t → args[j]? = some v → Value.okWide Try.prog W .any base t v := hval0
  have hW' := hW
  obtain ⟨p, q, hA0, hV, rfl, hfz, hnd⟩ := hW
  have hA : DataW.TrodAll enc Try.prog W 0 (fun _ => true) true Try.f3.params.toList args.toList ds p := hA0
  rw [Try.params3] at hA hval
  obtain ⟨v0, vs0, d0, ds0, p0, q0, hargs, rfl, rfl, h0, r0⟩ := trodAll_cons hA
  obtain ⟨v1, vs1, d1, ds1, p1, q1, rfl, rfl, rfl, h1, r1⟩ := trodAll_cons r0
  obtain ⟨v2, vs2, d2, ds2, p2, q2, rfl, rfl, rfl, h2, r2⟩ := trodAll_cons r1
  obtain ⟨v3, vs3, d3, ds3, p3, q3, rfl, rfl, rfl, h3, r3⟩ := trodAll_cons r2
  obtain ⟨rfl, rfl, rfl⟩ := trodAll_nil r3
  obtain rfl : args = #[v0, v1, v2, v3] := by cases args; simp_all
  obtain ⟨rfl, rfl⟩ := trodVars_none hV
  have k0 := h0
  have lt0 : ∀ x ∈ p0, x.block < W.heap.size := by obtain ⟨m, hm⟩ := k0; exact DataW.trod_lt m _ _ _ hm
  obtain ⟨a0, len0, cap0, rfl⟩ := okWide_slice Try.underlying22 (hval 0 22 v0 rfl rfl)
  obtain ⟨fuel0, hf0⟩ := h0
  obtain ⟨b0, c0, l0, e0, hl0, hc0, H0, Q0⟩ := open_rows Version.cell (fun y => y.Sz ∧ y.In W) Try.underlying22 (by kernel_rfl : Try.prog.cellsOf 51 = 4) (by decide) (fun _ _ _ => Version.el) hf0
  simp only [Value.cells, List.cons.injEq, Value.slice.injEq, and_true] at e0
  obtain ⟨rfl, rfl, rfl⟩ := e0
  have k1 := h1
  have lt1 : ∀ x ∈ p1, x.block < W.heap.size := by obtain ⟨m, hm⟩ := k1; exact DataW.trod_lt m _ _ _ hm
  obtain ⟨x1, e1, _, _, w1⟩ := open_int Try.underlying2 (hval 1 2 v1 rfl rfl) h1
  subst e1
  have k2 := h2
  have lt2 : ∀ x ∈ p2, x.block < W.heap.size := by obtain ⟨m, hm⟩ := k2; exact DataW.trod_lt m _ _ _ hm
  obtain ⟨x2, e2, _, _, w2⟩ := open_int Try.underlying2 (hval 2 2 v2 rfl rfl) h2
  subst e2
  have k3 := h3
  have lt3 : ∀ x ∈ p3, x.block < W.heap.size := by obtain ⟨m, hm⟩ := k3; exact DataW.trod_lt m _ _ _ hm
  obtain ⟨x3, e3, _, _, w3⟩ := open_string Try.underlying9 (hval 3 9 v3 rfl rfl) h3
  subst e3
  clear hA0 hval0
  refine (mergeVersions_law W a0 cap0 l0 H0 Q0 (by omega) hl0 x1 (wf_bd w1) x2 (wf_bd w2) x3 (by unfold maxLen at w3; exact w3)).mono fun e W' ⟨he, bx⟩ => ?_
  have bel := bx.below
  subst he
  exact ⟨_, rfl, _, _, _, [], _, [], hW', trodAll_mk1 (shut_bool Try.underlying4 _), (trodAll_cons_mk (Below.trod laidOut (by kernel_rfl) (of_decide_eq_true (by kernel_rfl)) k0 bel lt0) (trodAll_cons_mk (Below.trod laidOut (by kernel_rfl) (of_decide_eq_true (by kernel_rfl)) k1 bel lt1) (trodAll_cons_mk (Below.trod laidOut (by kernel_rfl) (of_decide_eq_true (by kernel_rfl)) k2 bel lt2) (trodAll_cons_mk (Below.trod laidOut (by kernel_rfl) (of_decide_eq_true (by kernel_rfl)) k3 bel lt3) trodAll_mk0)))), rfl, bel.frame _, fun h => by cases h⟩
theorem over : Rows.fnExactMergeVersionsRow.holds Try.pinned (OpenSpec.ofChange Rows.fnExactMergeVersionsSpec) :=
  OpenClaim.holds_of_wide 3 Try.f3 rfl rfl rfl rfl rfl rfl rfl ⟨rfl, rfl, rfl, rfl, rfl⟩ rfl rfl rfl rfl rfl (by kernel_rfl) Try.func3 (by kernel_rfl)
    (of_decide_eq_true (by kernel_rfl)) (by unfold Func.isWrapper; first | (rw [if_pos (by decide +kernel)]; kernel_rfl) | (rw [if_neg (by decide +kernel)]; exact ⟨rfl, rfl⟩))
    (fun os started H enc _ => lifted os started H enc)
/-- The given statement. -/
theorem proved : Rows.FnExactMergeVersionsSaid := over
end lawFnExactMergeVersions
end Go.Proofs.Ytbcpgdidajapoaa

/- The law FnExactKindsUsed: whatever the tests, the kinds that the program hands back are the reference's, in memory of their own. -/
import Derived.Test.YtahfjoadpipghaaKinds
import Derived.Test.YtahfjoadpipghaaHelpInt
import Derived.Test.YtahfjoadpipghaaHelpTest
namespace Go.Proofs.Ytahfjoadpipghaa
open Go.RowKit
set_option maxRecDepth 100000 in
set_option maxHeartbeats 8000000 in
theorem kindsUsed_law (w : World) (a0 : Option Addr) (cap0 : Nat) (l0 : List Test) (H0 : TestAt w a0 l0) (hz0 : ∀ k, k < l0.length → (nth l0 k).Sz ∧ (nth l0 k).Wf) (hn0 : l0.length ≤ 9223372036854775807) (_ : l0.length ≤ cap0) :
    Gives Try.prog 3 #[.slice a0 l0.length cap0] w (.bool true) := by
  unfold Gives
  have HH0 := Lib.hid H0
  have HZ0 := Lib.hid hz0
  clear H0 hz0
  go_enter Try.func3, Try.ntmps3
  go_wp2_with fail
  have T := Ext.refl w
  refine (szTestS_any a0 cap0 l0 (1048576) _ (HH0.out.ext T) (fun k hk => (HZ0.out k hk).1) hn0 (by omega) (by omega)).mono ?_
  rintro e W1 ⟨r0, rfl, E, r0a, r0b, hr⟩
  have HR := Lib.hid hr
  clear hr
  replace T := T.trans E
  clear E
  by_cases hneg : r0 < 0
  · go_wp2_with fail
    go_ret
    exact ⟨rfl, T⟩
  obtain ⟨hl0, hs0⟩ := HR.out (by omega)
  have hS0 : Hid (∀ k, k < l0.length → (nth l0 k).Small) := fun k hk => by trivial
  clear HR hs0
  go_wp2_with fail
  refine (toTestS_any a0 cap0 l0 _ (HH0.out.ext T) (by omega)).mono ?_
  rintro e W2 ⟨sg0, rfl, sb0, sc0, A, B, E⟩
  replace T := T.trans E
  have sA0 := Lib.hid A
  clear sc0
  clear A B E sb0
  go_wp2_with fail
  refine (specKindsUsed_any _ _ _ l0 sA0.out hS0.out (by omega) (Nat.le_refl _)).mono ?_
  rintro e W3 ⟨sa, scap, rfl, sk, SR, E⟩
  clear sA0
  replace T := T.trans E
  clear E
  have SR0 := Lib.hid SR
  clear SR
  have U := Ext.refl W3
  go_wp2_with fail
  have hlenR := kindsV_len l0
  refine (toTestS_any a0 cap0 l0 _ (HH0.out.ext T) (by omega)).mono ?_
  rintro e W4 ⟨xg0, rfl, xb0, xc0, A, B, E⟩
  have xbT0 := Nat.le_trans T.size xb0
  have xbU0 := Nat.le_trans U.size xb0
  replace T := T.trans E
  replace U := U.trans E
  have xA0 := Lib.hid A
  have xB0 := Lib.hid B
  clear A B E xb0
  go_wp2_with fail
  refine (implKindsUsed_any _ _ _ l0 xA0.out hS0.out (by omega) (Nat.le_refl _)).mono ?_
  rintro e W5 ⟨xa, xcap, rfl, xk, xO, xR, E⟩
  have gT := T.size
  have gU := U.size
  have xc0i := xc0
  replace T := T.trans E
  replace U := U.trans E
  replace xA0 := Lib.hid (xA0.out.ext E)
  replace xB0 := Lib.hid (xB0.out.ext E)
  clear E
  have xRR := Lib.hid xR
  clear xR
  have xOO := Lib.hid xO
  clear xO
  go_wp2_with fail
  refine (eqInt64S_same _ _ _ _ _ _ xRR.out (SR0.out.ext U) (by omega)).mono ?_
  rintro e W6 ⟨rfl, E⟩
  replace T := T.trans E
  replace U := U.trans E
  replace xA0 := Lib.hid (xA0.out.ext E)
  replace xB0 := Lib.hid (xB0.out.ext E)
  replace xRR := Lib.hid (xRR.out.ext E)
  replace xOO := Lib.hid (xOO.out.ext E)
  clear E
  go_wp2_with fail
  refine (toTestS_any a0 cap0 l0 _ (HH0.out.ext T) (by omega)).mono ?_
  rintro e W7 ⟨tg, rfl, tb, tc, A, B, E⟩
  replace T := T.trans E
  replace U := U.trans E
  replace xA0 := Lib.hid (xA0.out.ext E)
  replace xB0 := Lib.hid (xB0.out.ext E)
  replace xRR := Lib.hid (xRR.out.ext E)
  replace xOO := Lib.hid (xOO.out.ext E)
  have AA := Lib.hid A
  clear A B E tb tc
  go_wp2_with fail
  refine (eqTestS_same _ _ _ _ l0 _ xA0.out AA.out (by omega)).mono ?_
  rintro e W8 ⟨rfl, E⟩
  clear AA xA0
  replace T := T.trans E
  replace U := U.trans E
  replace xB0 := Lib.hid (xB0.out.ext E)
  replace xRR := Lib.hid (xRR.out.ext E)
  replace xOO := Lib.hid (xOO.out.ext E)
  clear E
  go_wp2_with fail
  have O : Hid (Own _ xg0 48 5 (some ⟨xg0, 0, none⟩) l0.length) := Own.of_blk xB0.out (Nat.le_refl _) (by omega)
  refine (markTestS_any _ l0.length _ _ xg0 _ O.out (by omega) (by omega) (by omega)).mono ?_
  rintro e W9 ⟨rfl, C, -, -⟩
  clear xB0
  replace T := T.marked C O.out xbT0
  replace U := U.marked C O.out xbU0
  have xRRn := Lib.hid (xRR.out.marked xOO.out C (ownA_lt xc0i))
  replace xOO := Lib.hid (xOO.out.marked C (ownA_lt xc0i))
  clear xRR
  have xRR := xRRn
  clear xRRn
  clear O C
  go_wp2_with fail
  refine (eqInt64S_same _ _ _ _ _ _ xRR.out (SR0.out.ext U) (by omega)).mono ?_
  rintro e W10 ⟨rfl, E⟩
  replace T := T.trans E
  replace U := U.trans E
  replace xRR := Lib.hid (xRR.out.ext E)
  replace xOO := Lib.hid (xOO.out.ext E)
  clear E
  go_wp2_with fail
  refine (markInt64S_any _ _ _ _ _ _ xOO.out (by omega) (by omega) (by omega)).mono ?_
  rintro e W11 ⟨rfl, C, -, M⟩
  replace T := T.marked C xOO.out gT
  replace U := U.marked C xOO.out gU
  have MM := Lib.hid M
  clear xRR xOO C M
  go_wp2_with fail
  refine (heldInt64S_any _ _ _ _ _ MM.out (by omega) (by omega) (by omega)).mono ?_
  rintro e W12 ⟨rfl, E⟩
  replace T := T.trans E
  replace U := U.trans E
  replace MM := Lib.hid (MM.out.ext E)
  clear E
  go_wp2_with fail
  refine (toTestS_any a0 cap0 l0 _ (HH0.out.ext T) (by omega)).mono ?_
  rintro e W13 ⟨yg0, rfl, yb0, yc0, A, B, E⟩
  replace T := T.trans E
  replace U := U.trans E
  replace MM := Lib.hid (MM.out.ext E)
  have yA0 := Lib.hid A
  clear yc0
  clear A B E yb0
  go_wp2_with fail
  refine (implKindsUsed_any _ _ _ l0 yA0.out hS0.out (by omega) (Nat.le_refl _)).mono ?_
  rintro e W14 ⟨ya, ycap, rfl, yk, yO, yR, E⟩
  replace T := T.trans E
  replace U := U.trans E
  replace MM := Lib.hid (MM.out.ext E)
  replace yA0 := Lib.hid (yA0.out.ext E)
  clear E
  have yRR := Lib.hid yR
  clear yR
  clear yO
  go_wp2_with fail
  refine (eqInt64S_same _ _ _ _ _ _ yRR.out (SR0.out.ext U) (by omega)).mono ?_
  rintro e W15 ⟨rfl, E⟩
  replace T := T.trans E
  replace U := U.trans E
  replace MM := Lib.hid (MM.out.ext E)
  replace yA0 := Lib.hid (yA0.out.ext E)
  replace yRR := Lib.hid (yRR.out.ext E)
  clear E
  go_wp2_with fail
  refine (heldInt64S_any _ _ _ _ _ MM.out (by omega) (by omega) (by omega)).mono ?_
  rintro e W16 ⟨rfl, E⟩
  replace T := T.trans E
  replace U := U.trans E
  replace MM := Lib.hid (MM.out.ext E)
  replace yA0 := Lib.hid (yA0.out.ext E)
  replace yRR := Lib.hid (yRR.out.ext E)
  clear E
  go_wp2_with fail
  go_ret
  exact ⟨rfl, T⟩
open Go.ChangeShapes Go.WideShapes Go.ChangeAt
open Go.ChangeMaps (open_string shut_string)
namespace lawFnExactKindsUsed
set_option maxRecDepth 100000 in
theorem lifted (os : Os) (started : os.Started) (H : Type) (enc : TypeId × Value → H) :
    ReturnsInHanded {} Try.checked os 3 .any (Rows.fnExactKindsUsedSpec.pre6 enc Try.prog Try.f3 Rows.fnExactKindsUsedRow.domain false) (Rows.fnExactKindsUsedSpec.post enc Try.prog Try.f3 false true false false) := by
  refine returnsInHanded_of_change (C := Try.checked) own started (by kernel_rfl) Try.func3
    (ChangeSpec.witness6 (enc := enc) (C := Try.checked) false ⟨#[], #[.slice none 0 0], []⟩ 8 (by kernel_rfl) (by kernel_rfl) (by kernel_rfl) (by kernel_rfl)) ?_
  intro W base args ds gs before hval0 hW hcnd _
  have hval : ∀ (j : Nat) t v, Try.f3.params[j]? = some t → args[j]? = some v → Value.okWide Try.prog W .any base t v := hval0
  have hW' := hW
  obtain ⟨p, q, hA0, hV, rfl, hfz, hnd⟩ := hW
  have hA : DataW.TrodAll enc Try.prog W 0 (fun _ => true) true Try.f3.params.toList args.toList ds p := hA0
  rw [Try.params3] at hA hval
  obtain ⟨v0, vs0, d0, ds0, p0, q0, hargs, rfl, rfl, h0, r0⟩ := trodAll_cons hA
  obtain ⟨rfl, rfl, rfl⟩ := trodAll_nil r0
  obtain rfl : args = #[v0] := by cases args; simp_all
  obtain ⟨rfl, rfl⟩ := trodVars_none hV
  have k0 := h0
  have lt0 : ∀ x ∈ p0, x.block < W.heap.size := by obtain ⟨m, hm⟩ := k0; exact DataW.trod_lt m _ _ _ hm
  obtain ⟨a0, len0, cap0, rfl⟩ := okWide_slice Try.underlying22 (hval 0 22 v0 rfl rfl)
  obtain ⟨fuel0, hf0⟩ := h0
  obtain ⟨b0, c0, l0, e0, hl0, hc0, H0, Q0⟩ := open_rows Test.cell (fun y => y.Sz ∧ y.Wf) Try.underlying22 (by kernel_rfl : Try.prog.cellsOf 71 = 5) (by decide) (fun _ _ _ => Test.el) hf0
  simp only [Value.cells, List.cons.injEq, Value.slice.injEq, and_true] at e0
  obtain ⟨rfl, rfl, rfl⟩ := e0
  clear hA0 hval0
  refine (kindsUsed_law W a0 cap0 l0 H0 Q0 (by omega) hl0).mono fun e W' ⟨he, bx⟩ => ?_
  have bel := bx.below
  subst he
  exact ⟨_, rfl, _, _, _, [], _, [], hW', trodAll_mk1 (shut_bool Try.underlying4 _), (trodAll_cons_mk (Below.trod laidOut (by kernel_rfl) (of_decide_eq_true (by kernel_rfl)) k0 bel lt0) trodAll_mk0), rfl, bel.frame _, fun h => by cases h⟩
theorem over : Rows.fnExactKindsUsedRow.holds Try.pinned (OpenSpec.ofChange Rows.fnExactKindsUsedSpec) :=
  OpenClaim.holds_of_wide 3 Try.f3 rfl rfl rfl rfl rfl rfl rfl ⟨rfl, rfl, rfl, rfl, rfl⟩ rfl rfl rfl rfl rfl (by kernel_rfl) Try.func3 (by kernel_rfl)
    (of_decide_eq_true (by kernel_rfl)) (by unfold Func.isWrapper; first | (rw [if_pos (by decide +kernel)]; kernel_rfl) | (rw [if_neg (by decide +kernel)]; exact ⟨rfl, rfl⟩))
    (fun os started H enc _ => lifted os started H enc)
/-- The given statement. -/
theorem proved : Rows.FnExactKindsUsedSaid := over
end lawFnExactKindsUsed
end Go.Proofs.Ytahfjoadpipghaa

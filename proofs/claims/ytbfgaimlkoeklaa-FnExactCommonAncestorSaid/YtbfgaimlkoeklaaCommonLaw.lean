/- The law FnExactCommonAncestor: whatever the history and the two numbers, the program's common ancestor is the reference's. -/
import Derived.Test.YtbfgaimlkoeklaaComA
import Derived.Test.YtbfgaimlkoeklaaVrsH
namespace Go.Proofs.Ytbfgaimlkoeklaa
open Go.RowKit
set_option maxRecDepth 100000 in
set_option maxHeartbeats 8000000 in
theorem commonAncestor_law (w : World) (a0 : Option Addr) (cap0 : Nat) (l0 : List Version) (H0 : RowsAt 4 Version.cell w a0 l0) (hz0 : ∀ k, k < l0.length → (nth l0 k).Sz ∧ (nth l0 k).In w) (hn0 : l0.length ≤ 9223372036854775807) (_ : l0.length ≤ cap0) (x1 : Int) (_ : -9223372036854775808 ≤ x1 ∧ x1 ≤ 9223372036854775807) (x2 : Int) (_ : -9223372036854775808 ≤ x2 ∧ x2 ≤ 9223372036854775807) :
    Gives Try.prog 5 #[.slice a0 l0.length cap0, .int .i64 x1, .int .i64 x2] w (.bool true) := by
  unfold Gives
  have HH0 : Hid (VersAt w a0 l0) := ⟨H0, fun k hk => (hz0 k hk).2, fun k hk => (hz0 k hk).1.2.2.2⟩
  have HZ0 := Lib.hid fun k hk => (hz0 k hk).1
  clear H0 hz0
  go_enter Try.func5, Try.ntmps5
  go_wp2_with fail
  have T := Ext.refl w
  refine (szVersionS_any a0 cap0 l0 (1048576) _ (HH0.out.ext T).row (fun k hk => ⟨HZ0.out k hk, (HH0.out.ext T).inn k hk⟩) hn0 (by omega) (by omega)).mono ?_
  rintro e W1 ⟨r0, rfl, E, r0a, r0b, hr⟩
  have HR := Lib.hid hr
  clear hr
  replace T := T.trans E
  clear E
  by_cases hneg : r0 < 0
  · go_wp2_with fail
    go_ret
    exact ⟨rfl, T⟩
  obtain ⟨hl0, hs0⟩ := HR.out (by omega)
  have hS0 := Lib.hid hs0
  clear HR hs0
  go_wp2_with fail
  refine (toVersionS_any a0 cap0 l0 _ (HH0.out.ext T).row (HH0.out.ext T).inn (fun k hk => (hS0.out k hk).2.2.1) (by omega)).mono ?_
  rintro e W2 ⟨sg0, sl0, rfl, ss0, A, E⟩
  replace T := T.trans E
  have sn0 := Lib.hid (strips_length ss0)
  have snb0 : sl0.length ≤ 1048576 := by rw [sn0.out]; omega
  have sS0 := Lib.hid (small_same ss0 hS0.out A.at'.cap)
  have sA0 := Lib.hid A.at'
  replace ss0 := Lib.hid ss0
  clear A E
  go_wp2_with fail
  have C := Lib.hid (specCommonAncestor_any _ _ sl0.length sl0 sA0.out sS0.out (by omega) x1 x2)
  rw [ss0.out] at C
  refine C.out.mono ?_
  rintro e W3 ⟨rfl, E⟩
  clear sA0
  replace T := T.trans E
  clear E
  clear C
  go_wp2_with fail
  have xbT0 := T.size
  refine (toVersionS_any a0 cap0 l0 _ (HH0.out.ext T).row (HH0.out.ext T).inn (fun k hk => (hS0.out k hk).2.2.1) (by omega)).mono ?_
  rintro e W4 ⟨xg0, xl0, rfl, xs0, A, E⟩
  have xhi0 := Nat.le_refl W4.heap.size
  have xt0 := Lib.hid A.own.top
  have xB0 := Lib.hid A.own
  replace T := T.trans E
  have xn0 := Lib.hid (strips_length xs0)
  have xnb0 : xl0.length ≤ 1048576 := by rw [xn0.out]; omega
  have xS0 := Lib.hid (small_same xs0 hS0.out A.at'.cap)
  have xA0 := Lib.hid A.at'
  replace xs0 := Lib.hid xs0
  clear A E
  go_wp2_with fail
  have C := Lib.hid (implCommonAncestor_any _ _ xl0.length xl0 xA0.out xS0.out (by omega) x1 x2)
  rw [xs0.out] at C
  refine C.out.mono ?_
  rintro e W5 ⟨rfl, E⟩
  have xhi0i := xhi0
  replace T := T.trans E
  replace xB0 := Lib.hid (xB0.out.ext E)
  replace xA0 := Lib.hid (xA0.out.ext E)
  clear E
  clear C
  go_wp2_with fail
  refine (toVersionS_any a0 cap0 l0 _ (HH0.out.ext T).row (HH0.out.ext T).inn (fun k hk => (hS0.out k hk).2.2.1) (by omega)).mono ?_
  rintro e W6 ⟨tg, tl, rfl, ts, A, E⟩
  replace T := T.trans E
  replace xB0 := Lib.hid (xB0.out.ext E)
  replace xA0 := Lib.hid (xA0.out.ext E)
  have AA := Lib.hid A.at'
  have tsh := Lib.hid (xs0.out.trans ts.symm)
  clear A E ts
  go_wp2_with fail
  refine (eqVersionS_same _ _ _ _ _ _ _ tsh.out xA0.out AA.out (by omega) (fun k hk => by have := (xS0.out k hk).2.2.1; omega)).mono ?_
  rintro e W7 ⟨rfl, E⟩
  clear AA xA0 tsh
  replace T := T.trans E
  replace xB0 := Lib.hid (xB0.out.ext E)
  clear E
  go_wp2_with fail
  go_ret
  exact ⟨rfl, T⟩
open Go.ChangeShapes Go.WideShapes Go.ChangeAt
open Go.ChangeMaps (open_string shut_string)
namespace lawFnExactCommonAncestor
set_option maxRecDepth 100000 in
theorem lifted (os : Os) (started : os.Started) (H : Type) (enc : TypeId × Value → H) :
    ReturnsInHanded {} Try.checked os 5 .any (Rows.fnExactCommonAncestorSpec.pre6 enc Try.prog Try.f5 Rows.fnExactCommonAncestorRow.domain false) (Rows.fnExactCommonAncestorSpec.post enc Try.prog Try.f5 false true false false) := by
  refine returnsInHanded_of_change (C := Try.checked) own started (by kernel_rfl) Try.func5
    (ChangeSpec.witness6 (enc := enc) (C := Try.checked) false ⟨#[], #[.slice none 0 0, .int .i64 0, .int .i64 0], []⟩ 8 (by kernel_rfl) (by kernel_rfl) (by kernel_rfl) (by kernel_rfl)) ?_
  intro W base args ds gs before hval0 hW hcnd _
  have hval : ∀ (j : Nat) t v, Try.f5.params[j]? = some t → args[j]? = some v → Value.okWide Try.prog W .any base t v := hval0
  have hW' := hW
  obtain ⟨p, q, hA0, hV, rfl, hfz, hnd⟩ := hW
  have hA : DataW.TrodAll enc Try.prog W 0 (fun _ => true) true Try.f5.params.toList args.toList ds p := hA0
  rw [Try.params5] at hA hval
  obtain ⟨v0, vs0, d0, ds0, p0, q0, hargs, rfl, rfl, h0, r0⟩ := trodAll_cons hA
  obtain ⟨v1, vs1, d1, ds1, p1, q1, rfl, rfl, rfl, h1, r1⟩ := trodAll_cons r0
  obtain ⟨v2, vs2, d2, ds2, p2, q2, rfl, rfl, rfl, h2, r2⟩ := trodAll_cons r1
  obtain ⟨rfl, rfl, rfl⟩ := trodAll_nil r2
  obtain rfl : args = #[v0, v1, v2] := by cases args; simp_all
  obtain ⟨rfl, rfl⟩ := trodVars_none hV
  have k0 := h0
  have lt0 : ∀ x ∈ p0, x.block < W.heap.size := by obtain ⟨m, hm⟩ := k0; exact DataW.trod_lt m _ _ _ hm
  obtain ⟨a0, len0, cap0, rfl⟩ := okWide_slice Try.underlying22 (hval 0 22 v0 rfl rfl)
  obtain ⟨fuel0, hf0⟩ := h0
  obtain ⟨b0, c0, l0, e0, hl0, hc0, H0, Q0⟩ := open_rows Version.cell (fun y => y.Sz ∧ y.In W) Try.underlying22 (by kernel_rfl : Try.prog.cellsOf 76 = 4) (by decide) (fun _ _ _ => Version.el) hf0
  simp only [Value.cells, List.cons.injEq, Value.slice.injEq, and_true] at e0
  obtain ⟨rfl, rfl, rfl⟩ := e0
  have k1 := h1
  have lt1 : ∀ x ∈ p1, x.block < W.heap.size := by obtain ⟨m, hm⟩ := k1; exact DataW.trod_lt m _ _ _ hm
  obtain ⟨x1, e1, _, _, w1⟩ := open_int Try.underlying2 (hval 1 2 v1 rfl rfl) h1
  subst e1
  have k2 := h2
  have lt2 : ∀ x ∈ p2, x.block < W.heap.size := by obtain ⟨m, hm⟩ := k2; exact DataW.trod_lt m _ _ _ hm
  obtain ⟨x2, e2, _, _, w2⟩ := open_int Try.underlying2 (hval 2 2 v2 rfl rfl) h2
  subst e2
  clear hA0 hval0
  refine (commonAncestor_law W a0 cap0 l0 H0 Q0 (by omega) hl0 x1 (wf_bd w1) x2 (wf_bd w2)).mono fun e W' ⟨he, bx⟩ => ?_
  have bel := bx.below
  subst he
  exact ⟨_, rfl, _, _, _, [], _, [], hW', trodAll_mk1 (shut_bool Try.underlying4 _), (trodAll_cons_mk (Below.trod laidOut (by kernel_rfl) (of_decide_eq_true (by kernel_rfl)) k0 bel lt0) (trodAll_cons_mk (Below.trod laidOut (by kernel_rfl) (of_decide_eq_true (by kernel_rfl)) k1 bel lt1) (trodAll_cons_mk (Below.trod laidOut (by kernel_rfl) (of_decide_eq_true (by kernel_rfl)) k2 bel lt2) trodAll_mk0))), rfl, bel.frame _, fun h => by cases h⟩
theorem over : Rows.fnExactCommonAncestorRow.holds Try.pinned (OpenSpec.ofChange Rows.fnExactCommonAncestorSpec) :=
  OpenClaim.holds_of_wide 5 Try.f5 rfl rfl rfl rfl rfl rfl rfl ⟨rfl, rfl, rfl, rfl, rfl⟩ rfl rfl rfl rfl rfl (by kernel_rfl) Try.func5 (by kernel_rfl)
    (of_decide_eq_true (by kernel_rfl)) (by unfold Func.isWrapper; first | (rw [if_pos (by decide +kernel)]; kernel_rfl) | (rw [if_neg (by decide +kernel)]; exact ⟨rfl, rfl⟩))
    (fun os started H enc _ => lifted os started H enc)
/-- The given statement. -/
theorem proved : Rows.FnExactCommonAncestorSaid := over
end lawFnExactCommonAncestor
end Go.Proofs.Ytbfgaimlkoeklaa

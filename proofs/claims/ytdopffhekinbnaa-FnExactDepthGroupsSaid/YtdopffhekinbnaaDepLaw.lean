/- The law FnExactDepthGroups: whatever the arguments, the program's groups of tests are the reference's, in memory of their own. -/
import Derived.Test.YtdopffhekinbnaaDepS
import Derived.Test.YtdopffhekinbnaaHelpTest
import Derived.Test.YtdopffhekinbnaaHelpInt
namespace Go.Proofs.Ytdopffhekinbnaa
open Go.RowKit
theorem depV_good (l : List Test) (near : Int) : GoodII (depV l near) := by
  have hS : ∀ x ∈ segs l near (ordD l l.length) l.length, 0 < x.length ∧ x.Nodup ∧ x.length ≤ l.length := fun x hx => by
    refine ⟨segs_pos _ _ _ _ x hx, segs_nodup l near l.length x hx, ?_⟩
    have h1 := (List.sublist_flatten_of_mem hx).length_le
    rw [segs_flat l near (ordD l l.length) l.length (by rw [ordD_len]; exact Nat.le_refl _), List.length_take] at h1
    omega
  have hsl := (segs_len l near (ordD l l.length) l.length).1
  unfold depV
  split
  · rename_i hc
    have h16 : l.length ≤ 16 := by
      unfold depC at hc
      split at hc
      · rename_i h1
        exact vAll_len_le (show vAll _ _ 16 l = true from h1)
      · cases hc
    have hb : ∀ k, k < ((segs l near (ordD l l.length) l.length).map upG).length → 0 < (nth ((segs l near (ordD l l.length) l.length).map upG) k).length ∧ (nth ((segs l near (ordD l l.length) l.length).map upG) k).length ≤ 16 := fun k hk => by
      rw [List.length_map] at hk
      have h := hS _ (nth_mem hk)
      rw [nth_map upG hk, upG_len h.2.1]; omega
    have hl : ((segs l near (ordD l l.length) l.length).map upG).length ≤ 16 := by rw [List.length_map]; omega
    have ht := tot_le (L := (segs l near (ordD l l.length) l.length).map upG) (m := 16) (fun k hk => (hb k hk).2) _ (Nat.le_refl _)
    exact ⟨by omega, by omega, fun k hk => (hb k hk).1, fun k hk => by have := (hb k hk).2; omega⟩
  · exact ⟨by simp, by simp [tot], fun k hk => absurd hk (Nat.not_lt_zero _), fun k hk => absurd hk (Nat.not_lt_zero _)⟩
set_option maxRecDepth 100000 in
set_option maxHeartbeats 8000000 in
theorem depthGroups_law (w : World) (a0 : Option Addr) (cap0 : Nat) (l0 : List Test) (H0 : TestAt w a0 l0) (hz0 : ∀ k, k < l0.length → (nth l0 k).Sz ∧ (nth l0 k).Wf) (hn0 : l0.length ≤ 9223372036854775807) (_ : l0.length ≤ cap0) (x1 : Int) (_ : -9223372036854775808 ≤ x1 ∧ x1 ≤ 9223372036854775807) :
    Gives Try.prog 3 #[.slice a0 l0.length cap0, .int .i64 x1] w (.bool true) := by
  unfold Gives
  have HH0 := Lib.hid H0
  have HZ0 := Lib.hid hz0
  clear H0 hz0
  go_enter Try.func3, Try.ntmps3
  go_wp2_with fail
  have T := Ext.refl w
  refine (szTestS_any a0 cap0 l0 (1048576) _ (HH0.out.ext T) (fun k hk => (HZ0.out k hk).1) hn0 (by omega) (by omega)).mono ?_
  rintro e W1 ⟨r0, rfl, E, r0a, r0b, hr⟩
  have HR := Lib.hid hr
  clear hr
  replace T := T.trans E
  clear E
  by_cases hneg : r0 < 0
  · go_wp2_with fail
    go_ret
    exact ⟨rfl, T⟩
  obtain ⟨hl0, hs0⟩ := HR.out (by omega)
  have hS0 : Hid (∀ k, k < l0.length → (nth l0 k).Small) := fun k hk => by trivial
  clear HR hs0
  go_wp2_with fail
  refine (toTestS_any a0 cap0 l0 _ (HH0.out.ext T) (by omega)).mono ?_
  rintro e W2 ⟨sg0, rfl, sb0, sc0, A, B, E⟩
  replace T := T.trans E
  have sA0 := Lib.hid A
  clear sc0
  clear A B E sb0
  go_wp2_with fail
  refine (specDepthGroups_any _ _ _ l0 sA0.out hS0.out (by omega) (Nat.le_refl _) x1).mono ?_
  rintro e W3 ⟨sv, svs, sgs, rfl, SB, E⟩
  obtain ⟨sa, scap, rfl, sk, SR, -, -⟩ := SB.out
  clear SB
  clear sA0
  replace T := T.trans E
  clear E
  have SR0 := Lib.hid SR
  clear SR
  have U := Ext.refl W3
  go_wp2_with fail
  have hG := Lib.hid (depV_good l0 x1)
  have hG1 := hG.out.len
  have hG2 := hG.out.sum
  refine (toTestS_any a0 cap0 l0 _ (HH0.out.ext T) (by omega)).mono ?_
  rintro e W4 ⟨xg0, rfl, xb0, xc0, A, B, E⟩
  have xbT0 := Nat.le_trans T.size xb0
  have xbU0 := Nat.le_trans U.size xb0
  replace T := T.trans E
  replace U := U.trans E
  have xA0 := Lib.hid A
  have xB0 := Lib.hid B
  clear A B E xb0
  go_wp2_with fail
  refine (implDepthGroups_any _ _ _ l0 xA0.out hS0.out (by omega) (Nat.le_refl _) x1).mono ?_
  rintro e W5 ⟨xv, xvs, xgs, rfl, xO, E⟩
  obtain ⟨xa, xcap, rfl, xk, -, -, -⟩ := xO.out
  have gT := T.size
  have gU := U.size
  have xc0i := xc0
  replace T := T.trans E
  replace U := U.trans E
  replace xA0 := Lib.hid (xA0.out.ext E)
  replace xB0 := Lib.hid (xB0.out.ext E)
  clear E
  have xOO := Lib.hid xO
  clear xO
  go_wp2_with fail
  refine (eqInt64SS_same _ _ _ _ _ _ _ _ xOO.out.iis (SR0.out.ext U) (by omega) hG.out.inn).mono ?_
  rintro e W6 ⟨rfl, E⟩
  replace T := T.trans E
  replace U := U.trans E
  replace xA0 := Lib.hid (xA0.out.ext E)
  replace xB0 := Lib.hid (xB0.out.ext E)
  replace xOO := Lib.hid (xOO.out.ext E)
  clear E
  go_wp2_with fail
  refine (toTestS_any a0 cap0 l0 _ (HH0.out.ext T) (by omega)).mono ?_
  rintro e W7 ⟨tg, rfl, tb, tc, A, B, E⟩
  replace T := T.trans E
  replace U := U.trans E
  replace xA0 := Lib.hid (xA0.out.ext E)
  replace xB0 := Lib.hid (xB0.out.ext E)
  replace xOO := Lib.hid (xOO.out.ext E)
  have AA := Lib.hid A
  clear A B E tb tc
  go_wp2_with fail
  refine (eqTestS_same _ _ _ _ l0 _ xA0.out AA.out (by omega)).mono ?_
  rintro e W8 ⟨rfl, E⟩
  clear AA xA0
  replace T := T.trans E
  replace U := U.trans E
  replace xB0 := Lib.hid (xB0.out.ext E)
  replace xOO := Lib.hid (xOO.out.ext E)
  clear E
  go_wp2_with fail
  have O : Hid (Own _ xg0 41 5 (some ⟨xg0, 0, none⟩) l0.length) := Own.of_blk xB0.out (Nat.le_refl _) (by omega)
  refine (markTestS_any _ l0.length _ _ xg0 _ O.out (by omega) (by omega) (by omega)).mono ?_
  rintro e W9 ⟨rfl, C, -, -⟩
  clear xB0
  replace T := T.marked C O.out xbT0
  replace U := U.marked C O.out xbU0
  have xOOn := Lib.hid (xOO.out.marked C (ownA_lt xc0i))
  clear xOO
  have xOO := xOOn
  clear xOOn
  clear O C
  go_wp2_with fail
  refine (eqInt64SS_same _ _ _ _ _ _ _ _ xOO.out.iis (SR0.out.ext U) (by omega) hG.out.inn).mono ?_
  rintro e W10 ⟨rfl, E⟩
  replace T := T.trans E
  replace U := U.trans E
  replace xOO := Lib.hid (xOO.out.ext E)
  clear E
  go_wp2_with fail
  refine (markInt64SS_any _ _ _ _ _ _ _ _ xOO.out.oii hG.out.pos (by omega) (by omega) (by omega) (by omega)).mono ?_
  rintro e W11 ⟨rfl, S, xO2, M⟩
  replace T := S.ext T gT
  replace U := S.ext U gU
  have MM := Lib.hid M
  have xO3 := Lib.hid xO2
  clear xOO S M xO2
  go_wp2_with fail
  refine (heldInt64SS_any _ _ _ _ _ _ _ _ xO3.out MM.out (by omega) (by omega) (by omega) (by omega)).mono ?_
  rintro e W12 ⟨rfl, E⟩
  replace T := T.trans E
  replace U := U.trans E
  replace MM := Lib.hid (MM.out.ext E)
  replace xO3 := Lib.hid (xO3.out.ext E)
  clear E
  go_wp2_with fail
  refine (toTestS_any a0 cap0 l0 _ (HH0.out.ext T) (by omega)).mono ?_
  rintro e W13 ⟨yg0, rfl, yb0, yc0, A, B, E⟩
  replace T := T.trans E
  replace U := U.trans E
  replace MM := Lib.hid (MM.out.ext E)
  replace xO3 := Lib.hid (xO3.out.ext E)
  have yA0 := Lib.hid A
  clear yc0
  clear A B E yb0
  go_wp2_with fail
  refine (implDepthGroups_any _ _ _ l0 yA0.out hS0.out (by omega) (Nat.le_refl _) x1).mono ?_
  rintro e W14 ⟨yv, yvs, ygs, rfl, yO, E⟩
  obtain ⟨ya, ycap, rfl, yk, -, -, -⟩ := yO.out
  replace T := T.trans E
  replace U := U.trans E
  replace MM := Lib.hid (MM.out.ext E)
  replace xO3 := Lib.hid (xO3.out.ext E)
  replace yA0 := Lib.hid (yA0.out.ext E)
  clear E
  have yOO := Lib.hid yO
  clear yO
  go_wp2_with fail
  refine (eqInt64SS_same _ _ _ _ _ _ _ _ yOO.out.iis (SR0.out.ext U) (by omega) hG.out.inn).mono ?_
  rintro e W15 ⟨rfl, E⟩
  replace T := T.trans E
  replace U := U.trans E
  replace MM := Lib.hid (MM.out.ext E)
  replace xO3 := Lib.hid (xO3.out.ext E)
  replace yA0 := Lib.hid (yA0.out.ext E)
  replace yOO := Lib.hid (yOO.out.ext E)
  clear E
  go_wp2_with fail
  refine (heldInt64SS_any _ _ _ _ _ _ _ _ xO3.out MM.out (by omega) (by omega) (by omega) (by omega)).mono ?_
  rintro e W16 ⟨rfl, E⟩
  replace T := T.trans E
  replace U := U.trans E
  replace MM := Lib.hid (MM.out.ext E)
  replace xO3 := Lib.hid (xO3.out.ext E)
  replace yA0 := Lib.hid (yA0.out.ext E)
  replace yOO := Lib.hid (yOO.out.ext E)
  clear E
  go_wp2_with fail
  go_ret
  exact ⟨rfl, T⟩
open Go.ChangeShapes Go.WideShapes Go.ChangeAt
open Go.ChangeMaps (open_string shut_string)
namespace lawFnExactDepthGroups
set_option maxRecDepth 100000 in
theorem lifted (os : Os) (started : os.Started) (H : Type) (enc : TypeId × Value → H) :
    ReturnsInHanded {} Try.checked os 3 .any (Rows.fnExactDepthGroupsSpec.pre6 enc Try.prog Try.f3 Rows.fnExactDepthGroupsRow.domain false) (Rows.fnExactDepthGroupsSpec.post enc Try.prog Try.f3 false true false false) := by
  refine returnsInHanded_of_change (C := Try.checked) own started (by kernel_rfl) Try.func3
    (ChangeSpec.witness6 (enc := enc) (C := Try.checked) false ⟨#[], #[.slice none 0 0, .int .i64 0], []⟩ 8 (by kernel_rfl) (by kernel_rfl) (by kernel_rfl) (by kernel_rfl)) ?_
  intro W base args ds gs before hval0 hW hcnd _
  have hval : ∀ (j : Nat) t v, Try.f3.params[j]? = some t → args[j]? = some v → Value.okWide Try.prog W .any base t v := hval0
  have hW' := hW
  obtain ⟨p, q, hA0, hV, rfl, hfz, hnd⟩ := hW
  have hA : DataW.TrodAll enc Try.prog W 0 (fun _ => true) true Try.f3.params.toList args.toList ds p := hA0
  rw [Try.params3] at hA hval
  obtain ⟨v0, vs0, d0, ds0, p0, q0, hargs, rfl, rfl, h0, r0⟩ := trodAll_cons hA
  obtain ⟨v1, vs1, d1, ds1, p1, q1, rfl, rfl, rfl, h1, r1⟩ := trodAll_cons r0
  obtain ⟨rfl, rfl, rfl⟩ := trodAll_nil r1
  obtain rfl : args = #[v0, v1] := by cases args; simp_all
  obtain ⟨rfl, rfl⟩ := trodVars_none hV
  have k0 := h0
  have lt0 : ∀ x ∈ p0, x.block < W.heap.size := by obtain ⟨m, hm⟩ := k0; exact DataW.trod_lt m _ _ _ hm
  obtain ⟨a0, len0, cap0, rfl⟩ := okWide_slice Try.underlying22 (hval 0 22 v0 rfl rfl)
  obtain ⟨fuel0, hf0⟩ := h0
  obtain ⟨b0, c0, l0, e0, hl0, hc0, H0, Q0⟩ := open_rows Test.cell (fun y => y.Sz ∧ y.Wf) Try.underlying22 (by kernel_rfl : Try.prog.cellsOf 53 = 5) (by decide) (fun _ _ _ => Test.el) hf0
  simp only [Value.cells, List.cons.injEq, Value.slice.injEq, and_true] at e0
  obtain ⟨rfl, rfl, rfl⟩ := e0
  have k1 := h1
  have lt1 : ∀ x ∈ p1, x.block < W.heap.size := by obtain ⟨m, hm⟩ := k1; exact DataW.trod_lt m _ _ _ hm
  obtain ⟨x1, e1, _, _, w1⟩ := open_int Try.underlying2 (hval 1 2 v1 rfl rfl) h1
  subst e1
  clear hA0 hval0
  refine (depthGroups_law W a0 cap0 l0 H0 Q0 (by omega) hl0 x1 (wf_bd w1)).mono fun e W' ⟨he, bx⟩ => ?_
  have bel := bx.below
  subst he
  exact ⟨_, rfl, _, _, _, [], _, [], hW', trodAll_mk1 (shut_bool Try.underlying4 _), (trodAll_cons_mk (Below.trod laidOut (by kernel_rfl) (of_decide_eq_true (by kernel_rfl)) k0 bel lt0) (trodAll_cons_mk (Below.trod laidOut (by kernel_rfl) (of_decide_eq_true (by kernel_rfl)) k1 bel lt1) trodAll_mk0)), rfl, bel.frame _, fun h => by cases h⟩
theorem over : Rows.fnExactDepthGroupsRow.holds Try.pinned (OpenSpec.ofChange Rows.fnExactDepthGroupsSpec) :=
  OpenClaim.holds_of_wide 3 Try.f3 rfl rfl rfl rfl rfl rfl rfl ⟨rfl, rfl, rfl, rfl, rfl⟩ rfl rfl rfl rfl rfl (by kernel_rfl) Try.func3 (by kernel_rfl)
    (of_decide_eq_true (by kernel_rfl)) (by unfold Func.isWrapper; first | (rw [if_pos (by decide +kernel)]; kernel_rfl) | (rw [if_neg (by decide +kernel)]; exact ⟨rfl, rfl⟩))
    (fun os started H enc _ => lifted os started H enc)
/-- The given statement. -/
theorem proved : Rows.FnExactDepthGroupsSaid := over
end lawFnExactDepthGroups
end Go.Proofs.Ytdopffhekinbnaa

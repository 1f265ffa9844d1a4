/- The law FnExactDelayCost: walked. -/
import Derived.Test.YtbkjhneemndfgaaDelay
import Derived.Test.YtbkjhneemndfgaaHelpA
import Derived.Test.YtbkjhneemndfgaaHelpInt
import Derived.Test.YtbkjhneemndfgaaOpenA
namespace Go.Proofs.Ytbkjhneemndfgaa
open Go.RowKit
set_option maxHeartbeats 4000000 in
theorem delay_law (w : World) (a : Option Addr) (cap : Nat) (l : List Area) (H : AreaAt w a l) (hsz : ∀ k, k < l.length → (nth l k).Sz ∧ (nth l k).Wf) (hn : l.length ≤ 9223372036854775807) (_ : l.length ≤ cap)
    (a2 : Option Addr) (cap2 : Nat) (ord : List Int) (H2 : IntAt w a2 ord) (_ : ∀ k, k < ord.length → -9223372036854775808 ≤ nth ord k ∧ nth ord k ≤ 9223372036854775807) (hn2 : ord.length ≤ 9223372036854775807) (_ : ord.length ≤ cap2) (s : Int) (_ : -9223372036854775808 ≤ s ∧ s ≤ 9223372036854775807) (d : Int) (_ : -9223372036854775808 ≤ d ∧ d ≤ 9223372036854775807) :
    Gives Try.prog 4 #[.slice a l.length cap, .slice a2 ord.length cap2, .int .i64 s, .int .i64 d] w (.bool true) := by
  unfold Gives
  have HH := Lib.hid H
  have HI := Lib.hid H2
  clear H H2
  by_cases hbig : 1048576 < ord.length
  · go_enter Try.func4, Try.ntmps4
    go_wp2_with fail
    go_ret
    exact ⟨rfl, Ext.refl _⟩
  have hb' : ord.length ≤ 1048576 := by omega
  clear hbig
  go_enter Try.func4, Try.ntmps4
  go_wp2_with fail
  refine (szAreaS_any a cap l 1048576 w HH.out (fun k hk => (hsz k hk).1) hn (by omega) (by omega)).mono ?_
  rintro e w' ⟨r, rfl, ⟨y1, rfl⟩, r0, hr⟩
  have HR := Lib.hid hr
  clear hr hsz
  by_cases hneg : r < 0
  · go_wp2_with fail
    go_ret
    exact ⟨rfl, (Ext.refl _).lift _⟩
  obtain ⟨hl0, hs0⟩ := HR.out (by omega)
  have hsz' : Hid (AreaSz l) := fun k hk => by have := hs0 k hk; omega
  clear HR hs0
  go_wp2_with fail
  refine (toAreaS_any a cap l _ (HH.out.ext ((Ext.refl _).lift _)) (by omega)).mono ?_
  rintro e w' ⟨g1, rfl, -, A1, -, y2, rfl⟩
  replace A1 := Lib.hid A1
  go_wp2_with fail
  refine (toInt64S_any a2 cap2 ord _ (HI.out.ext (by repeat (first | exact Ext.refl _ | refine Ext.lift ?_ _ | refine Ext.alloc ?_ _))) (by omega)).mono ?_
  rintro e w' ⟨g2, rfl, -, A2, -, y3, rfl⟩
  replace A2 := Lib.hid A2
  go_wp2_with fail
  refine (specDelayCost_any _ _ l _ _ ord s d _ (A1.out.ext (by repeat (first | exact Ext.refl _ | refine Ext.lift ?_ _ | refine Ext.alloc ?_ _))) hsz'.out A2.out (by omega) (by omega) (Nat.le_refl _)).mono ?_
  rintro e w' ⟨rfl, y4, rfl⟩
  clear A1 A2
  go_wp2_with fail
  refine (toAreaS_any a cap l _ (HH.out.ext (by repeat (first | exact Ext.refl _ | refine Ext.lift ?_ _ | refine Ext.alloc ?_ _))) (by omega)).mono ?_
  rintro e w' ⟨g1, rfl, -, A1, -, y5, rfl⟩
  replace A1 := Lib.hid A1
  go_wp2_with fail
  refine (toInt64S_any a2 cap2 ord _ (HI.out.ext (by repeat (first | exact Ext.refl _ | refine Ext.lift ?_ _ | refine Ext.alloc ?_ _))) (by omega)).mono ?_
  rintro e w' ⟨g2, rfl, -, A2, -, y6, rfl⟩
  replace A2 := Lib.hid A2
  go_wp2_with fail
  refine (implDelayCost_any _ _ l _ _ ord s d _ (A1.out.ext (by repeat (first | exact Ext.refl _ | refine Ext.lift ?_ _ | refine Ext.alloc ?_ _))) hsz'.out A2.out (by omega) (by omega) (Nat.le_refl _)).mono ?_
  rintro e w' ⟨rfl, y7, rfl⟩
  go_wp2_with fail
  refine (toAreaS_any a cap l _ (HH.out.ext (by repeat (first | exact Ext.refl _ | refine Ext.lift ?_ _ | refine Ext.alloc ?_ _))) (by omega)).mono ?_
  rintro e w' ⟨g3, rfl, -, A3, -, y8, rfl⟩
  go_wp2_with fail
  refine (eqAreaS_same _ _ _ _ l _ (A1.out.ext (by repeat (first | exact Ext.refl _ | refine Ext.lift ?_ _ | refine Ext.alloc ?_ _))) A3 (by omega)).mono ?_
  rintro e w' ⟨rfl, y9, rfl⟩
  clear A3
  go_wp2_with fail
  refine (toInt64S_any a2 cap2 ord _ (HI.out.ext (by repeat (first | exact Ext.refl _ | refine Ext.lift ?_ _ | refine Ext.alloc ?_ _))) (by omega)).mono ?_
  rintro e w' ⟨g4, rfl, -, A4, -, y10, rfl⟩
  go_wp2_with fail
  refine (eqInt64S_same _ _ _ _ ord _ (A2.out.ext (by repeat (first | exact Ext.refl _ | refine Ext.lift ?_ _ | refine Ext.alloc ?_ _))) A4 (by omega)).mono ?_
  rintro e w' ⟨rfl, y11, rfl⟩
  clear A4
  go_wp2_with fail
  go_ret
  exact ⟨rfl, (by repeat (first | exact Ext.refl _ | refine Ext.lift ?_ _ | refine Ext.alloc ?_ _))⟩
open Go.ChangeShapes Go.WideShapes Go.ChangeAt
open Go.ChangeMaps (open_string shut_string)
namespace lawFnExactDelayCost
set_option maxRecDepth 100000 in
theorem lifted (os : Os) (started : os.Started) (H : Type) (enc : TypeId × Value → H) :
    ReturnsInHanded {} Try.checked os 4 .any (Rows.fnExactDelayCostSpec.pre6 enc Try.prog Try.f4 Rows.fnExactDelayCostRow.domain false) (Rows.fnExactDelayCostSpec.post enc Try.prog Try.f4 false true false false) := by
  refine returnsInHanded_of_change (C := Try.checked) own started (by kernel_rfl) Try.func4
    (ChangeSpec.witness6 (enc := enc) (C := Try.checked) false ⟨#[], #[.slice none 0 0, .slice none 0 0, .int .i64 0, .int .i64 0], []⟩ 8 (by kernel_rfl) (by kernel_rfl) (by kernel_rfl) (by kernel_rfl)) ?_
  intro W base args ds gs before hval0 hW hcnd _
  have hval : ∀ (j : Nat) t v, Try.f4.params[j]? = some t → args[j]? = some v → Value.okWide Try.prog W .any base t v := hval0
  have hW' := hW
  obtain ⟨p, q, hA0, hV, rfl, hfz, hnd⟩ := hW
  have hA : DataW.TrodAll enc Try.prog W 0 (fun _ => true) true Try.f4.params.toList args.toList ds p := hA0
  rw [Try.params4] at hA hval
  obtain ⟨v0, vs0, d0, ds0, p0, q0, hargs, rfl, rfl, h0, r0⟩ := trodAll_cons hA
  obtain ⟨v1, vs1, d1, ds1, p1, q1, rfl, rfl, rfl, h1, r1⟩ := trodAll_cons r0
  obtain ⟨v2, vs2, d2, ds2, p2, q2, rfl, rfl, rfl, h2, r2⟩ := trodAll_cons r1
  obtain ⟨v3, vs3, d3, ds3, p3, q3, rfl, rfl, rfl, h3, r3⟩ := trodAll_cons r2
  obtain ⟨rfl, rfl, rfl⟩ := trodAll_nil r3
  obtain rfl : args = #[v0, v1, v2, v3] := by cases args; simp_all
  obtain ⟨rfl, rfl⟩ := trodVars_none hV
  have k0 := h0
  have lt0 : ∀ x ∈ p0, x.block < W.heap.size := by obtain ⟨m, hm⟩ := k0; exact DataW.trod_lt m _ _ _ hm
  obtain ⟨a0, len0, cap0, rfl⟩ := okWide_slice Try.underlying22 (hval 0 22 v0 rfl rfl)
  obtain ⟨fuel0, hf0⟩ := h0
  obtain ⟨b0, c0, l0, e0, hl0, hc0, H0, Q0⟩ := open_rows Area.cell (fun y => y.Sz ∧ y.Wf) Try.underlying22 (by kernel_rfl : Try.prog.cellsOf 44 = 3) (by decide) (fun _ _ _ => Area.el) hf0
  simp only [Value.cells, List.cons.injEq, Value.slice.injEq, and_true] at e0
  obtain ⟨rfl, rfl, rfl⟩ := e0
  have k1 := h1
  have lt1 : ∀ x ∈ p1, x.block < W.heap.size := by obtain ⟨m, hm⟩ := k1; exact DataW.trod_lt m _ _ _ hm
  obtain ⟨a1, len1, cap1, rfl⟩ := okWide_slice Try.underlying23 (hval 1 23 v1 rfl rfl)
  obtain ⟨fuel1, hf1⟩ := h1
  obtain ⟨b1, c1, l1, e1, hl1, hc1, H1, Q1⟩ := open_rows (fun (x : Int) (_ : Nat) => Value.int .i64 x) (fun y => -9223372036854775808 ≤ y ∧ y ≤ 9223372036854775807) Try.underlying23 (by kernel_rfl : Try.prog.cellsOf 2 = 1) (by decide) (fun _ _ _ => int_el) hf1
  simp only [Value.cells, List.cons.injEq, Value.slice.injEq, and_true] at e1
  obtain ⟨rfl, rfl, rfl⟩ := e1
  have k2 := h2
  have lt2 : ∀ x ∈ p2, x.block < W.heap.size := by obtain ⟨m, hm⟩ := k2; exact DataW.trod_lt m _ _ _ hm
  obtain ⟨x2, e2, _, _, w2⟩ := open_int Try.underlying2 (hval 2 2 v2 rfl rfl) h2
  subst e2
  have k3 := h3
  have lt3 : ∀ x ∈ p3, x.block < W.heap.size := by obtain ⟨m, hm⟩ := k3; exact DataW.trod_lt m _ _ _ hm
  obtain ⟨x3, e3, _, _, w3⟩ := open_int Try.underlying2 (hval 3 2 v3 rfl rfl) h3
  subst e3
  clear hA0 hval0
  refine (delay_law W a0 cap0 l0 H0 Q0 (by omega) hl0 a1 cap1 l1 H1 Q1 (by omega) hl1 x2 (wf_bd w2) x3 (wf_bd w3)).mono fun e W' ⟨he, bx⟩ => ?_
  have bel := bx.below
  subst he
  exact ⟨_, rfl, _, _, _, [], _, [], hW', trodAll_mk1 (shut_bool Try.underlying4 _), (trodAll_cons_mk (Below.trod laidOut (by kernel_rfl) (of_decide_eq_true (by kernel_rfl)) k0 bel lt0) (trodAll_cons_mk (Below.trod laidOut (by kernel_rfl) (of_decide_eq_true (by kernel_rfl)) k1 bel lt1) (trodAll_cons_mk (Below.trod laidOut (by kernel_rfl) (of_decide_eq_true (by kernel_rfl)) k2 bel lt2) (trodAll_cons_mk (Below.trod laidOut (by kernel_rfl) (of_decide_eq_true (by kernel_rfl)) k3 bel lt3) trodAll_mk0)))), rfl, bel.frame _, fun h => by cases h⟩
theorem over : Rows.fnExactDelayCostRow.holds Try.pinned (OpenSpec.ofChange Rows.fnExactDelayCostSpec) :=
  OpenClaim.holds_of_wide 4 Try.f4 rfl rfl rfl rfl rfl rfl rfl ⟨rfl, rfl, rfl, rfl, rfl⟩ rfl rfl rfl rfl rfl (by kernel_rfl) Try.func4 (by kernel_rfl)
    (of_decide_eq_true (by kernel_rfl)) (by unfold Func.isWrapper; first | (rw [if_pos (by decide +kernel)]; kernel_rfl) | (rw [if_neg (by decide +kernel)]; exact ⟨rfl, rfl⟩))
    (fun os started H enc _ => lifted os started H enc)
/-- The given statement. -/
theorem proved : Rows.FnExactDelayCostSaid := over
end lawFnExactDelayCost
end Go.Proofs.Ytbkjhneemndfgaa

/- The laws FnExactCausesBy and FnExactPlacesOf: whatever the incidents, the program's names and sums are the reference's, in memory of their own. -/
import Derived.Test.YtndkcgiadpdcjaaSumJ
import Derived.Test.YtndkcgiadpdcjaaHelpIncident
import Derived.Test.YtndkcgiadpdcjaaHelpInt
namespace Go.Proofs.Ytndkcgiadpdcjaa
open Go.RowKit
theorem Own.chgN {w w' : World} {base T m n : Nat} {a d : Option Addr} (ho : Own w base T m a n) (hc : Chg d w w') (hne : ∀ g o s g' o' s', d = some ⟨g, o, s⟩ → a = some ⟨g', o', s'⟩ → g' ≠ g) : Own w' base T m a n := by
  rcases ho with h | ⟨g, N, e, hb, hB, hN⟩
  · exact .inl h
  · exact .inr ⟨g, N, e, hb, hB.chg hc (fun g' o s e2 => fun e3 => hne g' o s g 0 none e2 e e3), hN⟩
theorem far_addr {na sa : Option Addr} {n m nc sc : Nat} (h : ∀ b, (Value.slice sa m sc).ownBlock = some b → (Value.slice na n nc).ownBlock ≠ some b) : ∀ g o s g' o' s', na = some ⟨g, o, s⟩ → sa = some ⟨g', o', s'⟩ → g' ≠ g := by
  intro g o s g' o' s' e1 e2 e3
  subst e1 e2 e3
  exact h g' rfl rfl
theorem ownA_some {n : Nat} {a : Option Addr} {g o : Nat} {s : Option Nat} (h : ownA n a = some ⟨g, o, s⟩) : a = some ⟨g, o, s⟩ := by
  unfold ownA at h
  split at h
  · cases h
  · exact h
/-- The parts of what the sums hand back. -/
theorem SumOut.parts {f : Incident → ByteArray × Int} {l : List Incident} {w w' : World} {e : Ending} (h : SumOut f l w e w') : ∃ na nc sa sc, e = .returned (.tuple #[.slice na (sumN f l).length nc, .slice sa (sumV f l).length sc, .int .i64 (sumC l)]) ∧ StrAt w' na (sumN f l) ∧ Own w' w.heap.size 9 1 na (sumN f l).length ∧ IntAt w' sa (sumV f l) ∧ Own w' w.heap.size 2 1 sa (sumV f l).length ∧ (∀ g o s g' o' s', na = some ⟨g, o, s⟩ → sa = some ⟨g', o', s'⟩ → g' ≠ g) ∧ Ext w w' := by
  obtain ⟨vn, vs, rfl, h1, h2, h3, h4⟩ := h
  obtain ⟨na, nc, rfl, -, -, r1, o1⟩ := h1.shape
  obtain ⟨sa, sc, rfl, -, -, r2, o2⟩ := h2.shape
  exact ⟨na, nc, sa, sc, rfl, r1, o1, r2, o2, far_addr h3, h4⟩
open Go.ChangeShapes Go.WideShapes Go.ChangeAt
open Go.ChangeMaps (open_string shut_string)
set_option maxRecDepth 100000 in
set_option maxHeartbeats 8000000 in
theorem causesBy_law (w : World) (a0 : Option Addr) (cap0 : Nat) (l0 : List Incident) (H0 : IncidentAt w a0 l0) (hz0 : ∀ k, k < l0.length → (nth l0 k).Sz ∧ (nth l0 k).Wf) (hn0 : l0.length ≤ 9223372036854775807) (_ : l0.length ≤ cap0) :
    Gives Try.prog 3 #[.slice a0 l0.length cap0] w (.bool true) := by
  unfold Gives
  have HH0 := Lib.hid H0
  have HZ0 := Lib.hid hz0
  clear H0 hz0
  go_enter Try.func3, Try.ntmps3
  go_wp2_with fail
  have T := Ext.refl w
  refine (szIncidentS_any a0 cap0 l0 (1048576) _ (HH0.out.ext T) (fun k hk => (HZ0.out k hk).1) hn0 (by omega) (by omega)).mono ?_
  rintro e W1 ⟨r0, rfl, E, r0a, r0b, hr⟩
  have HR := Lib.hid hr
  clear hr
  replace T := T.trans E
  clear E
  by_cases hneg : r0 < 0
  · go_wp2_with fail
    go_ret
    exact ⟨rfl, T⟩
  obtain ⟨hl0, hs0⟩ := HR.out (by omega)
  have hS0 : Hid (∀ k, k < l0.length → (nth l0 k).Small) := fun k hk => by have := hs0 k hk; unfold Incident.Small; omega
  clear HR hs0
  go_wp2_with fail
  refine (toIncidentS_any a0 cap0 l0 _ (HH0.out.ext T) (by omega)).mono ?_
  rintro e W2 ⟨sg0, rfl, sb0, sc0, A, B, E⟩
  replace T := T.trans E
  have sA0 := Lib.hid A
  clear sc0
  clear A B E sb0
  go_wp2_with fail
  refine (specCausesBy_any _ _ _ l0 sA0.out hS0.out (by omega)).mono ?_
  intro e W3 hsum
  obtain ⟨sn, snc, sv, svc, rfl, q1, -, q2, -, -, E⟩ := hsum.parts
  clear sA0 hsum
  replace T := T.trans E
  clear E
  have SR1 := Lib.hid q1
  have SR2 := Lib.hid q2
  clear q1 q2
  have U := Ext.refl W3
  go_wp2_with fail
  have hlenR := sumN_len causeF l0
  have hlenV : (sumV causeF l0).length ≤ 48 := by rw [sumV_len]; exact hlenR
  refine (toIncidentS_any a0 cap0 l0 _ (HH0.out.ext T) (by omega)).mono ?_
  rintro e W4 ⟨xg0, rfl, xb0, xc0, A, B, E⟩
  have xbT0 := Nat.le_trans T.size xb0
  have xbU0 := Nat.le_trans U.size xb0
  replace T := T.trans E
  replace U := U.trans E
  have xA0 := Lib.hid A
  have xB0 := Lib.hid B
  clear A B E xb0
  go_wp2_with fail
  refine (implCausesBy_any _ _ _ l0 xA0.out hS0.out (by omega)).mono ?_
  intro e W5 hsum
  obtain ⟨xn, xnc, xv, xvc, rfl, q1, q3, q2, q4, q5, E⟩ := hsum.parts
  clear hsum
  have gT := T.size
  have gU := U.size
  have xc0i := xc0
  replace T := T.trans E
  replace U := U.trans E
  replace xA0 := Lib.hid (xA0.out.ext E)
  replace xB0 := Lib.hid (xB0.out.ext E)
  clear E
  have xR1 := Lib.hid q1
  have xR2 := Lib.hid q2
  have xO1 := Lib.hid q3
  have xO2 := Lib.hid q4
  have xF := Lib.hid q5
  clear q1 q2 q3 q4 q5
  go_wp2_with fail
  refine (eqStringS_same _ _ _ _ _ _ xR1.out (SR1.out.ext U) (by omega)).mono ?_
  rintro e W6 ⟨rfl, E⟩
  replace T := T.trans E
  replace U := U.trans E
  replace xA0 := Lib.hid (xA0.out.ext E)
  replace xB0 := Lib.hid (xB0.out.ext E)
  replace xR1 := Lib.hid (xR1.out.ext E)
  replace xR2 := Lib.hid (xR2.out.ext E)
  replace xO1 := Lib.hid (xO1.out.ext E)
  replace xO2 := Lib.hid (xO2.out.ext E)
  clear E
  go_wp2_with fail
  refine (eqInt64S_same _ _ _ _ _ _ xR2.out (SR2.out.ext U) (by omega)).mono ?_
  rintro e W7 ⟨rfl, E⟩
  replace T := T.trans E
  replace U := U.trans E
  replace xA0 := Lib.hid (xA0.out.ext E)
  replace xB0 := Lib.hid (xB0.out.ext E)
  replace xR1 := Lib.hid (xR1.out.ext E)
  replace xR2 := Lib.hid (xR2.out.ext E)
  replace xO1 := Lib.hid (xO1.out.ext E)
  replace xO2 := Lib.hid (xO2.out.ext E)
  clear E
  go_wp2_with fail
  refine (toIncidentS_any a0 cap0 l0 _ (HH0.out.ext T) (by omega)).mono ?_
  rintro e W8 ⟨tg, rfl, tb, tc, A, B, E⟩
  replace T := T.trans E
  replace U := U.trans E
  replace xA0 := Lib.hid (xA0.out.ext E)
  replace xB0 := Lib.hid (xB0.out.ext E)
  replace xR1 := Lib.hid (xR1.out.ext E)
  replace xR2 := Lib.hid (xR2.out.ext E)
  replace xO1 := Lib.hid (xO1.out.ext E)
  replace xO2 := Lib.hid (xO2.out.ext E)
  have AA := Lib.hid A
  clear A B E tb tc
  go_wp2_with fail
  refine (eqIncidentS_same _ _ _ _ l0 _ xA0.out AA.out (by omega)).mono ?_
  rintro e W9 ⟨rfl, E⟩
  clear AA xA0
  replace T := T.trans E
  replace U := U.trans E
  replace xB0 := Lib.hid (xB0.out.ext E)
  replace xR1 := Lib.hid (xR1.out.ext E)
  replace xR2 := Lib.hid (xR2.out.ext E)
  replace xO1 := Lib.hid (xO1.out.ext E)
  replace xO2 := Lib.hid (xO2.out.ext E)
  clear E
  go_wp2_with fail
  have O : Hid (Own _ xg0 44 6 (some ⟨xg0, 0, none⟩) l0.length) := Own.of_blk xB0.out (Nat.le_refl _) (by omega)
  refine (markIncidentS_any _ l0.length _ _ xg0 _ O.out (by omega) (by omega) (by omega)).mono ?_
  rintro e W10 ⟨rfl, C, -, -⟩
  clear xB0
  replace T := T.marked C O.out xbT0
  replace U := U.marked C O.out xbU0
  have xR1n := Lib.hid (xR1.out.marked xO1.out C (ownA_lt xc0i))
  replace xO1 := Lib.hid (xO1.out.marked C (ownA_lt xc0i))
  clear xR1
  have xR1 := xR1n
  clear xR1n
  have xR2n := Lib.hid (xR2.out.marked xO2.out C (ownA_lt xc0i))
  replace xO2 := Lib.hid (xO2.out.marked C (ownA_lt xc0i))
  clear xR2
  have xR2 := xR2n
  clear xR2n
  clear O C
  go_wp2_with fail
  refine (eqStringS_same _ _ _ _ _ _ xR1.out (SR1.out.ext U) (by omega)).mono ?_
  rintro e W11 ⟨rfl, E⟩
  replace T := T.trans E
  replace U := U.trans E
  replace xR1 := Lib.hid (xR1.out.ext E)
  replace xR2 := Lib.hid (xR2.out.ext E)
  replace xO1 := Lib.hid (xO1.out.ext E)
  replace xO2 := Lib.hid (xO2.out.ext E)
  clear E
  go_wp2_with fail
  refine (eqInt64S_same _ _ _ _ _ _ xR2.out (SR2.out.ext U) (by omega)).mono ?_
  rintro e W12 ⟨rfl, E⟩
  replace T := T.trans E
  replace U := U.trans E
  replace xR1 := Lib.hid (xR1.out.ext E)
  replace xR2 := Lib.hid (xR2.out.ext E)
  replace xO1 := Lib.hid (xO1.out.ext E)
  replace xO2 := Lib.hid (xO2.out.ext E)
  clear E
  go_wp2_with fail
  refine (markStringS_any _ _ _ _ _ _ xO1.out (by omega) (by omega) (by omega)).mono ?_
  rintro e W13 ⟨rfl, C, -, M⟩
  replace T := T.marked C xO1.out gT
  replace U := U.marked C xO1.out gU
  replace xO2 := Lib.hid (xO2.out.chgN C (fun g o s g' o' s' e1 e2 => xF.out g o s g' o' s' (ownA_some e1) e2))
  have M1 := Lib.hid M
  clear xR1 xR2 xO1 C M
  go_wp2_with fail
  refine (markInt64S_any _ _ _ _ _ _ xO2.out (by omega) (by omega) (by omega)).mono ?_
  rintro e W14 ⟨rfl, C, -, M⟩
  replace T := T.marked C xO2.out gT
  replace U := U.marked C xO2.out gU
  have M1n := Lib.hid (RowsAt.chg M1.out C (fun g o s g' o' s' e1 e2 e3 => xF.out g' o' s' g o s e2 (ownA_some e1) e3.symm))
  clear M1
  have M1 := M1n
  clear M1n
  have M2 := Lib.hid M
  clear xO2 C M
  go_wp2_with fail
  refine (heldStringS_any _ _ _ _ _ M1.out (by omega) (by omega) (by omega)).mono ?_
  rintro e W15 ⟨rfl, E⟩
  replace T := T.trans E
  replace U := U.trans E
  replace M1 := Lib.hid (M1.out.ext E)
  replace M2 := Lib.hid (M2.out.ext E)
  clear E
  go_wp2_with fail
  refine (heldInt64S_any _ _ _ _ _ M2.out (by omega) (by omega) (by omega)).mono ?_
  rintro e W16 ⟨rfl, E⟩
  replace T := T.trans E
  replace U := U.trans E
  replace M1 := Lib.hid (M1.out.ext E)
  replace M2 := Lib.hid (M2.out.ext E)
  clear E
  go_wp2_with fail
  refine (toIncidentS_any a0 cap0 l0 _ (HH0.out.ext T) (by omega)).mono ?_
  rintro e W17 ⟨yg0, rfl, yb0, yc0, A, B, E⟩
  replace T := T.trans E
  replace U := U.trans E
  replace M1 := Lib.hid (M1.out.ext E)
  replace M2 := Lib.hid (M2.out.ext E)
  have yA0 := Lib.hid A
  clear yc0
  clear A B E yb0
  go_wp2_with fail
  refine (implCausesBy_any _ _ _ l0 yA0.out hS0.out (by omega)).mono ?_
  intro e W18 hsum
  obtain ⟨yn, ync, yv, yvc, rfl, q1, -, q2, -, -, E⟩ := hsum.parts
  clear hsum yA0
  replace T := T.trans E
  replace U := U.trans E
  replace M1 := Lib.hid (M1.out.ext E)
  replace M2 := Lib.hid (M2.out.ext E)
  clear E
  have yR1 := Lib.hid q1
  have yR2 := Lib.hid q2
  clear q1 q2
  go_wp2_with fail
  refine (eqStringS_same _ _ _ _ _ _ yR1.out (SR1.out.ext U) (by omega)).mono ?_
  rintro e W19 ⟨rfl, E⟩
  replace T := T.trans E
  replace U := U.trans E
  replace M1 := Lib.hid (M1.out.ext E)
  replace M2 := Lib.hid (M2.out.ext E)
  replace yR1 := Lib.hid (yR1.out.ext E)
  replace yR2 := Lib.hid (yR2.out.ext E)
  clear E
  go_wp2_with fail
  refine (eqInt64S_same _ _ _ _ _ _ yR2.out (SR2.out.ext U) (by omega)).mono ?_
  rintro e W20 ⟨rfl, E⟩
  replace T := T.trans E
  replace U := U.trans E
  replace M1 := Lib.hid (M1.out.ext E)
  replace M2 := Lib.hid (M2.out.ext E)
  replace yR1 := Lib.hid (yR1.out.ext E)
  replace yR2 := Lib.hid (yR2.out.ext E)
  clear E
  go_wp2_with fail
  refine (heldStringS_any _ _ _ _ _ M1.out (by omega) (by omega) (by omega)).mono ?_
  rintro e W21 ⟨rfl, E⟩
  replace T := T.trans E
  replace U := U.trans E
  replace M1 := Lib.hid (M1.out.ext E)
  replace M2 := Lib.hid (M2.out.ext E)
  replace yR1 := Lib.hid (yR1.out.ext E)
  replace yR2 := Lib.hid (yR2.out.ext E)
  clear E
  go_wp2_with fail
  refine (heldInt64S_any _ _ _ _ _ M2.out (by omega) (by omega) (by omega)).mono ?_
  rintro e W22 ⟨rfl, E⟩
  replace T := T.trans E
  replace U := U.trans E
  replace M1 := Lib.hid (M1.out.ext E)
  replace M2 := Lib.hid (M2.out.ext E)
  replace yR1 := Lib.hid (yR1.out.ext E)
  replace yR2 := Lib.hid (yR2.out.ext E)
  clear E
  go_wp2_with fail
  go_ret
  exact ⟨rfl, T⟩
namespace lawFnExactCausesBy
set_option maxRecDepth 100000 in
theorem lifted (os : Os) (started : os.Started) (H : Type) (enc : TypeId × Value → H) :
    ReturnsInHanded {} Try.checked os 3 .any (Rows.fnExactCausesBySpec.pre6 enc Try.prog Try.f3 Rows.fnExactCausesByRow.domain false) (Rows.fnExactCausesBySpec.post enc Try.prog Try.f3 false true false false) := by
  refine returnsInHanded_of_change (C := Try.checked) own started (by kernel_rfl) Try.func3
    (ChangeSpec.witness6 (enc := enc) (C := Try.checked) false ⟨#[], #[.slice none 0 0], []⟩ 8 (by kernel_rfl) (by kernel_rfl) (by kernel_rfl) (by kernel_rfl)) ?_
  intro W base args ds gs before hval0 hW hcnd _
  have hval : ∀ (j : Nat) t v, Try.f3.params[j]? = some t → args[j]? = some v → Value.okWide Try.prog W .any base t v := hval0
  have hW' := hW
  obtain ⟨p, q, hA0, hV, rfl, hfz, hnd⟩ := hW
  have hA : DataW.TrodAll enc Try.prog W 0 (fun _ => true) true Try.f3.params.toList args.toList ds p := hA0
  rw [Try.params3] at hA hval
  obtain ⟨v0, vs0, d0, ds0, p0, q0, hargs, rfl, rfl, h0, r0⟩ := trodAll_cons hA
  obtain ⟨rfl, rfl, rfl⟩ := trodAll_nil r0
  obtain rfl : args = #[v0] := by cases args; simp_all
  obtain ⟨rfl, rfl⟩ := trodVars_none hV
  have k0 := h0
  have lt0 : ∀ x ∈ p0, x.block < W.heap.size := by obtain ⟨m, hm⟩ := k0; exact DataW.trod_lt m _ _ _ hm
  obtain ⟨a0, len0, cap0, rfl⟩ := okWide_slice Try.underlying22 (hval 0 22 v0 rfl rfl)
  obtain ⟨fuel0, hf0⟩ := h0
  obtain ⟨b0, c0, l0, e0, hl0, hc0, H0, Q0⟩ := open_rows Incident.cell (fun y => y.Sz ∧ y.Wf) Try.underlying22 (by kernel_rfl : Try.prog.cellsOf 55 = 6) (by decide) (fun _ _ _ => Incident.el) hf0
  simp only [Value.cells, List.cons.injEq, Value.slice.injEq, and_true] at e0
  obtain ⟨rfl, rfl, rfl⟩ := e0
  clear hA0 hval0
  refine (causesBy_law W a0 cap0 l0 H0 Q0 (by omega) hl0).mono fun e W' ⟨he, bx⟩ => ?_
  have bel := bx.below
  subst he
  exact ⟨_, rfl, _, _, _, [], _, [], hW', trodAll_mk1 (shut_bool Try.underlying4 _), (trodAll_cons_mk (Below.trod laidOut (by kernel_rfl) (of_decide_eq_true (by kernel_rfl)) k0 bel lt0) trodAll_mk0), rfl, bel.frame _, fun h => by cases h⟩
theorem over : Rows.fnExactCausesByRow.holds Try.pinned (OpenSpec.ofChange Rows.fnExactCausesBySpec) :=
  OpenClaim.holds_of_wide 3 Try.f3 rfl rfl rfl rfl rfl rfl rfl ⟨rfl, rfl, rfl, rfl, rfl⟩ rfl rfl rfl rfl rfl (by kernel_rfl) Try.func3 (by kernel_rfl)
    (of_decide_eq_true (by kernel_rfl)) (by unfold Func.isWrapper; first | (rw [if_pos (by decide +kernel)]; kernel_rfl) | (rw [if_neg (by decide +kernel)]; exact ⟨rfl, rfl⟩))
    (fun os started H enc _ => lifted os started H enc)
/-- The given statement. -/
theorem proved : Rows.FnExactCausesBySaid := over
end lawFnExactCausesBy
set_option maxRecDepth 100000 in
set_option maxHeartbeats 8000000 in
theorem placesOf_law (w : World) (a0 : Option Addr) (cap0 : Nat) (l0 : List Incident) (H0 : IncidentAt w a0 l0) (hz0 : ∀ k, k < l0.length → (nth l0 k).Sz ∧ (nth l0 k).Wf) (hn0 : l0.length ≤ 9223372036854775807) (_ : l0.length ≤ cap0) :
    Gives Try.prog 4 #[.slice a0 l0.length cap0] w (.bool true) := by
  unfold Gives
  have HH0 := Lib.hid H0
  have HZ0 := Lib.hid hz0
  clear H0 hz0
  go_enter Try.func4, Try.ntmps4
  go_wp2_with fail
  have T := Ext.refl w
  refine (szIncidentS_any a0 cap0 l0 (1048576) _ (HH0.out.ext T) (fun k hk => (HZ0.out k hk).1) hn0 (by omega) (by omega)).mono ?_
  rintro e W1 ⟨r0, rfl, E, r0a, r0b, hr⟩
  have HR := Lib.hid hr
  clear hr
  replace T := T.trans E
  clear E
  by_cases hneg : r0 < 0
  · go_wp2_with fail
    go_ret
    exact ⟨rfl, T⟩
  obtain ⟨hl0, hs0⟩ := HR.out (by omega)
  have hS0 : Hid (∀ k, k < l0.length → (nth l0 k).Small) := fun k hk => by have := hs0 k hk; unfold Incident.Small; omega
  clear HR hs0
  go_wp2_with fail
  refine (toIncidentS_any a0 cap0 l0 _ (HH0.out.ext T) (by omega)).mono ?_
  rintro e W2 ⟨sg0, rfl, sb0, sc0, A, B, E⟩
  replace T := T.trans E
  have sA0 := Lib.hid A
  clear sc0
  clear A B E sb0
  go_wp2_with fail
  refine (specPlacesOf_any _ _ _ l0 sA0.out hS0.out (by omega)).mono ?_
  intro e W3 hsum
  obtain ⟨sn, snc, sv, svc, rfl, q1, -, q2, -, -, E⟩ := hsum.parts
  clear sA0 hsum
  replace T := T.trans E
  clear E
  have SR1 := Lib.hid q1
  have SR2 := Lib.hid q2
  clear q1 q2
  have U := Ext.refl W3
  go_wp2_with fail
  have hlenR := sumN_len placeF l0
  have hlenV : (sumV placeF l0).length ≤ 48 := by rw [sumV_len]; exact hlenR
  refine (toIncidentS_any a0 cap0 l0 _ (HH0.out.ext T) (by omega)).mono ?_
  rintro e W4 ⟨xg0, rfl, xb0, xc0, A, B, E⟩
  have xbT0 := Nat.le_trans T.size xb0
  have xbU0 := Nat.le_trans U.size xb0
  replace T := T.trans E
  replace U := U.trans E
  have xA0 := Lib.hid A
  have xB0 := Lib.hid B
  clear A B E xb0
  go_wp2_with fail
  refine (implPlacesOf_any _ _ _ l0 xA0.out hS0.out (by omega)).mono ?_
  intro e W5 hsum
  obtain ⟨xn, xnc, xv, xvc, rfl, q1, q3, q2, q4, q5, E⟩ := hsum.parts
  clear hsum
  have gT := T.size
  have gU := U.size
  have xc0i := xc0
  replace T := T.trans E
  replace U := U.trans E
  replace xA0 := Lib.hid (xA0.out.ext E)
  replace xB0 := Lib.hid (xB0.out.ext E)
  clear E
  have xR1 := Lib.hid q1
  have xR2 := Lib.hid q2
  have xO1 := Lib.hid q3
  have xO2 := Lib.hid q4
  have xF := Lib.hid q5
  clear q1 q2 q3 q4 q5
  go_wp2_with fail
  refine (eqStringS_same _ _ _ _ _ _ xR1.out (SR1.out.ext U) (by omega)).mono ?_
  rintro e W6 ⟨rfl, E⟩
  replace T := T.trans E
  replace U := U.trans E
  replace xA0 := Lib.hid (xA0.out.ext E)
  replace xB0 := Lib.hid (xB0.out.ext E)
  replace xR1 := Lib.hid (xR1.out.ext E)
  replace xR2 := Lib.hid (xR2.out.ext E)
  replace xO1 := Lib.hid (xO1.out.ext E)
  replace xO2 := Lib.hid (xO2.out.ext E)
  clear E
  go_wp2_with fail
  refine (eqInt64S_same _ _ _ _ _ _ xR2.out (SR2.out.ext U) (by omega)).mono ?_
  rintro e W7 ⟨rfl, E⟩
  replace T := T.trans E
  replace U := U.trans E
  replace xA0 := Lib.hid (xA0.out.ext E)
  replace xB0 := Lib.hid (xB0.out.ext E)
  replace xR1 := Lib.hid (xR1.out.ext E)
  replace xR2 := Lib.hid (xR2.out.ext E)
  replace xO1 := Lib.hid (xO1.out.ext E)
  replace xO2 := Lib.hid (xO2.out.ext E)
  clear E
  go_wp2_with fail
  refine (toIncidentS_any a0 cap0 l0 _ (HH0.out.ext T) (by omega)).mono ?_
  rintro e W8 ⟨tg, rfl, tb, tc, A, B, E⟩
  replace T := T.trans E
  replace U := U.trans E
  replace xA0 := Lib.hid (xA0.out.ext E)
  replace xB0 := Lib.hid (xB0.out.ext E)
  replace xR1 := Lib.hid (xR1.out.ext E)
  replace xR2 := Lib.hid (xR2.out.ext E)
  replace xO1 := Lib.hid (xO1.out.ext E)
  replace xO2 := Lib.hid (xO2.out.ext E)
  have AA := Lib.hid A
  clear A B E tb tc
  go_wp2_with fail
  refine (eqIncidentS_same _ _ _ _ l0 _ xA0.out AA.out (by omega)).mono ?_
  rintro e W9 ⟨rfl, E⟩
  clear AA xA0
  replace T := T.trans E
  replace U := U.trans E
  replace xB0 := Lib.hid (xB0.out.ext E)
  replace xR1 := Lib.hid (xR1.out.ext E)
  replace xR2 := Lib.hid (xR2.out.ext E)
  replace xO1 := Lib.hid (xO1.out.ext E)
  replace xO2 := Lib.hid (xO2.out.ext E)
  clear E
  go_wp2_with fail
  have O : Hid (Own _ xg0 44 6 (some ⟨xg0, 0, none⟩) l0.length) := Own.of_blk xB0.out (Nat.le_refl _) (by omega)
  refine (markIncidentS_any _ l0.length _ _ xg0 _ O.out (by omega) (by omega) (by omega)).mono ?_
  rintro e W10 ⟨rfl, C, -, -⟩
  clear xB0
  replace T := T.marked C O.out xbT0
  replace U := U.marked C O.out xbU0
  have xR1n := Lib.hid (xR1.out.marked xO1.out C (ownA_lt xc0i))
  replace xO1 := Lib.hid (xO1.out.marked C (ownA_lt xc0i))
  clear xR1
  have xR1 := xR1n
  clear xR1n
  have xR2n := Lib.hid (xR2.out.marked xO2.out C (ownA_lt xc0i))
  replace xO2 := Lib.hid (xO2.out.marked C (ownA_lt xc0i))
  clear xR2
  have xR2 := xR2n
  clear xR2n
  clear O C
  go_wp2_with fail
  refine (eqStringS_same _ _ _ _ _ _ xR1.out (SR1.out.ext U) (by omega)).mono ?_
  rintro e W11 ⟨rfl, E⟩
  replace T := T.trans E
  replace U := U.trans E
  replace xR1 := Lib.hid (xR1.out.ext E)
  replace xR2 := Lib.hid (xR2.out.ext E)
  replace xO1 := Lib.hid (xO1.out.ext E)
  replace xO2 := Lib.hid (xO2.out.ext E)
  clear E
  go_wp2_with fail
  refine (eqInt64S_same _ _ _ _ _ _ xR2.out (SR2.out.ext U) (by omega)).mono ?_
  rintro e W12 ⟨rfl, E⟩
  replace T := T.trans E
  replace U := U.trans E
  replace xR1 := Lib.hid (xR1.out.ext E)
  replace xR2 := Lib.hid (xR2.out.ext E)
  replace xO1 := Lib.hid (xO1.out.ext E)
  replace xO2 := Lib.hid (xO2.out.ext E)
  clear E
  go_wp2_with fail
  refine (markStringS_any _ _ _ _ _ _ xO1.out (by omega) (by omega) (by omega)).mono ?_
  rintro e W13 ⟨rfl, C, -, M⟩
  replace T := T.marked C xO1.out gT
  replace U := U.marked C xO1.out gU
  replace xO2 := Lib.hid (xO2.out.chgN C (fun g o s g' o' s' e1 e2 => xF.out g o s g' o' s' (ownA_some e1) e2))
  have M1 := Lib.hid M
  clear xR1 xR2 xO1 C M
  go_wp2_with fail
  refine (markInt64S_any _ _ _ _ _ _ xO2.out (by omega) (by omega) (by omega)).mono ?_
  rintro e W14 ⟨rfl, C, -, M⟩
  replace T := T.marked C xO2.out gT
  replace U := U.marked C xO2.out gU
  have M1n := Lib.hid (RowsAt.chg M1.out C (fun g o s g' o' s' e1 e2 e3 => xF.out g' o' s' g o s e2 (ownA_some e1) e3.symm))
  clear M1
  have M1 := M1n
  clear M1n
  have M2 := Lib.hid M
  clear xO2 C M
  go_wp2_with fail
  refine (heldStringS_any _ _ _ _ _ M1.out (by omega) (by omega) (by omega)).mono ?_
  rintro e W15 ⟨rfl, E⟩
  replace T := T.trans E
  replace U := U.trans E
  replace M1 := Lib.hid (M1.out.ext E)
  replace M2 := Lib.hid (M2.out.ext E)
  clear E
  go_wp2_with fail
  refine (heldInt64S_any _ _ _ _ _ M2.out (by omega) (by omega) (by omega)).mono ?_
  rintro e W16 ⟨rfl, E⟩
  replace T := T.trans E
  replace U := U.trans E
  replace M1 := Lib.hid (M1.out.ext E)
  replace M2 := Lib.hid (M2.out.ext E)
  clear E
  go_wp2_with fail
  refine (toIncidentS_any a0 cap0 l0 _ (HH0.out.ext T) (by omega)).mono ?_
  rintro e W17 ⟨yg0, rfl, yb0, yc0, A, B, E⟩
  replace T := T.trans E
  replace U := U.trans E
  replace M1 := Lib.hid (M1.out.ext E)
  replace M2 := Lib.hid (M2.out.ext E)
  have yA0 := Lib.hid A
  clear yc0
  clear A B E yb0
  go_wp2_with fail
  refine (implPlacesOf_any _ _ _ l0 yA0.out hS0.out (by omega)).mono ?_
  intro e W18 hsum
  obtain ⟨yn, ync, yv, yvc, rfl, q1, -, q2, -, -, E⟩ := hsum.parts
  clear hsum yA0
  replace T := T.trans E
  replace U := U.trans E
  replace M1 := Lib.hid (M1.out.ext E)
  replace M2 := Lib.hid (M2.out.ext E)
  clear E
  have yR1 := Lib.hid q1
  have yR2 := Lib.hid q2
  clear q1 q2
  go_wp2_with fail
  refine (eqStringS_same _ _ _ _ _ _ yR1.out (SR1.out.ext U) (by omega)).mono ?_
  rintro e W19 ⟨rfl, E⟩
  replace T := T.trans E
  replace U := U.trans E
  replace M1 := Lib.hid (M1.out.ext E)
  replace M2 := Lib.hid (M2.out.ext E)
  replace yR1 := Lib.hid (yR1.out.ext E)
  replace yR2 := Lib.hid (yR2.out.ext E)
  clear E
  go_wp2_with fail
  refine (eqInt64S_same _ _ _ _ _ _ yR2.out (SR2.out.ext U) (by omega)).mono ?_
  rintro e W20 ⟨rfl, E⟩
  replace T := T.trans E
  replace U := U.trans E
  replace M1 := Lib.hid (M1.out.ext E)
  replace M2 := Lib.hid (M2.out.ext E)
  replace yR1 := Lib.hid (yR1.out.ext E)
  replace yR2 := Lib.hid (yR2.out.ext E)
  clear E
  go_wp2_with fail
  refine (heldStringS_any _ _ _ _ _ M1.out (by omega) (by omega) (by omega)).mono ?_
  rintro e W21 ⟨rfl, E⟩
  replace T := T.trans E
  replace U := U.trans E
  replace M1 := Lib.hid (M1.out.ext E)
  replace M2 := Lib.hid (M2.out.ext E)
  replace yR1 := Lib.hid (yR1.out.ext E)
  replace yR2 := Lib.hid (yR2.out.ext E)
  clear E
  go_wp2_with fail
  refine (heldInt64S_any _ _ _ _ _ M2.out (by omega) (by omega) (by omega)).mono ?_
  rintro e W22 ⟨rfl, E⟩
  replace T := T.trans E
  replace U := U.trans E
  replace M1 := Lib.hid (M1.out.ext E)
  replace M2 := Lib.hid (M2.out.ext E)
  replace yR1 := Lib.hid (yR1.out.ext E)
  replace yR2 := Lib.hid (yR2.out.ext E)
  clear E
  go_wp2_with fail
  go_ret
  exact ⟨rfl, T⟩
namespace lawFnExactPlacesOf
set_option maxRecDepth 100000 in
theorem lifted (os : Os) (started : os.Started) (H : Type) (enc : TypeId × Value → H) :
    ReturnsInHanded {} Try.checked os 4 .any (Rows.fnExactPlacesOfSpec.pre6 enc Try.prog Try.f4 Rows.fnExactPlacesOfRow.domain false) (Rows.fnExactPlacesOfSpec.post enc Try.prog Try.f4 false true false false) := by
  refine returnsInHanded_of_change (C := Try.checked) own started (by kernel_rfl) Try.func4
    (ChangeSpec.witness6 (enc := enc) (C := Try.checked) false ⟨#[], #[.slice none 0 0], []⟩ 8 (by kernel_rfl) (by kernel_rfl) (by kernel_rfl) (by kernel_rfl)) ?_
  intro W base args ds gs before hval0 hW hcnd _
  have hval : ∀ (j : Nat) t v, Try.f4.params[j]? = some t → args[j]? = some v → Value.okWide Try.prog W .any base t v := hval0
  have hW' := hW
  obtain ⟨p, q, hA0, hV, rfl, hfz, hnd⟩ := hW
  have hA : DataW.TrodAll enc Try.prog W 0 (fun _ => true) true Try.f4.params.toList args.toList ds p := hA0
  rw [Try.params4] at hA hval
  obtain ⟨v0, vs0, d0, ds0, p0, q0, hargs, rfl, rfl, h0, r0⟩ := trodAll_cons hA
  obtain ⟨rfl, rfl, rfl⟩ := trodAll_nil r0
  obtain rfl : args = #[v0] := by cases args; simp_all
  obtain ⟨rfl, rfl⟩ := trodVars_none hV
  have k0 := h0
  have lt0 : ∀ x ∈ p0, x.block < W.heap.size := by obtain ⟨m, hm⟩ := k0; exact DataW.trod_lt m _ _ _ hm
  obtain ⟨a0, len0, cap0, rfl⟩ := okWide_slice Try.underlying22 (hval 0 22 v0 rfl rfl)
  obtain ⟨fuel0, hf0⟩ := h0
  obtain ⟨b0, c0, l0, e0, hl0, hc0, H0, Q0⟩ := open_rows Incident.cell (fun y => y.Sz ∧ y.Wf) Try.underlying22 (by kernel_rfl : Try.prog.cellsOf 55 = 6) (by decide) (fun _ _ _ => Incident.el) hf0
  simp only [Value.cells, List.cons.injEq, Value.slice.injEq, and_true] at e0
  obtain ⟨rfl, rfl, rfl⟩ := e0
  clear hA0 hval0
  refine (placesOf_law W a0 cap0 l0 H0 Q0 (by omega) hl0).mono fun e W' ⟨he, bx⟩ => ?_
  have bel := bx.below
  subst he
  exact ⟨_, rfl, _, _, _, [], _, [], hW', trodAll_mk1 (shut_bool Try.underlying4 _), (trodAll_cons_mk (Below.trod laidOut (by kernel_rfl) (of_decide_eq_true (by kernel_rfl)) k0 bel lt0) trodAll_mk0), rfl, bel.frame _, fun h => by cases h⟩
theorem over : Rows.fnExactPlacesOfRow.holds Try.pinned (OpenSpec.ofChange Rows.fnExactPlacesOfSpec) :=
  OpenClaim.holds_of_wide 4 Try.f4 rfl rfl rfl rfl rfl rfl rfl ⟨rfl, rfl, rfl, rfl, rfl⟩ rfl rfl rfl rfl rfl (by kernel_rfl) Try.func4 (by kernel_rfl)
    (of_decide_eq_true (by kernel_rfl)) (by unfold Func.isWrapper; first | (rw [if_pos (by decide +kernel)]; kernel_rfl) | (rw [if_neg (by decide +kernel)]; exact ⟨rfl, rfl⟩))
    (fun os started H enc _ => lifted os started H enc)
/-- The given statement. -/
theorem proved : Rows.FnExactPlacesOfSaid := over
end lawFnExactPlacesOf
end Go.Proofs.Ytndkcgiadpdcjaa

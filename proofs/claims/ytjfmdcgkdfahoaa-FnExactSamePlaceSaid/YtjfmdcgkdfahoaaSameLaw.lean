/- The law FnExactSamePlace: whatever the arguments, the program's pairs of incidents are the reference's, in memory of their own. -/
import Derived.Test.YtjfmdcgkdfahoaaSameI
import Derived.Test.YtjfmdcgkdfahoaaHelpIncident
import Derived.Test.YtjfmdcgkdfahoaaHelpInt
namespace Go.Proofs.Ytjfmdcgkdfahoaa
open Go.RowKit
def two2 (L : List (List Int)) : Prop := ∀ x, x ∈ L → x.length = 2
theorem prI_two (l : List Incident) (d : Int) (i : Nat) : ∀ m, two2 (prI l d i m)
  | 0 => fun _ h => absurd h (List.not_mem_nil)
  | m + 1 => fun x hx => by
    cases h : pairB l d i (i + 1 + m)
    · rw [prI_n h] at hx; exact prI_two l d i m x hx
    · rw [prI_y h, List.mem_append] at hx
      rcases hx with h1 | h1
      · exact prI_two l d i m x h1
      · rw [List.mem_singleton] at h1; rw [h1]; rfl
theorem prO_two (l : List Incident) (d : Int) : ∀ i, two2 (prO l d i)
  | 0 => fun _ h => absurd h (List.not_mem_nil)
  | i + 1 => fun x hx => by
    have hx' : x ∈ prO l d i ++ prI l d i (l.length - (i + 1)) := hx
    rw [List.mem_append] at hx'
    rcases hx' with h1 | h1
    · exact prO_two l d i x h1
    · exact prI_two l d i _ x h1
theorem sameV_good (l : List Incident) (d : Int) : GoodII (sameV l d) := by
  have h0 : ∀ x, x ∈ sameV l d → x.length = 2 := fun x hx => by
    unfold sameV at hx
    split at hx
    · exact prO_two l d _ x hx
    · cases hx
  have h2 : ∀ k, k < (sameV l d).length → (nth (sameV l d) k).length = 2 := fun k hk => h0 _ (nth_mem hk)
  have hlen : (sameV l d).length ≤ 48 * 48 := by
    unfold sameV
    split
    · rename_i hc
      have h1 : incidentList l = true := by
        cases h : incidentList l
        · rw [(same_1 (d := d) h).1] at hc; cases hc
        · rfl
      have h48 : l.length ≤ 48 := vAll_len_le (show vAll incidentB incB 48 l = true from h1)
      exact Nat.le_trans (prO_len l d _) (Nat.mul_le_mul h48 h48)
    · simp
  have ht := tot_le (L := sameV l d) (m := 2) (fun k hk => Nat.le_of_eq (h2 k hk)) _ (Nat.le_refl _)
  exact ⟨by omega, by omega, fun k hk => by rw [h2 k hk]; decide, fun k hk => by rw [h2 k hk]; decide⟩
set_option maxRecDepth 100000 in
set_option maxHeartbeats 8000000 in
theorem samePlace_law (w : World) (a0 : Option Addr) (cap0 : Nat) (l0 : List Incident) (H0 : IncidentAt w a0 l0) (hz0 : ∀ k, k < l0.length → (nth l0 k).Sz ∧ (nth l0 k).Wf) (hn0 : l0.length ≤ 9223372036854775807) (_ : l0.length ≤ cap0) (x1 : Int) (_ : -9223372036854775808 ≤ x1 ∧ x1 ≤ 9223372036854775807) :
    Gives Try.prog 3 #[.slice a0 l0.length cap0, .int .i64 x1] w (.bool true) := by
  unfold Gives
  have HH0 := Lib.hid H0
  have HZ0 := Lib.hid hz0
  clear H0 hz0
  go_enter Try.func3, Try.ntmps3
  go_wp2_with fail
  have T := Ext.refl w
  refine (szIncidentS_any a0 cap0 l0 (1048576) _ (HH0.out.ext T) (fun k hk => (HZ0.out k hk).1) hn0 (by omega) (by omega)).mono ?_
  rintro e W1 ⟨r0, rfl, E, r0a, r0b, hr⟩
  have HR := Lib.hid hr
  clear hr
  replace T := T.trans E
  clear E
  by_cases hneg : r0 < 0
  · go_wp2_with fail
    go_ret
    exact ⟨rfl, T⟩
  obtain ⟨hl0, hs0⟩ := HR.out (by omega)
  have hS0 : Hid (∀ k, k < l0.length → (nth l0 k).Small) := fun k hk => by have := hs0 k hk; unfold Incident.Small; omega
  clear HR hs0
  go_wp2_with fail
  refine (toIncidentS_any a0 cap0 l0 _ (HH0.out.ext T) (by omega)).mono ?_
  rintro e W2 ⟨sg0, rfl, sb0, sc0, A, B, E⟩
  replace T := T.trans E
  have sA0 := Lib.hid A
  clear sc0
  clear A B E sb0
  go_wp2_with fail
  refine (specSamePlace_any _ _ _ l0 sA0.out hS0.out (by omega) (Nat.le_refl _) x1).mono ?_
  rintro e W3 ⟨sv, svs, sgs, rfl, SB, E⟩
  obtain ⟨sa, scap, rfl, sk, SR, -, -⟩ := SB.out
  clear SB
  clear sA0
  replace T := T.trans E
  clear E
  have SR0 := Lib.hid SR
  clear SR
  have U := Ext.refl W3
  go_wp2_with fail
  have hG := Lib.hid (sameV_good l0 x1)
  have hG1 := hG.out.len
  have hG2 := hG.out.sum
  refine (toIncidentS_any a0 cap0 l0 _ (HH0.out.ext T) (by omega)).mono ?_
  rintro e W4 ⟨xg0, rfl, xb0, xc0, A, B, E⟩
  have xbT0 := Nat.le_trans T.size xb0
  have xbU0 := Nat.le_trans U.size xb0
  replace T := T.trans E
  replace U := U.trans E
  have xA0 := Lib.hid A
  have xB0 := Lib.hid B
  clear A B E xb0
  go_wp2_with fail
  refine (implSamePlace_any _ _ _ l0 xA0.out hS0.out (by omega) (Nat.le_refl _) x1).mono ?_
  rintro e W5 ⟨xv, xvs, xgs, rfl, xO, E⟩
  obtain ⟨xa, xcap, rfl, xk, -, -, -⟩ := xO.out
  have gT := T.size
  have gU := U.size
  have xc0i := xc0
  replace T := T.trans E
  replace U := U.trans E
  replace xA0 := Lib.hid (xA0.out.ext E)
  replace xB0 := Lib.hid (xB0.out.ext E)
  clear E
  have xOO := Lib.hid xO
  clear xO
  go_wp2_with fail
  refine (eqInt64SS_same _ _ _ _ _ _ _ _ xOO.out.iis (SR0.out.ext U) (by omega) hG.out.inn).mono ?_
  rintro e W6 ⟨rfl, E⟩
  replace T := T.trans E
  replace U := U.trans E
  replace xA0 := Lib.hid (xA0.out.ext E)
  replace xB0 := Lib.hid (xB0.out.ext E)
  replace xOO := Lib.hid (xOO.out.ext E)
  clear E
  go_wp2_with fail
  refine (toIncidentS_any a0 cap0 l0 _ (HH0.out.ext T) (by omega)).mono ?_
  rintro e W7 ⟨tg, rfl, tb, tc, A, B, E⟩
  replace T := T.trans E
  replace U := U.trans E
  replace xA0 := Lib.hid (xA0.out.ext E)
  replace xB0 := Lib.hid (xB0.out.ext E)
  replace xOO := Lib.hid (xOO.out.ext E)
  have AA := Lib.hid A
  clear A B E tb tc
  go_wp2_with fail
  refine (eqIncidentS_same _ _ _ _ l0 _ xA0.out AA.out (by omega)).mono ?_
  rintro e W8 ⟨rfl, E⟩
  clear AA xA0
  replace T := T.trans E
  replace U := U.trans E
  replace xB0 := Lib.hid (xB0.out.ext E)
  replace xOO := Lib.hid (xOO.out.ext E)
  clear E
  go_wp2_with fail
  have O : Hid (Own _ xg0 50 6 (some ⟨xg0, 0, none⟩) l0.length) := Own.of_blk xB0.out (Nat.le_refl _) (by omega)
  refine (markIncidentS_any _ l0.length _ _ xg0 _ O.out (by omega) (by omega) (by omega)).mono ?_
  rintro e W9 ⟨rfl, C, -, -⟩
  clear xB0
  replace T := T.marked C O.out xbT0
  replace U := U.marked C O.out xbU0
  have xOOn := Lib.hid (xOO.out.marked C (ownA_lt xc0i))
  clear xOO
  have xOO := xOOn
  clear xOOn
  clear O C
  go_wp2_with fail
  refine (eqInt64SS_same _ _ _ _ _ _ _ _ xOO.out.iis (SR0.out.ext U) (by omega) hG.out.inn).mono ?_
  rintro e W10 ⟨rfl, E⟩
  replace T := T.trans E
  replace U := U.trans E
  replace xOO := Lib.hid (xOO.out.ext E)
  clear E
  go_wp2_with fail
  refine (markInt64SS_any _ _ _ _ _ _ _ _ xOO.out.oii hG.out.pos (by omega) (by omega) (by omega) (by omega)).mono ?_
  rintro e W11 ⟨rfl, S, xO2, M⟩
  replace T := S.ext T gT
  replace U := S.ext U gU
  have MM := Lib.hid M
  have xO3 := Lib.hid xO2
  clear xOO S M xO2
  go_wp2_with fail
  refine (heldInt64SS_any _ _ _ _ _ _ _ _ xO3.out MM.out (by omega) (by omega) (by omega) (by omega)).mono ?_
  rintro e W12 ⟨rfl, E⟩
  replace T := T.trans E
  replace U := U.trans E
  replace MM := Lib.hid (MM.out.ext E)
  replace xO3 := Lib.hid (xO3.out.ext E)
  clear E
  go_wp2_with fail
  refine (toIncidentS_any a0 cap0 l0 _ (HH0.out.ext T) (by omega)).mono ?_
  rintro e W13 ⟨yg0, rfl, yb0, yc0, A, B, E⟩
  replace T := T.trans E
  replace U := U.trans E
  replace MM := Lib.hid (MM.out.ext E)
  replace xO3 := Lib.hid (xO3.out.ext E)
  have yA0 := Lib.hid A
  clear yc0
  clear A B E yb0
  go_wp2_with fail
  refine (implSamePlace_any _ _ _ l0 yA0.out hS0.out (by omega) (Nat.le_refl _) x1).mono ?_
  rintro e W14 ⟨yv, yvs, ygs, rfl, yO, E⟩
  obtain ⟨ya, ycap, rfl, yk, -, -, -⟩ := yO.out
  replace T := T.trans E
  replace U := U.trans E
  replace MM := Lib.hid (MM.out.ext E)
  replace xO3 := Lib.hid (xO3.out.ext E)
  replace yA0 := Lib.hid (yA0.out.ext E)
  clear E
  have yOO := Lib.hid yO
  clear yO
  go_wp2_with fail
  refine (eqInt64SS_same _ _ _ _ _ _ _ _ yOO.out.iis (SR0.out.ext U) (by omega) hG.out.inn).mono ?_
  rintro e W15 ⟨rfl, E⟩
  replace T := T.trans E
  replace U := U.trans E
  replace MM := Lib.hid (MM.out.ext E)
  replace xO3 := Lib.hid (xO3.out.ext E)
  replace yA0 := Lib.hid (yA0.out.ext E)
  replace yOO := Lib.hid (yOO.out.ext E)
  clear E
  go_wp2_with fail
  refine (heldInt64SS_any _ _ _ _ _ _ _ _ xO3.out MM.out (by omega) (by omega) (by omega) (by omega)).mono ?_
  rintro e W16 ⟨rfl, E⟩
  replace T := T.trans E
  replace U := U.trans E
  replace MM := Lib.hid (MM.out.ext E)
  replace xO3 := Lib.hid (xO3.out.ext E)
  replace yA0 := Lib.hid (yA0.out.ext E)
  replace yOO := Lib.hid (yOO.out.ext E)
  clear E
  go_wp2_with fail
  go_ret
  exact ⟨rfl, T⟩
open Go.ChangeShapes Go.WideShapes Go.ChangeAt
open Go.ChangeMaps (open_string shut_string)
namespace lawFnExactSamePlace
set_option maxRecDepth 100000 in
theorem lifted (os : Os) (started : os.Started) (H : Type) (enc : TypeId × Value → H) :
    ReturnsInHanded {} Try.checked os 3 .any (Rows.fnExactSamePlaceSpec.pre6 enc Try.prog Try.f3 Rows.fnExactSamePlaceRow.domain false) (Rows.fnExactSamePlaceSpec.post enc Try.prog Try.f3 false true false false) := by
  refine returnsInHanded_of_change (C := Try.checked) own started (by kernel_rfl) Try.func3
    (ChangeSpec.witness6 (enc := enc) (C := Try.checked) false ⟨#[], #[.slice none 0 0, .int .i64 0], []⟩ 8 (by kernel_rfl) (by kernel_rfl) (by kernel_rfl) (by kernel_rfl)) ?_
  intro W base args ds gs before hval0 hW hcnd _
  have hval : ∀ (j : Nat) t v, Try.f3.params[j]? = some t → args[j]? = some v → Value.okWide Try.prog W .any base t v := hval0
  have hW' := hW
  obtain ⟨p, q, hA0, hV, rfl, hfz, hnd⟩ := hW
  have hA : DataW.TrodAll enc Try.prog W 0 (fun _ => true) true Try.f3.params.toList args.toList ds p := hA0
  rw [Try.params3] at hA hval
  obtain ⟨v0, vs0, d0, ds0, p0, q0, hargs, rfl, rfl, h0, r0⟩ := trodAll_cons hA
  obtain ⟨v1, vs1, d1, ds1, p1, q1, rfl, rfl, rfl, h1, r1⟩ := trodAll_cons r0
  obtain ⟨rfl, rfl, rfl⟩ := trodAll_nil r1
  obtain rfl : args = #[v0, v1] := by cases args; simp_all
  obtain ⟨rfl, rfl⟩ := trodVars_none hV
  have k0 := h0
  have lt0 : ∀ x ∈ p0, x.block < W.heap.size := by obtain ⟨m, hm⟩ := k0; exact DataW.trod_lt m _ _ _ hm
  obtain ⟨a0, len0, cap0, rfl⟩ := okWide_slice Try.underlying22 (hval 0 22 v0 rfl rfl)
  obtain ⟨fuel0, hf0⟩ := h0
  obtain ⟨b0, c0, l0, e0, hl0, hc0, H0, Q0⟩ := open_rows Incident.cell (fun y => y.Sz ∧ y.Wf) Try.underlying22 (by kernel_rfl : Try.prog.cellsOf 58 = 6) (by decide) (fun _ _ _ => Incident.el) hf0
  simp only [Value.cells, List.cons.injEq, Value.slice.injEq, and_true] at e0
  obtain ⟨rfl, rfl, rfl⟩ := e0
  have k1 := h1
  have lt1 : ∀ x ∈ p1, x.block < W.heap.size := by obtain ⟨m, hm⟩ := k1; exact DataW.trod_lt m _ _ _ hm
  obtain ⟨x1, e1, _, _, w1⟩ := open_int Try.underlying2 (hval 1 2 v1 rfl rfl) h1
  subst e1
  clear hA0 hval0
  refine (samePlace_law W a0 cap0 l0 H0 Q0 (by omega) hl0 x1 (wf_bd w1)).mono fun e W' ⟨he, bx⟩ => ?_
  have bel := bx.below
  subst he
  exact ⟨_, rfl, _, _, _, [], _, [], hW', trodAll_mk1 (shut_bool Try.underlying4 _), (trodAll_cons_mk (Below.trod laidOut (by kernel_rfl) (of_decide_eq_true (by kernel_rfl)) k0 bel lt0) (trodAll_cons_mk (Below.trod laidOut (by kernel_rfl) (of_decide_eq_true (by kernel_rfl)) k1 bel lt1) trodAll_mk0)), rfl, bel.frame _, fun h => by cases h⟩
theorem over : Rows.fnExactSamePlaceRow.holds Try.pinned (OpenSpec.ofChange Rows.fnExactSamePlaceSpec) :=
  OpenClaim.holds_of_wide 3 Try.f3 rfl rfl rfl rfl rfl rfl rfl ⟨rfl, rfl, rfl, rfl, rfl⟩ rfl rfl rfl rfl rfl (by kernel_rfl) Try.func3 (by kernel_rfl)
    (of_decide_eq_true (by kernel_rfl)) (by unfold Func.isWrapper; first | (rw [if_pos (by decide +kernel)]; kernel_rfl) | (rw [if_neg (by decide +kernel)]; exact ⟨rfl, rfl⟩))
    (fun os started H enc _ => lifted os started H enc)
/-- The given statement. -/
theorem proved : Rows.FnExactSamePlaceSaid := over
end lawFnExactSamePlace
end Go.Proofs.Ytjfmdcgkdfahoaa
